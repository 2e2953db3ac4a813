/- Texts of a proof, one behind the other; the last of these: Rows of numbers and of points; the points of coefficients; no condition. -/
import Derived.Test.YtdeholmpcbakbaaZ7
section
/- Lengths, powers, inverses; no condition. -/
set_option linter.unusedVariables false
set_option linter.unusedSimpArgs false
set_option maxRecDepth 100000
set_option pp.maxSteps 3000
namespace Go.Proofs.Ytdeholmpcbakbaa
open Go Go.Wit

theorem S_Len64 {m : Mem} {K : AV → Mem → Prop} {x : Nat} (hx : x < 18446744073709551616) (h : ∀ k : Nat, k ≤ 64 → x < 2 ^ k → K (.int .i64 k) m) : ACall Pg F_bits_Len64 [.int .u64 (x : Int)] m K := by
  refine lift_flat (S_Len64a x hx) (.cons _ _ _ _ lend_int .nil) ?_
  rintro v ⟨k, h1, h2, rfl⟩
  exact h k h1 h2

theorem len_up {a i k : Nat} (ha : a / 18446744073709551616 ^ (i + 1) = 0) (h : a / 18446744073709551616 ^ i % 18446744073709551616 < 2 ^ k) : a < 2 ^ (64 * i + k) := by
  have h1 : a / 18446744073709551616 ^ i < 18446744073709551616 := by
    rw [Nat.pow_succ, ← Nat.div_div_eq_div_mul] at ha
    omega
  rw [Nat.mod_eq_of_lt h1, Nat.div_lt_iff_lt_mul (Nat.pow_pos (by decide)), show 18446744073709551616 = 2 ^ 64 by decide, ← Nat.pow_mul, ← Nat.pow_add, Nat.add_comm] at h
  exact h
theorem len_dn {a i : Nat} (ha : a / 18446744073709551616 ^ (i + 1) = 0) (h : a / 18446744073709551616 ^ i % 18446744073709551616 = 0) : a / 18446744073709551616 ^ i = 0 := by
  have h1 : a / 18446744073709551616 ^ i < 18446744073709551616 := by
    rw [Nat.pow_succ, ← Nat.div_div_eq_div_mul] at ha
    omega
  rwa [Nat.mod_eq_of_lt h1] at h
theorem neb {x : Nat} {p q : Prop} (h1 : x ≠ 0 → p) (h2 : x = 0 → q) : condB ((x : Int) != 0) p q := by
  refine condB_mk (fun h => h1 ?_) (fun h => h2 ?_)
  · rintro rfl; exact absurd h (by decide)
  · have := (bne_eq_false_iff_eq ..).1 h; omega
theorem S_LLen0 (a : Nat) (ha : a < w256) : ACall Pg F_limb_Len [numA a] [] (fun v _ => (∃ k : Nat, k ≤ 256 ∧ a < 2 ^ k ∧ v = .int .i64 (k : Int)) ∧ Flat true v) := by
  have z4 : a / 18446744073709551616 ^ 4 = 0 := Nat.div_eq_of_lt ha
  refine B_limb_Len ⟨rfl, ?_⟩
  conv => whnf
  refine loop_rounds mixed 5 ?_
  conv => whnf
  refine neb (x := a / 18446744073709551616 ^ 3 % 18446744073709551616) (fun hn => ?_) (fun z => ?_)
  · conv => whnf
    refine S_Len64 (x := a / 18446744073709551616 ^ 3 % 18446744073709551616) (Nat.mod_lt _ (by decide)) (fun k k1 k2 => ?_)
    conv => whnf
    refine ⟨⟨64 * 3 + k, by omega, len_up z4 k2, ?_⟩, .int _ _⟩
    rw [w64 (n := 64 * 3) (by omega) (by omega), w64 (by omega) (by omega)]
    rfl
  replace z3 := len_dn z4 z
  conv => whnf
  rw [show IntKind.i64.wrap (3 - 1) = 2 from rfl]
  refine neb (x := a / 18446744073709551616 ^ 2 % 18446744073709551616) (fun hn => ?_) (fun z => ?_)
  · conv => whnf
    refine S_Len64 (x := a / 18446744073709551616 ^ 2 % 18446744073709551616) (Nat.mod_lt _ (by decide)) (fun k k1 k2 => ?_)
    conv => whnf
    refine ⟨⟨64 * 2 + k, by omega, len_up z3 k2, ?_⟩, .int _ _⟩
    rw [w64 (n := 64 * 2) (by omega) (by omega), w64 (by omega) (by omega)]
    rfl
  replace z2 := len_dn z3 z
  conv => whnf
  rw [show IntKind.i64.wrap (2 - 1) = 1 from rfl]
  refine neb (x := a / 18446744073709551616 ^ 1 % 18446744073709551616) (fun hn => ?_) (fun z => ?_)
  · conv => whnf
    refine S_Len64 (x := a / 18446744073709551616 ^ 1 % 18446744073709551616) (Nat.mod_lt _ (by decide)) (fun k k1 k2 => ?_)
    conv => whnf
    refine ⟨⟨64 * 1 + k, by omega, len_up z2 k2, ?_⟩, .int _ _⟩
    rw [w64 (n := 64 * 1) (by omega) (by omega), w64 (by omega) (by omega)]
    rfl
  replace z1 := len_dn z2 z
  conv => whnf
  rw [show IntKind.i64.wrap (1 - 1) = 0 from rfl]
  refine neb (x := a / 18446744073709551616 ^ 0 % 18446744073709551616) (fun hn => ?_) (fun z => ?_)
  · conv => whnf
    refine S_Len64 (x := a / 18446744073709551616 ^ 0 % 18446744073709551616) (Nat.mod_lt _ (by decide)) (fun k k1 k2 => ?_)
    conv => whnf
    refine ⟨⟨64 * 0 + k, by omega, len_up z1 k2, ?_⟩, .int _ _⟩
    rw [w64 (n := 64 * 0) (by omega) (by omega), w64 (by omega) (by omega)]
    rfl
  replace z0 := len_dn z1 z
  conv => whnf
  refine ⟨⟨0, by omega, by omega, rfl⟩, .int _ _⟩
theorem S_LLen {m : Mem} {K : AV → Mem → Prop} {a : Nat} (ha : a < w256) (h : ∀ k : Nat, k ≤ 256 → a < 2 ^ k → K (.int .i64 k) m) : ACall Pg F_limb_Len [numA a] m K := by
  refine lift_flat (S_LLen0 a ha) (.cons _ _ _ _ lend_numA .nil) ?_
  rintro v ⟨k, h1, h2, rfl⟩
  exact h k h1 h2

theorem pow_sq_mod {a E n r o : Nat} (ho : o = a ^ E % n) (hr : r = o * o % n) : r = a ^ (2 * E) % n := by
  rw [hr, ho, ← Nat.mul_mod, ← Nat.pow_two, ← Nat.pow_mul, Nat.mul_comm E]
theorem pow_one_mod {a E n r o : Nat} (ho : o = a ^ E % n) (hr : r = o * a % n) : r = a ^ (E + 1) % n := by
  rw [hr, ho, Nat.pow_succ, Nat.mod_mul_mod]
theorem half_bit (e t : Nat) : e / 2 ^ t = 2 * (e / 2 ^ (t + 1)) + e / 2 ^ t % 2 := by
  rw [Nat.pow_succ, ← Nat.div_div_eq_div_mul]; omega
theorem bit_lt (x : Nat) : x % 2 = 0 ∨ x % 2 = 1 := by omega
theorem S_Pow0_0 (a e : Nat) (ha : a < w256) (he : e < w256) : ACall Pg F_field_Pow [.int .i64 0, numA a, numA e] [] (fun v _ => v = numA (a ^ e % pP) ∧ Flat true v) := by
  refine B_field_Pow ⟨rfl, ?_⟩
  conv => whnf
  refine S_less_0 ?_
  conv => whnf
  refine S_LLen he (fun k k1 k2 => ?_)
  conv => whnf
  have e10 : IntKind.i64.wrap ((k : Int) - 1) = (k : Int) - 1 := w64 (by omega) (by omega)
  refine loop_wk mixed (I := fun q l m => ∃ (v : Int) (b : Nat), l = [(0, .int .i64 0), (4, .ptr 0 0 0), (5, .ptr 1 0 0), (6, .ptr 2 0 0), (9, .ptr 3 0 0), (10, .int .i64 v)] ∧ m = [some ⟨1, 4, lstG 1 (numL a)⟩, some ⟨1, 4, lstG 1 (numL e)⟩, some ⟨1, 4, lstG 1 (u4 0 0 0 0)⟩, some ⟨1, 4, lstG 1 (numL b)⟩] ∧
      v = (q : Int) - 1 ∧ q ≤ 256 ∧ b = a ^ (e / 2 ^ q) % pP) k
    (l0 := [(0, .int .i64 0), (4, .ptr 0 0 0), (5, .ptr 1 0 0), (6, .ptr 2 0 0), (9, .ptr 3 0 0), (10, .int .i64 ((k : Int) - 1))]) (m0 := [some ⟨1, 4, lstG 1 (numL a)⟩, some ⟨1, 4, lstG 1 (numL e)⟩, some ⟨1, 4, lstG 1 (u4 0 0 0 0)⟩, some ⟨1, 4, lstG 1 (numL 1)⟩])
    [some 0, some 1, some 2, some 4] ⟨_, 1, rfl, rfl, rfl, k1, by rw [Nat.div_eq_of_lt k2, Nat.pow_zero, Nat.mod_eq_of_lt (by decide)]⟩ ?_ ?_
  · refine .mk0 ⟨Flat.i rfl, .ptr _ _ _ _ rfl, .ptr _ _ _ _ rfl, .ptr _ _ _ _ rfl, .ptr _ _ _ _ rfl, Flat.i e10, trivial⟩ ⟨.old 0 0 _ _ rfl rfl ⟨rfl, Nat.le_refl _, fun i j hi hj => .eq _ _ rfl flat_numG⟩, .old 1 1 _ _ rfl rfl ⟨rfl, Nat.le_refl _, fun i j hi hj => .eq _ _ rfl flat_numG⟩,
      .old 2 2 _ _ rfl rfl ⟨rfl, Nat.le_refl _, fun i j hi hj => ?_⟩, .old 3 4 _ _ rfl rfl ⟨rfl, Nat.le_refl _, fun i j hi hj => ?_⟩, trivial⟩ rfl rfl
    · have hj : j < 1 := hj
      have hi : i < 4 := hi
      obtain rfl : j = 0 := by omega
      have : i = 0 ∨ i = 1 ∨ i = 2 ∨ i = 3 := by omega
      rcases this with rfl | rfl | rfl | rfl <;> exact .eq _ _ rfl (.int _ _)
    · have hj : j < 1 := hj
      have hi : i < 4 := hi
      obtain rfl : j = 0 := by omega
      have : i = 0 ∨ i = 1 ∨ i = 2 ∨ i = 3 := by omega
      rcases this with rfl | rfl | rfl | rfl <;> exact .eq _ _ rfl (.int _ _)
  · rintro q l m ⟨v, b, rfl, rfl, hv, hq, hb⟩
    have hp0 : 0 < pP := by decide
    have hb1 : b < w256 := by rw [hb]; exact Nat.lt_trans (Nat.mod_lt _ hp0) (by decide)
    conv => whnf
    refine condB_mk (fun hc => ?_) (fun hc => ?_)
    · have hc : v ≥ 0 := of_decide_eq_true hc
      obtain ⟨t, rfl⟩ : ∃ t, q = t + 1 := ⟨q - 1, by omega⟩
      obtain rfl : v = (t : Int) := by omega
      conv => whnf
      refine S_FMul_0 hb1 hb1 (fun r hr => ?_)
      conv => whnf
      try (refine ⟨⟨[], rfl⟩, ?_⟩; conv => whnf)
      have hr2 := pow_sq_mod hb hr
      have hr1 : r < w256 := by rw [hr2]; exact Nat.lt_trans (Nat.mod_lt _ hp0) (by decide)
      refine S_LBit (by omega) (fun c hcc => ?_)
      conv => whnf
      try (refine ⟨⟨[], rfl⟩, ?_⟩; conv => whnf)
      have ee := half_bit e t
      have e5 : IntKind.i64.wrap ((t : Int) - 1) = (t : Int) - 1 := w64 (by omega) (by omega)
      rcases bit_lt (e / 2 ^ t) with hz | hz
      · obtain rfl : c = 0 := by omega
        conv => whnf
        refine ⟨t, _, _, [some 0, some 1, some 2, some 3], Nat.lt_succ_self _, ⟨(t : Int) - 1, r, rfl, rfl, rfl, by omega, by rw [hr2, ee, hz]; rfl⟩, ?_⟩
        refine .mk0 ⟨Flat.i rfl, .ptr _ _ _ _ rfl, .ptr _ _ _ _ rfl, .ptr _ _ _ _ rfl, .ptr _ _ _ _ rfl, Flat.i e5, trivial⟩ ⟨.old 0 0 _ _ rfl rfl ⟨rfl, Nat.le_refl _, fun i j hi hj => .eq _ _ rfl flat_numG⟩, .old 1 1 _ _ rfl rfl ⟨rfl, Nat.le_refl _, fun i j hi hj => .eq _ _ rfl flat_numG⟩,
          .old 2 2 _ _ rfl rfl ⟨rfl, Nat.le_refl _, fun i j hi hj => .eq _ _ rfl flat_u4G⟩, .old 3 3 _ _ rfl rfl ⟨rfl, Nat.le_refl _, fun i j hi hj => .eq _ _ rfl flat_numG⟩, trivial⟩ rfl rfl
      · obtain rfl : c = 1 := by omega
        conv => whnf
        refine S_FMul_0 hr1 ha (fun s hs => ?_)
        conv => whnf
        try (refine ⟨⟨[], rfl⟩, ?_⟩; conv => whnf)
        have hs2 := pow_one_mod hr2 hs
        refine ⟨t, _, _, [some 0, some 1, some 2, some 3], Nat.lt_succ_self _, ⟨(t : Int) - 1, s, rfl, rfl, rfl, by omega, by rw [hs2, ee, hz]⟩, ?_⟩
        refine .mk0 ⟨Flat.i rfl, .ptr _ _ _ _ rfl, .ptr _ _ _ _ rfl, .ptr _ _ _ _ rfl, .ptr _ _ _ _ rfl, Flat.i e5, trivial⟩ ⟨.old 0 0 _ _ rfl rfl ⟨rfl, Nat.le_refl _, fun i j hi hj => .eq _ _ rfl flat_numG⟩, .old 1 1 _ _ rfl rfl ⟨rfl, Nat.le_refl _, fun i j hi hj => .eq _ _ rfl flat_numG⟩,
          .old 2 2 _ _ rfl rfl ⟨rfl, Nat.le_refl _, fun i j hi hj => .eq _ _ rfl flat_u4G⟩, .old 3 3 _ _ rfl rfl ⟨rfl, Nat.le_refl _, fun i j hi hj => .eq _ _ rfl flat_numG⟩, trivial⟩ rfl rfl
    · have hc : ¬ v ≥ 0 := of_decide_eq_false hc
      obtain rfl : q = 0 := by omega
      conv => whnf
      rw [Nat.pow_zero, Nat.div_one] at hb
      rw [← hb]
      exact ⟨rfl, flat_numA⟩
theorem S_Pow_0 {m : Mem} {K : AV → Mem → Prop} {a e : Nat} (ha : a < w256) (he : e < w256) (h : ∀ r, r = a ^ e % pP → K (numA r) m) : ACall Pg F_field_Pow [.int .i64 0, numA a, numA e] m K := by
  refine lift_flat (S_Pow0_0 a e ha he) (.cons _ _ _ _ lend_int (.cons _ _ _ _ lend_numA (.cons _ _ _ _ lend_numA .nil))) ?_
  rintro v rfl
  exact h _ rfl
theorem S_RPow0_0 (a e : Nat) (ha : a < w256) (he : e < w256) : ACall Pg F_witanref01_Pow [.int .i64 0, numA a, numA e] [] (fun v _ => v = numA (a ^ e % pP) ∧ Flat true v) := by
  refine B_witanref01_Pow ⟨rfl, ?_⟩
  conv => whnf
  refine S_ok_0 ?_
  conv => whnf
  refine loop_wk mixed (I := fun q l m => ∃ (v : Int) (b : Nat), l = [(0, .int .i64 0), (4, .ptr 0 0 0), (5, .ptr 1 0 0), (6, .ptr 2 0 0), (7, .ptr 3 0 0), (8, .int .i64 v)] ∧ m = [some ⟨1, 4, lstG 1 (numL a)⟩, some ⟨1, 4, lstG 1 (numL e)⟩, some ⟨1, 4, lstG 1 (u4 0 0 0 0)⟩, some ⟨1, 4, lstG 1 (numL b)⟩] ∧
      v = (q : Int) - 1 ∧ q ≤ 256 ∧ b = a ^ (e / 2 ^ q) % pP) 256
    (l0 := [(0, .int .i64 0), (4, .ptr 0 0 0), (5, .ptr 1 0 0), (6, .ptr 2 0 0), (7, .ptr 3 0 0), (8, .int .i64 255)]) (m0 := [some ⟨1, 4, lstG 1 (numL a)⟩, some ⟨1, 4, lstG 1 (numL e)⟩, some ⟨1, 4, lstG 1 (u4 0 0 0 0)⟩, some ⟨1, 4, lstG 1 (numL 1)⟩])
    [some 0, some 1, some 2, some 3] ⟨_, 1, rfl, rfl, rfl, (Nat.le_refl _), by rw [Nat.div_eq_of_lt he, Nat.pow_zero, Nat.mod_eq_of_lt (by decide)]⟩ ?_ ?_
  · refine .mk0 ⟨Flat.i rfl, .ptr _ _ _ _ rfl, .ptr _ _ _ _ rfl, .ptr _ _ _ _ rfl, .ptr _ _ _ _ rfl, Flat.i rfl, trivial⟩ ⟨.old 0 0 _ _ rfl rfl ⟨rfl, Nat.le_refl _, fun i j hi hj => .eq _ _ rfl flat_numG⟩, .old 1 1 _ _ rfl rfl ⟨rfl, Nat.le_refl _, fun i j hi hj => .eq _ _ rfl flat_numG⟩,
      .old 2 2 _ _ rfl rfl ⟨rfl, Nat.le_refl _, fun i j hi hj => ?_⟩, .old 3 3 _ _ rfl rfl ⟨rfl, Nat.le_refl _, fun i j hi hj => ?_⟩, trivial⟩ rfl rfl
    · have hj : j < 1 := hj
      have hi : i < 4 := hi
      obtain rfl : j = 0 := by omega
      have : i = 0 ∨ i = 1 ∨ i = 2 ∨ i = 3 := by omega
      rcases this with rfl | rfl | rfl | rfl <;> exact .eq _ _ rfl (.int _ _)
    · have hj : j < 1 := hj
      have hi : i < 4 := hi
      obtain rfl : j = 0 := by omega
      have : i = 0 ∨ i = 1 ∨ i = 2 ∨ i = 3 := by omega
      rcases this with rfl | rfl | rfl | rfl <;> exact .eq _ _ rfl (.int _ _)
  · rintro q l m ⟨v, b, rfl, rfl, hv, hq, hb⟩
    have hp0 : 0 < pP := by decide
    have hb1 : b < w256 := by rw [hb]; exact Nat.lt_trans (Nat.mod_lt _ hp0) (by decide)
    conv => whnf
    refine condB_mk (fun hc => ?_) (fun hc => ?_)
    · have hc : v ≥ 0 := of_decide_eq_true hc
      obtain ⟨t, rfl⟩ : ∃ t, q = t + 1 := ⟨q - 1, by omega⟩
      obtain rfl : v = (t : Int) := by omega
      conv => whnf
      refine S_RFMul_0 hb1 hb1 (fun r hr => ?_)
      conv => whnf
      try (refine ⟨⟨[], rfl⟩, ?_⟩; conv => whnf)
      have hr2 := pow_sq_mod hb hr
      have hr1 : r < w256 := by rw [hr2]; exact Nat.lt_trans (Nat.mod_lt _ hp0) (by decide)
      refine S_RBit (by omega) (fun c hcc => ?_)
      conv => whnf
      try (refine ⟨⟨[], rfl⟩, ?_⟩; conv => whnf)
      have ee := half_bit e t
      have e5 : IntKind.i64.wrap ((t : Int) - 1) = (t : Int) - 1 := w64 (by omega) (by omega)
      rcases bit_lt (e / 2 ^ t) with hz | hz
      · obtain rfl : c = 0 := by omega
        conv => whnf
        refine ⟨t, _, _, [some 0, some 1, some 2, some 3], Nat.lt_succ_self _, ⟨(t : Int) - 1, r, rfl, rfl, rfl, by omega, by rw [hr2, ee, hz]; rfl⟩, ?_⟩
        refine .mk0 ⟨Flat.i rfl, .ptr _ _ _ _ rfl, .ptr _ _ _ _ rfl, .ptr _ _ _ _ rfl, .ptr _ _ _ _ rfl, Flat.i e5, trivial⟩ ⟨.old 0 0 _ _ rfl rfl ⟨rfl, Nat.le_refl _, fun i j hi hj => .eq _ _ rfl flat_numG⟩, .old 1 1 _ _ rfl rfl ⟨rfl, Nat.le_refl _, fun i j hi hj => .eq _ _ rfl flat_numG⟩,
          .old 2 2 _ _ rfl rfl ⟨rfl, Nat.le_refl _, fun i j hi hj => .eq _ _ rfl flat_u4G⟩, .old 3 3 _ _ rfl rfl ⟨rfl, Nat.le_refl _, fun i j hi hj => .eq _ _ rfl flat_numG⟩, trivial⟩ rfl rfl
      · obtain rfl : c = 1 := by omega
        conv => whnf
        refine S_RFMul_0 hr1 ha (fun s hs => ?_)
        conv => whnf
        try (refine ⟨⟨[], rfl⟩, ?_⟩; conv => whnf)
        have hs2 := pow_one_mod hr2 hs
        refine ⟨t, _, _, [some 0, some 1, some 2, some 3], Nat.lt_succ_self _, ⟨(t : Int) - 1, s, rfl, rfl, rfl, by omega, by rw [hs2, ee, hz]⟩, ?_⟩
        refine .mk0 ⟨Flat.i rfl, .ptr _ _ _ _ rfl, .ptr _ _ _ _ rfl, .ptr _ _ _ _ rfl, .ptr _ _ _ _ rfl, Flat.i e5, trivial⟩ ⟨.old 0 0 _ _ rfl rfl ⟨rfl, Nat.le_refl _, fun i j hi hj => .eq _ _ rfl flat_numG⟩, .old 1 1 _ _ rfl rfl ⟨rfl, Nat.le_refl _, fun i j hi hj => .eq _ _ rfl flat_numG⟩,
          .old 2 2 _ _ rfl rfl ⟨rfl, Nat.le_refl _, fun i j hi hj => .eq _ _ rfl flat_u4G⟩, .old 3 3 _ _ rfl rfl ⟨rfl, Nat.le_refl _, fun i j hi hj => .eq _ _ rfl flat_numG⟩, trivial⟩ rfl rfl
    · have hc : ¬ v ≥ 0 := of_decide_eq_false hc
      obtain rfl : q = 0 := by omega
      conv => whnf
      rw [Nat.pow_zero, Nat.div_one] at hb
      rw [← hb]
      exact ⟨rfl, flat_numA⟩
theorem S_RPow_0 {m : Mem} {K : AV → Mem → Prop} {a e : Nat} (ha : a < w256) (he : e < w256) (h : ∀ r, r = a ^ e % pP → K (numA r) m) : ACall Pg F_witanref01_Pow [.int .i64 0, numA a, numA e] m K := by
  refine lift_flat (S_RPow0_0 a e ha he) (.cons _ _ _ _ lend_int (.cons _ _ _ _ lend_numA (.cons _ _ _ _ lend_numA .nil))) ?_
  rintro v rfl
  exact h _ rfl
end Go.Proofs.Ytdeholmpcbakbaa
end

section
/- Points of the program: from three numbers to two, multiples; no condition. -/
set_option linter.unusedVariables false
set_option linter.unusedSimpArgs false
set_option maxRecDepth 100000
set_option pp.maxSteps 3000
namespace Go.Proofs.Ytdeholmpcbakbaa
open Go Go.Wit

def z12 : List AV := [.int .u64 0, .int .u64 0, .int .u64 0, .int .u64 0, .int .u64 0, .int .u64 0, .int .u64 0, .int .u64 0, .int .u64 0, .int .u64 0, .int .u64 0, .int .u64 0]
end Go.Proofs.Ytdeholmpcbakbaa
end

section
/- What is a point, and the program's sums, multiples, counterparts of any three values; no condition. -/
set_option linter.unusedVariables false
set_option linter.unusedSimpArgs false
set_option maxRecDepth 100000
set_option pp.maxSteps 1500
namespace Go.Proofs.Ytdeholmpcbakbaa
open Go Go.Wit

/-- These values are no point's. -/
def Bad (i : Bool) (x y : Nat) : Prop := ∀ P, On P → rawA i x y ≠ ptA P

theorem S_right {m : Mem} {K : AV → Mem → Prop} {x : Fp} (h : ∀ r : Fp, r = x * x * x + 7 → K (numA r.val) m) : ACall Pg F_curve_right [numA x.val] m K := by
  have h0 : ACall Pg F_curve_right [numA x.val] [] (fun v _ => v = numA (x * x * x + 7).val ∧ Flat true v) := by
    refine B_curve_right ⟨rfl, ?_⟩
    conv => whnf
    refine S_cmul (fun a ha => ?_)
    conv => whnf
    repeat (refine ⟨⟨[], rfl⟩, ?_⟩; conv => whnf)
    refine S_cmul (fun b hb => ?_)
    conv => whnf
    repeat (refine ⟨⟨[], rfl⟩, ?_⟩; conv => whnf)
    refine S_cadd (y := 7) (fun c hc => ?_)
    conv => whnf
    repeat (refine ⟨⟨[], rfl⟩, ?_⟩; conv => whnf)
    subst ha hb
    rw [← hc]
    exact ⟨rfl, flat_numA⟩
  refine lift_flat h0 (.cons _ _ _ _ lend_numA .nil) ?_
  rintro v rfl
  exact h _ rfl

def eqP (x y : Nat) : Bool := (true == true) && (lim x 0 == 0 && (lim x 1 == 0 && (lim x 2 == 0 && (lim x 3 == 0 && (lim y 0 == 0 && (lim y 1 == 0 && (lim y 2 == 0 && (lim y 3 == 0 && true))))))))
theorem eqP_iff {x y : Nat} (hx : x < w256) (hy : y < w256) : eqP x y = decide (x = 0 ∧ y = 0) := by
  have h1 := eqZ_iff hx
  have h2 := eqZ_iff hy
  have e : eqP x y = (eqZ x && eqZ y) := by
    unfold eqP eqZ
    simp [Bool.and_assoc]
  rw [e, h1, h2]
  simp
theorem c_inf {x y : Nat} {p q : Prop} (hx : x < w256) (hy : y < w256) (h1 : x = 0 → y = 0 → q) (h2 : ¬ (x = 0 ∧ y = 0) → p) : condB (bif true then !(eqP x y) else eqP x y) p q := by
  rw [eqP_iff hx hy]
  by_cases h : x = 0 ∧ y = 0
  · rw [decide_eq_true h]; exact h1 h.1 h.2
  · rw [decide_eq_false h]; exact h2 h
theorem cmpZ_or {a b : Nat} {r : Int} (hr : r = cmpZ a b) : (a < b ∧ r = -1) ∨ (b ≤ a ∧ (r = 0 ∨ r = 1)) := by
  unfold cmpZ at hr
  split at hr
  · exact .inl ⟨by assumption, hr⟩
  · split at hr
    · exact .inr ⟨by omega, .inr hr⟩
    · exact .inr ⟨by omega, .inl hr⟩
theorem S_Check0 (i : Bool) (x y : Nat) (hx : x < w256) (hy : y < w256) : ACall Pg F_curve_Check [rawA i x y] [] (fun v _ => ((∃ P, On P ∧ rawA i x y = ptA P ∧ v = .int .i64 0) ∨ (Bad i x y ∧ v = .int .i64 3)) ∧ Flat true v) := by
  refine B_curve_Check ⟨rfl, ?_⟩
  cases i with
  | true =>
    conv => whnf
    refine c_inf hx hy (fun h1 h2 => ?_) (fun h => ?_)
    · conv => whnf
      subst h1 h2
      exact ⟨.inl ⟨.inf, trivial, rfl, rfl⟩, .int _ _⟩
    · conv => whnf
      refine ⟨.inr ⟨fun P oP e => ?_, rfl⟩, .int _ _⟩
      obtain ⟨e1, e2, e3⟩ := rawA_inj hx hy (xN_w P) (yN_w P) e
      cases P with
      | inf => exact h ⟨e2, e3⟩
      | aff u v => cases e1
  | false =>
    have bad : ∀ {P}, On P → rawA false x y = ptA P → x < pP ∧ y < pP := fun {P} oP e => by
      obtain ⟨e1, e2, e3⟩ := rawA_inj hx hy (xN_w P) (yN_w P) e
      exact ⟨e2 ▸ xN_lt P, e3 ▸ yN_lt P⟩
    conv => whnf
    refine S_Prime_0 (fun p hp => ?_)
    conv => whnf
    refine S_LCmp hx (by rw [hp]; decide) (fun r hr => ?_)
    conv => whnf
    repeat (refine ⟨⟨[], rfl⟩, ?_⟩; conv => whnf)
    rcases cmpZ_or hr with ⟨h1, rfl⟩ | ⟨h1, rfl | rfl⟩
    rotate_left
    · conv => whnf
      repeat (refine ⟨⟨[], rfl⟩, ?_⟩; conv => whnf)
      exact ⟨.inr ⟨fun P oP e => by have := (bad oP e).1; omega, rfl⟩, .int _ _⟩
    · conv => whnf
      repeat (refine ⟨⟨[], rfl⟩, ?_⟩; conv => whnf)
      exact ⟨.inr ⟨fun P oP e => by have := (bad oP e).1; omega, rfl⟩, .int _ _⟩
    conv => whnf
    refine S_LCmp hy (by rw [hp]; decide) (fun r hr => ?_)
    conv => whnf
    repeat (refine ⟨⟨[], rfl⟩, ?_⟩; conv => whnf)
    rcases cmpZ_or hr with ⟨h2, rfl⟩ | ⟨h2, rfl | rfl⟩
    rotate_left
    · conv => whnf
      repeat (refine ⟨⟨[], rfl⟩, ?_⟩; conv => whnf)
      exact ⟨.inr ⟨fun P oP e => by have := (bad oP e).2; omega, rfl⟩, .int _ _⟩
    · conv => whnf
      repeat (refine ⟨⟨[], rfl⟩, ?_⟩; conv => whnf)
      exact ⟨.inr ⟨fun P oP e => by have := (bad oP e).2; omega, rfl⟩, .int _ _⟩
    conv => whnf
    obtain ⟨X, rfl⟩ : ∃ X : Fp, x = X.val := ⟨⟨x, by omega⟩, rfl⟩
    obtain ⟨Y, rfl⟩ : ∃ Y : Fp, y = Y.val := ⟨⟨y, by omega⟩, rfl⟩
    refine S_cmul (x := Y) (y := Y) (fun yy hyy => ?_)
    conv => whnf
    repeat (refine ⟨⟨[], rfl⟩, ?_⟩; conv => whnf)
    refine S_right (x := X) (fun rr hrr => ?_)
    conv => whnf
    repeat (refine ⟨⟨[], rfl⟩, ?_⟩; conv => whnf)
    refine c_ne (a := yy.val) (b := rr.val) (fp_w yy) (fp_w rr) (fun e => ?_) (fun e => ?_)
    · conv => whnf
      refine ⟨.inr ⟨fun P oP e2 => ?_, rfl⟩, .int _ _⟩
      obtain ⟨e3, e4, e5⟩ := rawA_inj hx hy (xN_w P) (yN_w P) e2
      cases P with
      | inf => cases e3
      | aff u v =>
        obtain rfl : X = u := Fin.ext e4
        obtain rfl : Y = v := Fin.ext e5
        exact e (congrArg Fin.val ((hyy.trans oP).trans hrr.symm))
    · conv => whnf
      have e : yy = rr := Fin.ext e
      exact ⟨.inl ⟨.aff X Y, by show Y * Y = X * X * X + 7; rw [← hyy, ← hrr, e], rfl, rfl⟩, .int _ _⟩

theorem S_Check {m : Mem} {K : AV → Mem → Prop} {i : Bool} {x y : Nat} (hx : x < w256) (hy : y < w256) (h1 : ∀ P, On P → rawA i x y = ptA P → K (.int .i64 0) m) (h2 : Bad i x y → K (.int .i64 3) m) : ACall Pg F_curve_Check [rawA i x y] m K := by
  refine lift_flat (S_Check0 i x y hx hy) (.cons _ _ _ _ (lend_flat flat_rawA) .nil) ?_
  rintro v (⟨P, oP, e, rfl⟩ | ⟨hb, rfl⟩)
  · exact h1 P oP e
  · exact h2 hb
theorem S_Check_ok {m : Mem} {K : AV → Mem → Prop} {P : Pt Fp} (oP : On P) (h : K (.int .i64 0) m) : ACall Pg F_curve_Check [ptA P] m K :=
  S_Check (xN_w P) (yN_w P) (fun _ _ _ => h) (fun hb => absurd rfl (hb P oP))
abbrev noPt : AV := rawA false 0 0
theorem flat_no (nv : Bool) : Flat nv (rawA false 0 0) := flat_rawA
theorem zero_sub_fp (y : Fp) : 0 - y = -y := by grind
end Go.Proofs.Ytdeholmpcbakbaa
end

section
/- Points told by three numbers: the reference's sums; no condition. -/
set_option linter.unusedVariables false
set_option linter.unusedSimpArgs false
set_option maxRecDepth 100000
set_option pp.maxSteps 1500
namespace Go.Proofs.Ytdeholmpcbakbaa
open Go Go.Wit

theorem S_radd {m : Mem} {K : AV → Mem → Prop} {x y : Fp} (h : ∀ z : Fp, z = x + y → K (numA z.val) m) : ACall Pg F_witanref01_add [numA x.val, numA y.val] m K := by
  have h0 : ACall Pg F_witanref01_add [numA x.val, numA y.val] [] (fun v _ => v = numA (x + y).val ∧ Flat true v) := by
    refine B_witanref01_add ⟨rfl, ?_⟩
    conv => whnf
    refine S_RFAdd_0 (fp_w x) (fp_w y) (fun r hr => ?_)
    conv => whnf
    rw [fp_add, ← hr]
    exact ⟨rfl, flat_numA⟩
  refine lift_flat h0 (.cons _ _ _ _ lend_numA (.cons _ _ _ _ lend_numA .nil)) ?_
  rintro v rfl
  exact h _ rfl
theorem S_rmul {m : Mem} {K : AV → Mem → Prop} {x y : Fp} (h : ∀ z : Fp, z = x * y → K (numA z.val) m) : ACall Pg F_witanref01_mul [numA x.val, numA y.val] m K := by
  have h0 : ACall Pg F_witanref01_mul [numA x.val, numA y.val] [] (fun v _ => v = numA (x * y).val ∧ Flat true v) := by
    refine B_witanref01_mul ⟨rfl, ?_⟩
    conv => whnf
    refine S_RFMul_0 (fp_w x) (fp_w y) (fun r hr => ?_)
    conv => whnf
    rw [fp_mul, ← hr]
    exact ⟨rfl, flat_numA⟩
  refine lift_flat h0 (.cons _ _ _ _ lend_numA (.cons _ _ _ _ lend_numA .nil)) ?_
  rintro v rfl
  exact h _ rfl
theorem S_rsub {m : Mem} {K : AV → Mem → Prop} {x y : Fp} (h : ∀ z : Fp, z = x - y → K (numA z.val) m) : ACall Pg F_witanref01_sub [numA x.val, numA y.val] m K := by
  have h0 : ACall Pg F_witanref01_sub [numA x.val, numA y.val] [] (fun v _ => v = numA (x - y).val ∧ Flat true v) := by
    refine B_witanref01_sub ⟨rfl, ?_⟩
    conv => whnf
    refine S_RFSub_0 (fp_w x) (fp_w y) (fun r hr => ?_)
    conv => whnf
    rw [Nat.mod_eq_of_lt y.isLt, Nat.add_comm] at hr
    rw [fp_sub, ← hr]
    exact ⟨rfl, flat_numA⟩
  refine lift_flat h0 (.cons _ _ _ _ lend_numA (.cons _ _ _ _ lend_numA .nil)) ?_
  rintro v rfl
  exact h _ rfl

theorem S_rInf {m : Mem} {K : AV → Mem → Prop} (h : K (ptA .inf) m) : ACall Pg F_witanref01_Inf [] m K := by
  have h0 : ACall Pg F_witanref01_Inf [] [] (fun v _ => v = ptA .inf ∧ Flat true v) := by
    refine B_witanref01_Inf ⟨rfl, ?_⟩
    conv => whnf
    show rawA true 0 0 = _ ∧ Flat true (rawA true 0 0)
    exact ⟨rfl, flat_rawA⟩
  refine lift_flat h0 .nil ?_
  rintro v rfl
  exact h
end Go.Proofs.Ytdeholmpcbakbaa
end

section
/- The reference's multiples, sums, counterparts of points, and what is one; no condition. -/
set_option linter.unusedVariables false
set_option linter.unusedSimpArgs false
set_option maxRecDepth 100000
set_option pp.maxSteps 1500
namespace Go.Proofs.Ytdeholmpcbakbaa
open Go Go.Wit

end Go.Proofs.Ytdeholmpcbakbaa
end

section
/- What laws of points are handed; comparisons of points; no condition. -/
set_option linter.unusedVariables false
set_option linter.unusedSimpArgs false
set_option maxRecDepth 100000
set_option pp.maxSteps 1500
namespace Go.Proofs.Ytdeholmpcbakbaa
open Go Go.Wit

theorem c_eq_t {a b : Nat} {p q : Prop} (ha : a < w256) (hb : b < w256) (hp : a = b → p) (hq : a ≠ b → q) : condB ((bif false then !(eqX a b) else eqX a b) == true) p q := by
  rw [eqX_iff ha hb]
  by_cases h : a = b
  · rw [decide_eq_true h]; exact hp h
  · rw [decide_eq_false h]; exact hq h
theorem S_kPoint0 (i j : Bool) (x y u v : Nat) (hx : x < w256) (hy : y < w256) (hu : u < w256) (hv : v < w256) : ACall Pg F_witankeep_Point [rawA i x y, rawA j u v] [] (fun r _ => ((i = j ∧ x = u ∧ y = v ∧ r = .bool true) ∨ (¬ (i = j ∧ x = u ∧ y = v) ∧ r = .bool false)) ∧ Flat true r) := by
  refine B_witankeep_Point ⟨rfl, ?_⟩
  conv => whnf
  refine condB_mk (p := _) (q := _) (fun h => ?_) (fun h => ?_)
  · conv => whnf
    refine c_eq_t hx hu (fun h1 => ?_) (fun h1 => ?_)
    · conv => whnf
      have hij : i = j := by cases i <;> cases j <;> first | rfl | exact absurd h (by decide)
      show ((i = j ∧ x = u ∧ y = v ∧ AV.bool (eqX y v) = .bool true) ∨ (¬ (i = j ∧ x = u ∧ y = v) ∧ AV.bool (eqX y v) = .bool false)) ∧ Flat true (AV.bool (eqX y v))
      refine ⟨?_, .bool _⟩
      rw [eqX_iff hy hv]
      by_cases e : y = v
      · exact .inl ⟨hij, h1, e, by rw [decide_eq_true e]⟩
      · exact .inr ⟨fun h => e h.2.2, by rw [decide_eq_false e]⟩
    · conv => whnf
      exact ⟨.inr ⟨fun h => h1 h.2.1, rfl⟩, .bool _⟩
  · conv => whnf
    refine ⟨.inr ⟨fun h1 => ?_, rfl⟩, .bool _⟩
    obtain ⟨rfl, -, -⟩ := h1
    revert h
    cases i <;> decide
theorem S_kPoint {m : Mem} {K : AV → Mem → Prop} {i j : Bool} {x y u v : Nat} (hx : x < w256) (hy : y < w256) (hu : u < w256) (hv : v < w256) (h1 : i = j → x = u → y = v → K (.bool true) m) (h2 : ¬ (i = j ∧ x = u ∧ y = v) → K (.bool false) m) : ACall Pg F_witankeep_Point [rawA i x y, rawA j u v] m K := by
  refine lift_flat (S_kPoint0 i j x y u v hx hy hu hv) (.cons _ _ _ _ (lend_flat flat_rawA) (.cons _ _ _ _ (lend_flat flat_rawA) .nil)) ?_
  rintro r (⟨a, b, c, rfl⟩ | ⟨a, rfl⟩)
  · exact h1 a b c
  · exact h2 a
/-- One point twice. -/
theorem S_kPoint_eq {m : Mem} {K : AV → Mem → Prop} {i : Bool} {x y : Nat} (hx : x < w256) (hy : y < w256) (h : K (.bool true) m) : ACall Pg F_witankeep_Point [rawA i x y, rawA i x y] m K :=
  S_kPoint hx hy hx hy (fun _ _ _ => h) (fun hn => absurd ⟨rfl, rfl, rfl⟩ hn)
theorem S_kPt_eq {m : Mem} {K : AV → Mem → Prop} {P : Pt Fp} (h : K (.bool true) m) : ACall Pg F_witankeep_Point [ptA P, ptA P] m K := S_kPoint_eq (xN_w P) (yN_w P) h
end Go.Proofs.Ytdeholmpcbakbaa
end

section
/- Roots modulo the first prime, of both programs; no condition. -/
set_option linter.unusedVariables false
set_option linter.unusedSimpArgs false
set_option maxRecDepth 100000
set_option pp.maxSteps 3000
namespace Go.Proofs.Ytdeholmpcbakbaa
open Go Go.Wit

theorem S_fmul {m : Mem} {K : AV → Mem → Prop} {x y : Fp} (h : ∀ z : Fp, z = x * y → K (numA z.val) m) : ACall Pg F_field_Mul [.int .i64 0, numA x.val, numA y.val] m K :=
  S_FMul_0 (fp_w x) (fp_w y) (fun r hr => by obtain rfl : r = (x * y).val := hr; exact h _ rfl)
theorem S_fsub {m : Mem} {K : AV → Mem → Prop} {x y : Fp} (h : ∀ z : Fp, z = x - y → K (numA z.val) m) : ACall Pg F_field_Sub [.int .i64 0, numA x.val, numA y.val] m K :=
  S_FSub_0 (fp_w x) (fp_w y) (fun r hr => by
    rw [Nat.mod_eq_of_lt y.isLt, Nat.add_comm] at hr
    obtain rfl : r = (x - y).val := hr
    exact h _ rfl)
theorem S_fred {m : Mem} {K : AV → Mem → Prop} {x : Fp} (h : K (numA x.val) m) : ACall Pg F_field_Red [.int .i64 0, numA x.val] m K :=
  S_Red_0 (fp_w x) (fun r hr => by rw [Nat.mod_eq_of_lt x.isLt] at hr; rw [hr]; exact h)
theorem S_rfmul {m : Mem} {K : AV → Mem → Prop} {x y : Fp} (h : ∀ z : Fp, z = x * y → K (numA z.val) m) : ACall Pg F_witanref01_FMul [.int .i64 0, numA x.val, numA y.val] m K :=
  S_RFMul_0 (fp_w x) (fp_w y) (fun r hr => by obtain rfl : r = (x * y).val := hr; exact h _ rfl)
theorem S_rfsub {m : Mem} {K : AV → Mem → Prop} {x y : Fp} (h : ∀ z : Fp, z = x - y → K (numA z.val) m) : ACall Pg F_witanref01_FSub [.int .i64 0, numA x.val, numA y.val] m K :=
  S_RFSub_0 (fp_w x) (fp_w y) (fun r hr => by
    rw [Nat.mod_eq_of_lt y.isLt, Nat.add_comm] at hr
    obtain rfl : r = (x - y).val := hr
    exact h _ rfl)
theorem S_rfred {m : Mem} {K : AV → Mem → Prop} {x : Fp} (h : K (numA x.val) m) : ACall Pg F_witanref01_Red [.int .i64 0, numA x.val] m K :=
  S_RRed_0 (fp_w x) (fun r hr => by rw [Nat.mod_eq_of_lt x.isLt] at hr; rw [hr]; exact h)

/-- A quarter of a number, digit by digit. -/
def qrt (s : Nat) : List AV := [.int .u64 (bitsV .or .u64 ((lim s 0).fdiv (2 ^ 2)) (IntKind.u64.wrap (lim s 1 * 2 ^ 62))), .int .u64 (bitsV .or .u64 ((lim s 1).fdiv (2 ^ 2)) (IntKind.u64.wrap (lim s 2 * 2 ^ 62))), .int .u64 (bitsV .or .u64 ((lim s 2).fdiv (2 ^ 2)) (IntKind.u64.wrap (lim s 3 * 2 ^ 62))), .int .u64 ((lim s 3).fdiv (2 ^ 2))]
theorem qrt_p {s : Nat} (h : s = pP + 1) : AV.agg (qrt s) = numA ((pP + 1) / 4) := by
  subst h
  have h0 : bitsV .or .u64 ((lim (pP + 1) 0).fdiv (2 ^ 2)) (IntKind.u64.wrap (lim (pP + 1) 1 * 2 ^ 62)) = lim ((pP + 1) / 4) 0 := by decide +kernel
  have h1 : bitsV .or .u64 ((lim (pP + 1) 1).fdiv (2 ^ 2)) (IntKind.u64.wrap (lim (pP + 1) 2 * 2 ^ 62)) = lim ((pP + 1) / 4) 1 := by decide +kernel
  have h2 : bitsV .or .u64 ((lim (pP + 1) 2).fdiv (2 ^ 2)) (IntKind.u64.wrap (lim (pP + 1) 3 * 2 ^ 62)) = lim ((pP + 1) / 4) 2 := by decide +kernel
  have h3 : (lim (pP + 1) 3).fdiv (2 ^ 2) = lim ((pP + 1) / 4) 3 := by decide +kernel
  unfold qrt numA numL
  rw [h0, h1, h2, h3]
theorem S_sqrt {m : Mem} {K : AV → Mem → Prop} {a : Fp} {s : Nat} (hs : s = pP + 1) (h : ∀ y : Fp, y = fsqrt a → K (numA y.val) m) : ACall Pg F_field_Pow [.int .i64 0, numA a.val, .agg (qrt s)] m K := by
  rw [qrt_p hs]
  exact S_Pow_0 (fp_w a) (by decide) (fun r hr => by obtain rfl : r = (fsqrt a).val := hr; exact h _ rfl)
theorem S_rsqrt {m : Mem} {K : AV → Mem → Prop} {a : Fp} {s : Nat} (hs : s = pP + 1) (h : ∀ y : Fp, y = fsqrt a → K (numA y.val) m) : ACall Pg F_witanref01_Pow [.int .i64 0, numA a.val, .agg (qrt s)] m K := by
  rw [qrt_p hs]
  exact S_RPow_0 (fp_w a) (by decide) (fun r hr => by obtain rfl : r = (fsqrt a).val := hr; exact h _ rfl)
theorem low_bit (n : Nat) : bitsV .and .u64 (lim n 0) 1 = ((n % 2 : Nat) : Int) := by
  unfold lim
  rw [and_one (Nat.mod_lt _ (by decide)), Nat.pow_zero, Nat.div_one]
  omega
theorem c_odd {n : Nat} {p q : Prop} (h1 : n % 2 = 1 → p) (h2 : n % 2 = 0 → q) : condB (bitsV .and .u64 (lim n 0) 1 == 1) p q := by
  rw [low_bit]
  rcases bit_lt n with h | h
  · rw [h]; exact h2 h
  · rw [h]; exact h1 h
theorem p1_lt {p s c : Nat} (hp : p = pP) (e : p + 1 = s + c * w256) (s1 : s < w256) : s = pP + 1 := by
  have h : pP + 1 < w256 := by decide
  rw [← hp] at h ⊢
  rcases Nat.eq_zero_or_pos c with rfl | hc
  · omega
  · have : w256 ≤ c * w256 := Nat.le_mul_of_pos_left _ hc
    omega
theorem S_Root0 (a : Fp) : ACall Pg F_field_Root [numA a.val] [] (fun v _ => ((fsqrt a * fsqrt a = a ∧ v = .tup [numA (evn (fsqrt a)).val, .bool true]) ∨ (fsqrt a * fsqrt a ≠ a ∧ v = .tup [numA 0, .bool false])) ∧ Flat true v) := by
  refine B_field_Root ⟨rfl, ?_⟩
  conv => whnf
  repeat (refine ⟨⟨[], rfl⟩, ?_⟩; conv => whnf)
  refine S_Prime_0 (fun p hp => ?_)
  conv => whnf
  repeat (refine ⟨⟨[], rfl⟩, ?_⟩; conv => whnf)
  refine S_LAddc (b := 1) (by rw [hp]; decide) (by decide) (fun s c e s1 c1 => ?_)
  have hs := p1_lt hp e s1
  conv => whnf
  refine loop_rounds mixed 5 ?_
  conv => whnf
  repeat (refine ⟨⟨[], rfl⟩, ?_⟩; conv => whnf)
  refine S_sqrt (a := a) (s := s) hs (fun y hy => ?_)
  rw [← hy]
  conv => whnf
  repeat (refine ⟨⟨[], rfl⟩, ?_⟩; conv => whnf)
  refine S_fmul (x := y) (y := y) (fun yy hyy => ?_)
  conv => whnf
  repeat (refine ⟨⟨[], rfl⟩, ?_⟩; conv => whnf)
  refine S_fred (x := a) ?_
  conv => whnf
  repeat (refine ⟨⟨[], rfl⟩, ?_⟩; conv => whnf)
  rw [← hyy]
  refine c_ne (a := yy.val) (b := a.val) (fp_w yy) (fp_w a) (fun ne => ?_) (fun eq => ?_)
  · conv => whnf
    repeat (refine ⟨⟨[], rfl⟩, ?_⟩; conv => whnf)
    exact ⟨.inr ⟨fun h => ne (congrArg Fin.val h), by rw [numA_0]; rfl⟩, .tup _ (.cons _ _ flat_u4 (.cons _ _ (.bool _) .nil))⟩
  · conv => whnf
    repeat (refine ⟨⟨[], rfl⟩, ?_⟩; conv => whnf)
    have eq := Fin.ext eq
    refine c_odd (n := y.val) (fun o => ?_) (fun o => ?_)
    · conv => whnf
      repeat (refine ⟨⟨[], rfl⟩, ?_⟩; conv => whnf)
      refine S_fsub (x := 0) (y := y) (fun z hz => ?_)
      conv => whnf
      repeat (refine ⟨⟨[], rfl⟩, ?_⟩; conv => whnf)
      refine ⟨.inl ⟨eq, ?_⟩, .tup _ (.cons _ _ flat_numA (.cons _ _ (.bool _) .nil))⟩
      have : evn y = z := by unfold evn; rw [if_pos o, hz, zero_sub_fp]
      rw [this]
      rfl
    · conv => whnf
      repeat (refine ⟨⟨[], rfl⟩, ?_⟩; conv => whnf)
      refine ⟨.inl ⟨eq, ?_⟩, .tup _ (.cons _ _ flat_numA (.cons _ _ (.bool _) .nil))⟩
      have : evn y = y := by unfold evn; rw [if_neg (by omega)]
      rw [this]
      rfl
theorem S_Root {m : Mem} {K : AV → Mem → Prop} {a : Fp} (h1 : ∀ y, y = evn (fsqrt a) → fsqrt a * fsqrt a = a → K (.tup [numA y.val, .bool true]) m) (h2 : fsqrt a * fsqrt a ≠ a → K (.tup [numA 0, .bool false]) m) : ACall Pg F_field_Root [numA a.val] m K := by
  refine lift_flat (S_Root0 a) (.cons _ _ _ _ lend_numA .nil) ?_
  rintro v (⟨e, rfl⟩ | ⟨e, rfl⟩)
  · exact h1 _ rfl e
  · exact h2 e
theorem S_RRoot0 (a : Fp) : ACall Pg F_witanref01_Root [numA a.val] [] (fun v _ => ((fsqrt a * fsqrt a = a ∧ v = .tup [numA (evn (fsqrt a)).val, .bool true]) ∨ (fsqrt a * fsqrt a ≠ a ∧ v = .tup [numA 0, .bool false])) ∧ Flat true v) := by
  refine B_witanref01_Root ⟨rfl, ?_⟩
  conv => whnf
  repeat (refine ⟨⟨[], rfl⟩, ?_⟩; conv => whnf)
  refine S_rfred (x := a) ?_
  conv => whnf
  repeat (refine ⟨⟨[], rfl⟩, ?_⟩; conv => whnf)
  refine S_RPrime_0 (fun p hp => ?_)
  conv => whnf
  repeat (refine ⟨⟨[], rfl⟩, ?_⟩; conv => whnf)
  refine S_RAddc (b := 1) (by rw [hp]; decide) (by decide) (fun s c e s1 c1 => ?_)
  have hs := p1_lt hp e s1
  conv => whnf
  refine loop_rounds mixed 5 ?_
  conv => whnf
  repeat (refine ⟨⟨[], rfl⟩, ?_⟩; conv => whnf)
  refine S_rsqrt (a := a) (s := s) hs (fun y hy => ?_)
  rw [← hy]
  conv => whnf
  repeat (refine ⟨⟨[], rfl⟩, ?_⟩; conv => whnf)
  refine S_rfmul (x := y) (y := y) (fun yy hyy => ?_)
  conv => whnf
  repeat (refine ⟨⟨[], rfl⟩, ?_⟩; conv => whnf)
  rw [← hyy]
  refine c_ne (a := yy.val) (b := a.val) (fp_w yy) (fp_w a) (fun ne => ?_) (fun eq => ?_)
  · conv => whnf
    repeat (refine ⟨⟨[], rfl⟩, ?_⟩; conv => whnf)
    exact ⟨.inr ⟨fun h => ne (congrArg Fin.val h), by rw [numA_0]; rfl⟩, .tup _ (.cons _ _ flat_u4 (.cons _ _ (.bool _) .nil))⟩
  · conv => whnf
    repeat (refine ⟨⟨[], rfl⟩, ?_⟩; conv => whnf)
    have eq := Fin.ext eq
    refine c_odd (n := y.val) (fun o => ?_) (fun o => ?_)
    · conv => whnf
      repeat (refine ⟨⟨[], rfl⟩, ?_⟩; conv => whnf)
      refine S_rfsub (x := 0) (y := y) (fun z hz => ?_)
      conv => whnf
      repeat (refine ⟨⟨[], rfl⟩, ?_⟩; conv => whnf)
      refine ⟨.inl ⟨eq, ?_⟩, .tup _ (.cons _ _ flat_numA (.cons _ _ (.bool _) .nil))⟩
      have : evn y = z := by unfold evn; rw [if_pos o, hz, zero_sub_fp]
      rw [this]
      rfl
    · conv => whnf
      repeat (refine ⟨⟨[], rfl⟩, ?_⟩; conv => whnf)
      refine ⟨.inl ⟨eq, ?_⟩, .tup _ (.cons _ _ flat_numA (.cons _ _ (.bool _) .nil))⟩
      have : evn y = y := by unfold evn; rw [if_neg (by omega)]
      rw [this]
      rfl
theorem S_RRoot {m : Mem} {K : AV → Mem → Prop} {a : Fp} (h1 : ∀ y, y = evn (fsqrt a) → fsqrt a * fsqrt a = a → K (.tup [numA y.val, .bool true]) m) (h2 : fsqrt a * fsqrt a ≠ a → K (.tup [numA 0, .bool false]) m) : ACall Pg F_witanref01_Root [numA a.val] m K := by
  refine lift_flat (S_RRoot0 a) (.cons _ _ _ _ lend_numA .nil) ?_
  rintro v (⟨e, rfl⟩ | ⟨e, rfl⟩)
  · exact h1 _ rfl e
  · exact h2 e
end Go.Proofs.Ytdeholmpcbakbaa
end

section
/- Points' bytes, and points of bytes; no condition. -/
set_option linter.unusedVariables false
set_option maxRecDepth 100000
namespace Go.Proofs.Ytdeholmpcbakbaa
open Go Go.Wit

def pbN (P : Pt Fp) : Nat := if isI P then 1 else 33
def pbF (P : Pt Fp) (i : Nat) : Int := if i = 0 then (if isI P then 0 else 2 + ((yN P % 2 : Nat) : Int)) else byteZ (xN P) (i - 1)
/-- What bytes are read as. -/
def rd (n : Nat) (f : Nat → Int) : Except Int (Pt Fp) :=
  if n = 1 ∧ f 0 = 0 then .ok .inf
  else if n = 33 ∧ (f 0 = 2 ∨ f 0 = 3) then
    if h : ofZ (fun i => f (i + 1)) < pP then
      if fsqrt ((⟨_, h⟩ : Fp) * ⟨_, h⟩ * ⟨_, h⟩ + 7) * fsqrt ((⟨_, h⟩ : Fp) * ⟨_, h⟩ * ⟨_, h⟩ + 7) = (⟨_, h⟩ : Fp) * ⟨_, h⟩ * ⟨_, h⟩ + 7 then
        .ok (.aff ⟨_, h⟩ (if f 0 = 3 then - evn (fsqrt ((⟨_, h⟩ : Fp) * ⟨_, h⟩ * ⟨_, h⟩ + 7)) else evn (fsqrt ((⟨_, h⟩ : Fp) * ⟨_, h⟩ * ⟨_, h⟩ + 7))))
      else .error 3
    else .error 2
  else .error 7

theorem rd_inf {n : Nat} {f : Nat → Int} (h : n = 1 ∧ f 0 = 0) : rd n f = .ok .inf := by unfold rd; rw [if_pos h]
theorem rd_7 {n : Nat} {f : Nat → Int} (h : ¬ (n = 1 ∧ f 0 = 0)) (h2 : ¬ (n = 33 ∧ (f 0 = 2 ∨ f 0 = 3))) : rd n f = .error 7 := by unfold rd; rw [if_neg h, if_neg h2]
theorem rd_2 {n : Nat} {f : Nat → Int} (h2 : n = 33 ∧ (f 0 = 2 ∨ f 0 = 3)) (h3 : ¬ ofZ (fun i => f (i + 1)) < pP) : rd n f = .error 2 := by
  unfold rd
  rw [if_neg (by omega), if_pos h2, dif_neg h3]
theorem rd_3 {n : Nat} {f : Nat → Int} (h2 : n = 33 ∧ (f 0 = 2 ∨ f 0 = 3)) {X : Fp} (hX : ofZ (fun i => f (i + 1)) = X.val) (h4 : ¬ fsqrt (X * X * X + 7) * fsqrt (X * X * X + 7) = X * X * X + 7) : rd n f = .error 3 := by
  have h3 : ofZ (fun i => f (i + 1)) < pP := hX ▸ X.isLt
  have e : (⟨_, h3⟩ : Fp) = X := Fin.ext hX
  unfold rd
  rw [if_neg (by omega), if_pos h2, dif_pos h3, e, if_neg h4]
theorem rd_ok {n : Nat} {f : Nat → Int} (h2 : n = 33 ∧ (f 0 = 2 ∨ f 0 = 3)) {X : Fp} (hX : ofZ (fun i => f (i + 1)) = X.val) (h4 : fsqrt (X * X * X + 7) * fsqrt (X * X * X + 7) = X * X * X + 7) :
    rd n f = .ok (.aff X (if f 0 = 3 then - evn (fsqrt (X * X * X + 7)) else evn (fsqrt (X * X * X + 7)))) := by
  have h3 : ofZ (fun i => f (i + 1)) < pP := hX ▸ X.isLt
  have e : (⟨_, h3⟩ : Fp) = X := Fin.ext hX
  unfold rd
  rw [if_neg (by omega), if_pos h2, dif_pos h3, e, if_pos h4]

theorem neg_sq (y : Fp) : -y * -y = y * y := by grind
theorem neg_neg' (y : Fp) : - -y = y := by grind
/-- A point's bytes are read as it. -/
theorem rd_pb {P : Pt Fp} (oP : On P) {f : Nat → Int} (hf : ∀ i, i < pbN P → f i = pbF P i) : rd (pbN P) f = .ok P := by
  cases P with
  | inf => exact rd_inf ⟨rfl, by rw [hf 0 (by decide)]; rfl⟩
  | aff x y =>
    have hN : pbN (.aff x y) = 33 := rfl
    rw [hN] at hf
    have f0 : f 0 = 2 + ((y.val % 2 : Nat) : Int) := hf 0 (by decide)
    have h2 : f 0 = 2 ∨ f 0 = 3 := by omega
    have hX : ofZ (fun i => f (i + 1)) = x.val := ofZ_byteZ (fp_w x) fun i hi => by rw [hf (i + 1) (by omega)]; rfl
    have oP : y * y = x * x * x + 7 := oP
    have y0 := On.y_ne crvP oP
    have h4 : fsqrt (x * x * x + 7) * fsqrt (x * x * x + 7) = x * x * x + 7 := by rw [← oP]; exact fsqrt_sq y
    rw [rd_ok ⟨hN, h2⟩ hX h4]
    have e1 : evn (fsqrt (x * x * x + 7)) * evn (fsqrt (x * x * x + 7)) = y * y := by rw [evn_sq, h4, oP]
    have e2 := evn_even (fsqrt (x * x * x + 7))
    generalize evn (fsqrt (x * x * x + 7)) = e at *
    rcases bit_lt y.val with hy | hy
    · rw [if_neg (by omega), even_uniq e1 e2 hy y0]
    · have h6 := neg_parity y0
      have y1 : -y ≠ 0 := fun h => y0 (by have := neg_neg' y; rw [h] at this; rw [← this]; grind)
      have : e = -y := even_uniq (by rw [e1, neg_sq]) e2 (by omega) y1
      rw [if_pos (by omega), this, neg_neg']
/-- What bytes are read as has these bytes. -/
theorem pb_rd {n : Nat} {f : Nat → Int} {P : Pt Fp} (hf : ∀ i, i < n → 0 ≤ f i ∧ f i ≤ 255) (h : rd n f = .ok P) : On P ∧ n = pbN P ∧ ∀ i, i < n → f i = pbF P i := by
  by_cases h1 : n = 1 ∧ f 0 = 0
  · rw [rd_inf h1] at h
    obtain rfl : Pt.inf = P := by injection h
    refine ⟨trivial, h1.1, fun i hi => ?_⟩
    obtain rfl : i = 0 := by omega
    exact h1.2
  by_cases h2 : n = 33 ∧ (f 0 = 2 ∨ f 0 = 3)
  · by_cases h3 : ofZ (fun i => f (i + 1)) < pP
    · obtain ⟨X, hX⟩ : ∃ X : Fp, ofZ (fun i => f (i + 1)) = X.val := ⟨⟨_, h3⟩, rfl⟩
      by_cases h4 : fsqrt (X * X * X + 7) * fsqrt (X * X * X + 7) = X * X * X + 7
      · rw [rd_ok h2 hX h4] at h
        have e1 : evn (fsqrt (X * X * X + 7)) * evn (fsqrt (X * X * X + 7)) = X * X * X + 7 := by rw [evn_sq, h4]
        have e2 := evn_even (fsqrt (X * X * X + 7))
        generalize evn (fsqrt (X * X * X + 7)) = e at *
        have oP : On (.aff X (if f 0 = 3 then -e else e)) := by
          show _ * _ = _
          split
          · rw [neg_sq, e1]
          · exact e1
        have e0 : e ≠ 0 := On.y_ne crvP (x := X) e1
        obtain rfl := Except.ok.inj h
        refine ⟨oP, h2.1, fun i hi => ?_⟩
        by_cases hi0 : i = 0
        · subst hi0
          show f 0 = 2 + (((if f 0 = 3 then -e else e).val % 2 : Nat) : Int)
          rcases h2.2 with h5 | h5
          · rw [if_neg (by omega), e2]; omega
          · rw [if_pos h5, neg_parity e0, e2]; omega
        · have := byteZ_ofZ (f := fun i => f (i + 1)) (fun k hk => hf (k + 1) (by omega)) (i := i - 1) (by omega)
          rw [hX] at this
          unfold pbF
          rw [if_neg hi0]
          show f i = byteZ X.val (i - 1)
          rw [this]
          show f i = f (i - 1 + 1)
          rw [show i - 1 + 1 = i by omega]
      · rw [rd_3 h2 hX h4] at h; cases h
    · rw [rd_2 h2 h3] at h; cases h
  · rw [rd_7 h1 h2] at h; cases h
end Go.Proofs.Ytdeholmpcbakbaa
end

section
/- Points' bytes, and points of bytes, of both programs; no condition. -/
set_option linter.unusedVariables false
set_option linter.unusedSimpArgs false
set_option maxRecDepth 100000
set_option pp.maxSteps 3000
namespace Go.Proofs.Ytdeholmpcbakbaa
open Go Go.Wit

theorem S_FRead0 (f : Nat → Int) (hf : ∀ i, i < 32 → 0 ≤ f i ∧ f i ≤ 255) : ACall Pg F_field_Read [.int .i64 0, .agg (rowL f)] [] (fun v _ => ((ofZ f < pP ∧ v = .tup [numA (ofZ f), .int .i64 0]) ∨ (¬ ofZ f < pP ∧ v = .tup [numA 0, .int .i64 2])) ∧ Flat true v) := by
  refine B_field_Read ⟨rfl, ?_⟩
  conv => whnf
  repeat (refine ⟨⟨[], rfl⟩, ?_⟩; conv => whnf)
  refine S_less_0 ?_
  conv => whnf
  repeat (refine ⟨⟨[], rfl⟩, ?_⟩; conv => whnf)
  refine S_LOf (f := f) hf (fun n hn hn1 => ?_)
  conv => whnf
  repeat (refine ⟨⟨[], rfl⟩, ?_⟩; conv => whnf)
  refine S_Prime_0 (fun p hp => ?_)
  conv => whnf
  repeat (refine ⟨⟨[], rfl⟩, ?_⟩; conv => whnf)
  refine S_LCmp hn1 (by rw [hp]; decide) (fun r hr => ?_)
  conv => whnf
  repeat (refine ⟨⟨[], rfl⟩, ?_⟩; conv => whnf)
  rw [← hn]
  rcases cmpZ_or hr with ⟨h1, rfl⟩ | ⟨h1, rfl | rfl⟩
  · conv => whnf
    repeat (refine ⟨⟨[], rfl⟩, ?_⟩; conv => whnf)
    exact ⟨.inl ⟨hp ▸ h1, rfl⟩, .tup _ (.cons _ _ flat_numA (.cons _ _ (.int _ _) .nil))⟩
  · conv => whnf
    repeat (refine ⟨⟨[], rfl⟩, ?_⟩; conv => whnf)
    exact ⟨.inr ⟨by omega, by rw [numA_0]; rfl⟩, .tup _ (.cons _ _ flat_u4 (.cons _ _ (.int _ _) .nil))⟩
  · conv => whnf
    repeat (refine ⟨⟨[], rfl⟩, ?_⟩; conv => whnf)
    exact ⟨.inr ⟨by omega, by rw [numA_0]; rfl⟩, .tup _ (.cons _ _ flat_u4 (.cons _ _ (.int _ _) .nil))⟩
theorem S_FRead {m : Mem} {K : AV → Mem → Prop} {f : Nat → Int} (hf : ∀ i, i < 32 → 0 ≤ f i ∧ f i ≤ 255) (h1 : ∀ X : Fp, ofZ f = X.val → K (.tup [numA X.val, .int .i64 0]) m) (h2 : ¬ ofZ f < pP → K (.tup [numA 0, .int .i64 2]) m) : ACall Pg F_field_Read [.int .i64 0, .agg (rowL f)] m K := by
  refine lift_flat (S_FRead0 f hf) (.cons _ _ _ _ lend_int (.cons _ _ _ _ (lend_flat flat_rowA) .nil)) ?_
  rintro v (⟨e, rfl⟩ | ⟨e, rfl⟩)
  · exact h1 ⟨_, e⟩ rfl
  · exact h2 e

theorem S_Read0 (n cap : Nat) (f : Nat → Int) (hf : ∀ i, i < n → 0 ≤ f i ∧ f i ≤ 255) : ACall Pg F_curve_Read [.vsl 1 n cap (bytesG f)] [] (fun v _ => ((∃ P, rd n f = .ok P ∧ v = .tup [ptA P, .int .i64 0]) ∨ (∃ e, e ≠ 0 ∧ rd n f = .error e ∧ v = .tup [noPt, .int .i64 e])) ∧ Flat true v) := by
  have no : ∀ e : Int, Flat true (.tup [noPt, .int .i64 e]) := fun e => .tup _ (.cons _ _ (flat_no true) (.cons _ _ (.int _ _) .nil))
  refine B_curve_Read ⟨rfl, ?_⟩
  by_cases h1 : n = 1
  · subst h1
    conv => whnf
    repeat (refine ⟨⟨[], rfl⟩, ?_⟩; conv => whnf)
    refine condB_mk (fun h => ?_) (fun h => ?_)
    · have h : f 0 = 0 := by simpa using h
      conv => whnf
      repeat (refine ⟨⟨[], rfl⟩, ?_⟩; conv => whnf)
      refine ⟨.inl ⟨.inf, rd_inf ⟨rfl, h⟩, rfl⟩, .tup _ (.cons _ _ (flat_ptA (P := .inf)) (.cons _ _ (.int _ _) .nil))⟩
    · have h : f 0 ≠ 0 := by simpa using h
      conv => whnf
      repeat (refine ⟨⟨[], rfl⟩, ?_⟩; conv => whnf)
      exact ⟨.inr ⟨7, by decide, rd_7 (fun x => h x.2) (by omega), rfl⟩, no 7⟩
  by_cases h33 : n = 33
  · subst h33
    have hf0 : 0 ≤ f 0 ∧ f 0 ≤ 255 := hf 0 (by decide)
    have bad : ¬ f 0 = 2 → ¬ f 0 = 3 → rd 33 f = .error 7 := fun a b => rd_7 (by omega) (fun h => h.2.elim a b)
    have ok : ∀ {X y : Fp}, Flat true (.tup [ptA (.aff X y), .int .i64 0]) := fun {X y} => .tup _ (.cons _ _ flat_ptA (.cons _ _ (.int _ _) .nil))
    have key : f 0 = 2 ∨ f 0 = 3 ∨ (f 0 ≠ 2 ∧ f 0 ≠ 3) := by omega
    rcases key with h2 | h2 | ⟨hn2, hn3⟩
    rotate_left 2
    · conv => whnf
      repeat (refine ⟨⟨[], rfl⟩, ?_⟩; conv => whnf)
      refine condB_mk (fun h => ?_) (fun h => absurd (by simpa using h) hn2)
      conv => whnf
      repeat (refine ⟨⟨[], rfl⟩, ?_⟩; conv => whnf)
      refine condB_mk (fun h => ?_) (fun h => absurd (by simpa using h) hn3)
      conv => whnf
      repeat (refine ⟨⟨[], rfl⟩, ?_⟩; conv => whnf)
      exact ⟨.inr ⟨7, by decide, bad hn2 hn3, rfl⟩, no 7⟩
    · have h23 : f 0 = 2 ∨ f 0 = 3 := .inl h2
      conv => whnf
      repeat (refine ⟨⟨[], rfl⟩, ?_⟩; conv => whnf)
      refine condB_mk (fun h => absurd h2 (by simpa using h)) (fun h => ?_)
      conv => whnf
      repeat (refine ⟨⟨[], rfl⟩, ?_⟩; conv => whnf)
      refine S_FRead (f := fun i => f (i + 1)) (fun i hi => hf _ (by omega)) (fun X hX => ?_) (fun hX => ?_)
      · conv => whnf
        repeat (refine ⟨⟨[], rfl⟩, ?_⟩; conv => whnf)
        refine S_right (x := X) (fun c hc => ?_)
        conv => whnf
        repeat (refine ⟨⟨[], rfl⟩, ?_⟩; conv => whnf)
        refine S_Root (a := c) (fun y hy hs => ?_) (fun hs => ?_)
        · conv => whnf
          repeat (refine ⟨⟨[], rfl⟩, ?_⟩; conv => whnf)
          refine condB_mk (fun h3 => ?_) (fun h3 => ?_)
          · have h3 : f 0 = 3 := by simpa using h3
            omega
          · conv => whnf
            repeat (refine ⟨⟨[], rfl⟩, ?_⟩; conv => whnf)
            refine ⟨.inl ⟨.aff X y, ?_, rfl⟩, ok (X := X) (y := y)⟩
            rw [rd_ok ⟨rfl, h23⟩ hX (hc ▸ hs), if_neg (by omega), ← hc, hy]
        · conv => whnf
          repeat (refine ⟨⟨[], rfl⟩, ?_⟩; conv => whnf)
          exact ⟨.inr ⟨3, by decide, rd_3 ⟨rfl, h23⟩ hX (hc ▸ hs), rfl⟩, no 3⟩
      · conv => whnf
        repeat (refine ⟨⟨[], rfl⟩, ?_⟩; conv => whnf)
        exact ⟨.inr ⟨2, by decide, rd_2 ⟨rfl, h23⟩ hX, rfl⟩, no 2⟩
    · have h23 : f 0 = 2 ∨ f 0 = 3 := .inr h2
      conv => whnf
      repeat (refine ⟨⟨[], rfl⟩, ?_⟩; conv => whnf)
      refine condB_mk (fun h => ?_) (fun h => absurd (show f 0 = 2 by simpa using h) (by omega))
      conv => whnf
      repeat (refine ⟨⟨[], rfl⟩, ?_⟩; conv => whnf)
      refine condB_mk (fun h => absurd h2 (by simpa using h)) (fun h => ?_)
      conv => whnf
      repeat (refine ⟨⟨[], rfl⟩, ?_⟩; conv => whnf)
      refine S_FRead (f := fun i => f (i + 1)) (fun i hi => hf _ (by omega)) (fun X hX => ?_) (fun hX => ?_)
      · conv => whnf
        repeat (refine ⟨⟨[], rfl⟩, ?_⟩; conv => whnf)
        refine S_right (x := X) (fun c hc => ?_)
        conv => whnf
        repeat (refine ⟨⟨[], rfl⟩, ?_⟩; conv => whnf)
        refine S_Root (a := c) (fun y hy hs => ?_) (fun hs => ?_)
        · conv => whnf
          repeat (refine ⟨⟨[], rfl⟩, ?_⟩; conv => whnf)
          refine condB_mk (fun h3 => ?_) (fun h3 => absurd h2 (by simpa using h3))
          conv => whnf
          repeat (refine ⟨⟨[], rfl⟩, ?_⟩; conv => whnf)
          refine S_csub (x := 0) (y := y) (fun z hz => ?_)
          conv => whnf
          repeat (refine ⟨⟨[], rfl⟩, ?_⟩; conv => whnf)
          refine ⟨.inl ⟨.aff X z, ?_, rfl⟩, ok (X := X) (y := z)⟩
          rw [rd_ok ⟨rfl, h23⟩ hX (hc ▸ hs), if_pos h2, ← hc, hz, hy, zero_sub_fp]
        · conv => whnf
          repeat (refine ⟨⟨[], rfl⟩, ?_⟩; conv => whnf)
          exact ⟨.inr ⟨3, by decide, rd_3 ⟨rfl, h23⟩ hX (hc ▸ hs), rfl⟩, no 3⟩
      · conv => whnf
        repeat (refine ⟨⟨[], rfl⟩, ?_⟩; conv => whnf)
        exact ⟨.inr ⟨2, by decide, rd_2 ⟨rfl, h23⟩ hX, rfl⟩, no 2⟩
  · conv => whnf
    repeat (refine ⟨⟨[], rfl⟩, ?_⟩; conv => whnf)
    refine condB_mk (fun h => by exfalso; simp at h; omega) (fun h => ?_)
    conv => whnf
    repeat (refine ⟨⟨[], rfl⟩, ?_⟩; conv => whnf)
    refine condB_mk (fun h => by exfalso; simp at h; omega) (fun h => ?_)
    conv => whnf
    repeat (refine ⟨⟨[], rfl⟩, ?_⟩; conv => whnf)
    exact ⟨.inr ⟨7, by decide, rd_7 (fun h => h1 h.1) (fun h => h33 h.1), rfl⟩, no 7⟩
theorem S_Read {m : Mem} {K : AV → Mem → Prop} {x : AV} {n : Nat} {f : Nat → Int} (hx : Shows m x n f) (hf : ∀ i, i < n → 0 ≤ f i ∧ f i ≤ 255) (h1 : ∀ P, On P → rd n f = .ok P → K (.tup [ptA P, .int .i64 0]) m) (h2 : ∀ e, e ≠ 0 → rd n f = .error e → K (.tup [noPt, .int .i64 e]) m) : ACall Pg F_curve_Read [x] m K := by
  obtain ⟨c, hl⟩ := hx
  refine lift_flat (S_Read0 n c f hf) (.cons _ _ _ _ hl .nil) ?_
  rintro v (⟨P, hP, rfl⟩ | ⟨e, h0, he, rfl⟩)
  · exact h1 P (pb_rd hf hP).1 hP
  · exact h2 e h0 he
theorem S_RdPoint0 (n cap : Nat) (f : Nat → Int) (hf : ∀ i, i < n → 0 ≤ f i ∧ f i ≤ 255) : ACall Pg F_witanref01_ReadPoint [.vsl 1 n cap (bytesG f)] [] (fun v _ => ((∃ P, rd n f = .ok P ∧ v = .tup [ptA P, .int .i64 0]) ∨ (∃ e, e ≠ 0 ∧ rd n f = .error e ∧ v = .tup [noPt, .int .i64 e])) ∧ Flat true v) := by
  have no : ∀ e : Int, Flat true (.tup [noPt, .int .i64 e]) := fun e => .tup _ (.cons _ _ (flat_no true) (.cons _ _ (.int _ _) .nil))
  have ok : ∀ {P}, Flat true (.tup [ptA P, .int .i64 0]) := fun {P} => .tup _ (.cons _ _ flat_ptA (.cons _ _ (.int _ _) .nil))
  refine B_witanref01_ReadPoint ⟨rfl, ?_⟩
  by_cases h1 : n = 1
  · subst h1
    conv => whnf
    repeat (refine ⟨⟨[], rfl⟩, ?_⟩; conv => whnf)
    refine condB_mk (fun h => ?_) (fun h => ?_)
    · have h : f 0 = 0 := by simpa using h
      conv => whnf
      repeat (refine ⟨⟨[], rfl⟩, ?_⟩; conv => whnf)
      refine S_rInf ?_
      conv => whnf
      repeat (refine ⟨⟨[], rfl⟩, ?_⟩; conv => whnf)
      refine ⟨.inl ⟨.inf, rd_inf ⟨rfl, h⟩, rfl⟩, ok (P := .inf)⟩
    · have h : f 0 ≠ 0 := by simpa using h
      conv => whnf
      repeat (refine ⟨⟨[], rfl⟩, ?_⟩; conv => whnf)
      exact ⟨.inr ⟨7, by decide, rd_7 (fun x => h x.2) (by omega), rfl⟩, no 7⟩
  by_cases h33 : n = 33
  · subst h33
    have hf0 : 0 ≤ f 0 ∧ f 0 ≤ 255 := hf 0 (by decide)
    have bad : ¬ f 0 = 2 → ¬ f 0 = 3 → rd 33 f = .error 7 := fun a b => rd_7 (by omega) (fun h => h.2.elim a b)
    have key : f 0 = 2 ∨ f 0 = 3 ∨ (f 0 ≠ 2 ∧ f 0 ≠ 3) := by omega
    rcases key with h2 | h2 | ⟨hn2, hn3⟩
    rotate_left 2
    · conv => whnf
      repeat (refine ⟨⟨[], rfl⟩, ?_⟩; conv => whnf)
      refine condB_mk (fun h => ?_) (fun h => absurd (by simpa using h) hn2)
      conv => whnf
      repeat (refine ⟨⟨[], rfl⟩, ?_⟩; conv => whnf)
      refine condB_mk (fun h => ?_) (fun h => absurd (by simpa using h) hn3)
      conv => whnf
      repeat (refine ⟨⟨[], rfl⟩, ?_⟩; conv => whnf)
      exact ⟨.inr ⟨7, by decide, bad hn2 hn3, rfl⟩, no 7⟩
    · have h23 : f 0 = 2 ∨ f 0 = 3 := .inl h2
      conv => whnf
      repeat (refine ⟨⟨[], rfl⟩, ?_⟩; conv => whnf)
      refine condB_mk (fun h => absurd h2 (by simpa using h)) (fun h => ?_)
      conv => whnf
      repeat (refine ⟨⟨[], rfl⟩, ?_⟩; conv => whnf)
      refine S_ROf (f := fun i => f (i + 1)) (fun i hi => hf _ (by omega)) (fun x hx hx1 => ?_)
      conv => whnf
      repeat (refine ⟨⟨[], rfl⟩, ?_⟩; conv => whnf)
      refine S_RPrime_0 (fun p hp => ?_)
      conv => whnf
      repeat (refine ⟨⟨[], rfl⟩, ?_⟩; conv => whnf)
      refine S_RCmp hx1 (by rw [hp]; decide) (fun r hr => ?_)
      conv => whnf
      repeat (refine ⟨⟨[], rfl⟩, ?_⟩; conv => whnf)
      rcases cmpZ_or hr with ⟨g1, rfl⟩ | ⟨g1, rfl | rfl⟩
      rotate_left
      · conv => whnf
        repeat (refine ⟨⟨[], rfl⟩, ?_⟩; conv => whnf)
        exact ⟨.inr ⟨2, by decide, rd_2 ⟨rfl, h23⟩ (by omega), rfl⟩, no 2⟩
      · conv => whnf
        repeat (refine ⟨⟨[], rfl⟩, ?_⟩; conv => whnf)
        exact ⟨.inr ⟨2, by decide, rd_2 ⟨rfl, h23⟩ (by omega), rfl⟩, no 2⟩
      obtain ⟨X, rfl⟩ : ∃ X : Fp, x = X.val := ⟨⟨x, by omega⟩, rfl⟩
      have hX := hx.symm
      conv => whnf
      repeat (refine ⟨⟨[], rfl⟩, ?_⟩; conv => whnf)
      refine S_rmul (x := X) (y := X) (fun xx hxx => ?_)
      conv => whnf
      repeat (refine ⟨⟨[], rfl⟩, ?_⟩; conv => whnf)
      refine S_rmul (x := xx) (y := X) (fun x3 hx3 => ?_)
      conv => whnf
      repeat (refine ⟨⟨[], rfl⟩, ?_⟩; conv => whnf)
      refine S_radd (x := x3) (y := 7) (fun c hc => ?_)
      conv => whnf
      repeat (refine ⟨⟨[], rfl⟩, ?_⟩; conv => whnf)
      subst hxx hx3
      refine S_RRoot (a := c) (fun y hy hs => ?_) (fun hs => ?_)
      · conv => whnf
        repeat (refine ⟨⟨[], rfl⟩, ?_⟩; conv => whnf)
        refine condB_mk (fun h3 => ?_) (fun h3 => ?_)
        · have h3 : f 0 = 3 := by simpa using h3
          omega
        · conv => whnf
          repeat (refine ⟨⟨[], rfl⟩, ?_⟩; conv => whnf)
          refine ⟨.inl ⟨.aff X y, ?_, rfl⟩, ok (P := .aff X y)⟩
          rw [rd_ok ⟨rfl, h23⟩ hX (hc ▸ hs), if_neg (by omega), ← hc, hy]
      · conv => whnf
        repeat (refine ⟨⟨[], rfl⟩, ?_⟩; conv => whnf)
        exact ⟨.inr ⟨3, by decide, rd_3 ⟨rfl, h23⟩ hX (hc ▸ hs), rfl⟩, no 3⟩
    · have h23 : f 0 = 2 ∨ f 0 = 3 := .inr h2
      conv => whnf
      repeat (refine ⟨⟨[], rfl⟩, ?_⟩; conv => whnf)
      refine condB_mk (fun h => ?_) (fun h => absurd (show f 0 = 2 by simpa using h) (by omega))
      conv => whnf
      repeat (refine ⟨⟨[], rfl⟩, ?_⟩; conv => whnf)
      refine condB_mk (fun h => absurd h2 (by simpa using h)) (fun h => ?_)
      conv => whnf
      repeat (refine ⟨⟨[], rfl⟩, ?_⟩; conv => whnf)
      refine S_ROf (f := fun i => f (i + 1)) (fun i hi => hf _ (by omega)) (fun x hx hx1 => ?_)
      conv => whnf
      repeat (refine ⟨⟨[], rfl⟩, ?_⟩; conv => whnf)
      refine S_RPrime_0 (fun p hp => ?_)
      conv => whnf
      repeat (refine ⟨⟨[], rfl⟩, ?_⟩; conv => whnf)
      refine S_RCmp hx1 (by rw [hp]; decide) (fun r hr => ?_)
      conv => whnf
      repeat (refine ⟨⟨[], rfl⟩, ?_⟩; conv => whnf)
      rcases cmpZ_or hr with ⟨g1, rfl⟩ | ⟨g1, rfl | rfl⟩
      rotate_left
      · conv => whnf
        repeat (refine ⟨⟨[], rfl⟩, ?_⟩; conv => whnf)
        exact ⟨.inr ⟨2, by decide, rd_2 ⟨rfl, h23⟩ (by omega), rfl⟩, no 2⟩
      · conv => whnf
        repeat (refine ⟨⟨[], rfl⟩, ?_⟩; conv => whnf)
        exact ⟨.inr ⟨2, by decide, rd_2 ⟨rfl, h23⟩ (by omega), rfl⟩, no 2⟩
      obtain ⟨X, rfl⟩ : ∃ X : Fp, x = X.val := ⟨⟨x, by omega⟩, rfl⟩
      have hX := hx.symm
      conv => whnf
      repeat (refine ⟨⟨[], rfl⟩, ?_⟩; conv => whnf)
      refine S_rmul (x := X) (y := X) (fun xx hxx => ?_)
      conv => whnf
      repeat (refine ⟨⟨[], rfl⟩, ?_⟩; conv => whnf)
      refine S_rmul (x := xx) (y := X) (fun x3 hx3 => ?_)
      conv => whnf
      repeat (refine ⟨⟨[], rfl⟩, ?_⟩; conv => whnf)
      refine S_radd (x := x3) (y := 7) (fun c hc => ?_)
      conv => whnf
      repeat (refine ⟨⟨[], rfl⟩, ?_⟩; conv => whnf)
      subst hxx hx3
      refine S_RRoot (a := c) (fun y hy hs => ?_) (fun hs => ?_)
      · conv => whnf
        repeat (refine ⟨⟨[], rfl⟩, ?_⟩; conv => whnf)
        refine condB_mk (fun h3 => ?_) (fun h3 => absurd h2 (by simpa using h3))
        conv => whnf
        repeat (refine ⟨⟨[], rfl⟩, ?_⟩; conv => whnf)
        refine S_rsub (x := 0) (y := y) (fun z hz => ?_)
        conv => whnf
        repeat (refine ⟨⟨[], rfl⟩, ?_⟩; conv => whnf)
        refine ⟨.inl ⟨.aff X z, ?_, rfl⟩, ok (P := .aff X z)⟩
        rw [rd_ok ⟨rfl, h23⟩ hX (hc ▸ hs), if_pos h2, ← hc, hz, hy, zero_sub_fp]
      · conv => whnf
        repeat (refine ⟨⟨[], rfl⟩, ?_⟩; conv => whnf)
        exact ⟨.inr ⟨3, by decide, rd_3 ⟨rfl, h23⟩ hX (hc ▸ hs), rfl⟩, no 3⟩
  · conv => whnf
    repeat (refine ⟨⟨[], rfl⟩, ?_⟩; conv => whnf)
    refine condB_mk (fun h => by exfalso; simp at h; omega) (fun h => ?_)
    conv => whnf
    repeat (refine ⟨⟨[], rfl⟩, ?_⟩; conv => whnf)
    refine condB_mk (fun h => by exfalso; simp at h; omega) (fun h => ?_)
    conv => whnf
    repeat (refine ⟨⟨[], rfl⟩, ?_⟩; conv => whnf)
    exact ⟨.inr ⟨7, by decide, rd_7 (fun h => h1 h.1) (fun h => h33 h.1), rfl⟩, no 7⟩
theorem S_RdPoint {m : Mem} {K : AV → Mem → Prop} {x : AV} {n : Nat} {f : Nat → Int} (hx : Shows m x n f) (hf : ∀ i, i < n → 0 ≤ f i ∧ f i ≤ 255) (h1 : ∀ P, On P → rd n f = .ok P → K (.tup [ptA P, .int .i64 0]) m) (h2 : ∀ e, e ≠ 0 → rd n f = .error e → K (.tup [noPt, .int .i64 e]) m) : ACall Pg F_witanref01_ReadPoint [x] m K := by
  obtain ⟨c, hl⟩ := hx
  refine lift_flat (S_RdPoint0 n c f hf) (.cons _ _ _ _ hl .nil) ?_
  rintro v (⟨P, hP, rfl⟩ | ⟨e, h0, he, rfl⟩)
  · exact h1 P (pb_rd hf hP).1 hP
  · exact h2 e h0 he
end Go.Proofs.Ytdeholmpcbakbaa
end

section
/- What is left of long numbers; scalars; no condition. -/
set_option linter.unusedVariables false
set_option linter.unusedSimpArgs false
set_option maxRecDepth 100000
set_option pp.maxSteps 3000
namespace Go.Proofs.Ytdeholmpcbakbaa
open Go Go.Wit

theorem S_LSubE {m : Mem} {x y : AV} {K : AV → Mem → Prop} {a b : Nat} (hx : x = numA a) (hy : y = numA b) (ha : a < w256) (hb : b < w256) (h : ∀ s c : Nat, a + c * w256 = b + s → s < w256 → c ≤ 1 → K (.tup [numA s, .int .u64 c]) m) : ACall Pg F_limb_Sub [x, y] m K := by
  subst hx hy; exact S_LSub ha hb h
theorem S_LCmpE {m : Mem} {x y : AV} {K : AV → Mem → Prop} {a b : Nat} (hx : x = numA a) (hy : y = numA b) (ha : a < w256) (hb : b < w256) (h : ∀ r, r = cmpZ a b → K (.int .i64 r) m) : ACall Pg F_limb_Cmp [x, y] m K := by
  subst hx hy; exact S_LCmp ha hb h
theorem pow64 : (18446744073709551616 : Nat) ^ 3 = 6277101735386680763835789423207666416102355444464034512896 ∧ (18446744073709551616 : Nat) ^ 2 = 340282366920938463463374607431768211456 := by decide
theorem top_eq {r s c : Nat} (hr : r < w256) (hs : s < w256) (hc : c ≤ 1) (e : r + r = s + c * w256) : (lim r 3).fdiv (2 ^ min (Int.toNat 63) IntKind.u64.bits) = (c : Int) := by
  have e1 : (2 : Int) ^ min (Int.toNat 63) IntKind.u64.bits = ((9223372036854775808 : Nat) : Int) := rfl
  rw [e1, Int.fdiv_eq_ediv_of_nonneg _ (by omega)]
  unfold lim
  rw [← Int.natCast_ediv, pow64.1]
  unfold w256 at *
  congr 1
  omega
theorem or_bit {x b : Nat} (hx : x < 18446744073709551616) (h2 : x % 2 = 0) (hb : b ≤ 1) : bitsV .or .u64 (x : Int) (b : Int) = ((x + b : Nat) : Int) := by
  have e : (BitVec.ofInt 64 (x : Int) ||| BitVec.ofInt 64 (b : Int)).toNat = x + b := by
    rw [BitVec.toNat_or, BitVec.toNat_ofInt, BitVec.toNat_ofInt]
    have h1 : ((x : Int) % ((2 ^ 64 : Nat) : Int)).toNat = x := by omega
    have h3 : ((b : Int) % ((2 ^ 64 : Nat) : Int)).toNat = b := by omega
    rw [h1, h3]
    obtain ⟨y, rfl⟩ : ∃ y, x = 2 ^ 1 * y := ⟨x / 2, by omega⟩
    rw [← Nat.two_pow_add_eq_or_of_lt (by omega)]
  show IntKind.u64.wrap ((BitVec.ofInt 64 (x : Int) ||| BitVec.ofInt 64 (b : Int)).toNat : Int) = _
  rw [e, wu64]
  omega
theorem or_lim {s b : Nat} (h2 : s % 2 = 0) (hb : b ≤ 1) : bitsV .or .u64 (lim s 0) (IntKind.u64.wrap (b : Int)) = lim (s + b) 0 := by
  have eb : IntKind.u64.wrap (b : Int) = (b : Int) := by rw [wu64]; omega
  rw [eb]
  unfold lim
  rw [Nat.pow_zero, Nat.div_one, Nat.div_one, or_bit (Nat.mod_lt _ (by decide)) (by omega) hb]
  congr 1
  omega
theorem lim_hi {s b j : Nat} (h2 : s % 2 = 0) (hb : b ≤ 1) : lim (s + b) (j + 1) = lim s (j + 1) := by
  unfold lim
  have e : (s + b) / 18446744073709551616 ^ (j + 1) = s / 18446744073709551616 ^ (j + 1) := by
    rw [Nat.pow_succ, Nat.mul_comm, ← Nat.div_div_eq_div_mul, ← Nat.div_div_eq_div_mul]
    congr 1
    omega
  rw [e]
theorem or_cells {s b : Nat} (h2 : s % 2 = 0) (hb : b ≤ 1) : AV.agg [.int .u64 (bitsV .or .u64 (lim s 0) (IntKind.u64.wrap (b : Int))), .int .u64 (lim s 1), .int .u64 (lim s 2), .int .u64 (lim s 3)] = numA (s + b) := by
  rw [or_lim h2 hb, ← lim_hi (j := 0) h2 hb, ← lim_hi (j := 1) h2 hb, ← lim_hi (j := 2) h2 hb]
  rfl
theorem cell4 {blk : Blk} {a b c d : AV} (h0 : cellG blk 0 0 0 = a) (h1 : cellG blk 0 0 1 = b) (h2 : cellG blk 0 0 2 = c) (h3 : cellG blk 0 0 3 = d) : AV.agg (List.map (cellG blk 0 0) (List.range 4)) = .agg [a, b, c, d] := by
  subst h0 h1 h2 h3; rfl
theorem upd_at {n : Nat} {g : Nat → Nat → AV} {v : AV} : cellG ⟨1, n, updG ⟨1, n, g⟩ 0 0 1 [v]⟩ 0 0 0 = v := by
  show updG ⟨1, n, g⟩ 0 0 1 [v] 0 0 = v
  rw [updG_one, if_pos rfl]
theorem upd_ne {n t : Nat} {g : Nat → Nat → AV} {v w : AV} (e : g (t + 1) 0 = w) : cellG ⟨1, n, updG ⟨1, n, g⟩ 0 0 1 [v]⟩ 0 0 (t + 1) = w := by
  rw [cellG_one, updG_one, if_neg (by omega), Nat.zero_add, e]
theorem or_blk {s b i j : Nat} {nv : Bool} {σ : Nat → Option Nat} {A : AV} (h2 : s % 2 = 0) (hb : b ≤ 1) (hi : i < 4) (hj : j < 1) (hA : A = updG ⟨1, 4, lstG 1 (numL s)⟩ 0 0 1 [.int .u64 (bitsV .or .u64 (lim s 0) (IntKind.u64.wrap (b : Int)))] i j) : RV nv σ A (lstG 1 (numL (s + b)) i j) := by
  subst hA
  obtain rfl : j = 0 := by omega
  have : i = 0 ∨ i = 1 ∨ i = 2 ∨ i = 3 := by omega
  rcases this with rfl | rfl | rfl | rfl
  · exact .eq _ _ (congrArg (AV.int .u64) (or_lim h2 hb)) (.int _ _)
  · exact .eq _ _ (congrArg (AV.int .u64) (lim_hi (j := 0) h2 hb).symm) (.int _ _)
  · exact .eq _ _ (congrArg (AV.int .u64) (lim_hi (j := 1) h2 hb).symm) (.int _ _)
  · exact .eq _ _ (congrArg (AV.int .u64) (lim_hi (j := 2) h2 hb).symm) (.int _ _)
theorem step_mod {V k m : Nat} : V / 2 ^ k % m = (2 * (V / 2 ^ (k + 1) % m) + V / 2 ^ k % 2) % m := by
  rw [Nat.pow_succ, ← Nat.div_div_eq_div_mul]
  generalize V / 2 ^ k = W
  have e : W = 2 * (W / 2) + W % 2 := (Nat.div_add_mod W 2).symm
  conv => lhs; rw [e]
  simp [Nat.add_mod, Nat.mul_mod]
theorem bit_hi {hi lo k : Nat} (h2 : lo < w256) (h : 256 ≤ k) (h5 : k < 512) : (hi * w256 + lo) / 2 ^ k % 2 = hi / 2 ^ (k % 256) % 2 := by
  have e : (2 : Nat) ^ k = w256 * 2 ^ (k % 256) := by
    rw [show w256 = 2 ^ 256 by decide, ← Nat.pow_add]; congr 1; omega
  rw [e, ← Nat.div_div_eq_div_mul]
  congr 2
  rw [Nat.mul_comm, Nat.mul_add_div (by decide), Nat.div_eq_of_lt h2]; rfl
theorem bit_lo {hi lo k : Nat} (h : k < 256) : (hi * w256 + lo) / 2 ^ k % 2 = lo / 2 ^ (k % 256) % 2 := by
  rw [Nat.mod_eq_of_lt h]
  obtain ⟨d, hd⟩ : ∃ d, 256 = k + (d + 1) := ⟨255 - k, by omega⟩
  have e : w256 = 2 ^ k * (2 ^ d * 2) := by rw [← Nat.pow_succ, ← Nat.pow_add, ← hd]
  rw [e, show hi * (2 ^ k * (2 ^ d * 2)) + lo = 2 ^ k * (hi * 2 ^ d * 2) + lo by rw [Nat.mul_left_comm, Nat.mul_assoc], Nat.mul_add_div (Nat.pow_pos (by decide)), Nat.add_comm, Nat.add_mul_mod_self_right]
theorem mod_wrap {r s b c m t d : Nat} (h3 : m < w256) (hr : r < m) (e1 : r + r = s + c * w256) (hs : s < w256) (hc : c = 1) (hb : b ≤ 1) (e2 : s + b + d * w256 = m + t) (ht : t < w256) (hd : d ≤ 1) : t = (2 * r + b) % m := by
  subst hc
  have e : 2 * r + b = t + m := by
    unfold w256 at *
    have : d = 0 ∨ d = 1 := by omega
    rcases this with rfl | rfl <;> omega
  rw [e, Nat.add_mod_right, Nat.mod_eq_of_lt (by unfold w256 at *; omega)]
theorem mod_sub {r s b c m t d : Nat} (hr : r < m) (e1 : r + r = s + c * w256) (hc : c = 0) (hb : b ≤ 1) (hge : m ≤ s + b) (e2 : s + b + d * w256 = m + t) (ht : t < w256) (hd : d ≤ 1) : t = (2 * r + b) % m := by
  subst hc
  have e : 2 * r + b = t + m := by
    unfold w256 at *
    have : d = 0 ∨ d = 1 := by omega
    rcases this with rfl | rfl <;> omega
  rw [e, Nat.add_mod_right, Nat.mod_eq_of_lt (by omega)]
theorem big_zero {hi lo e a b : Nat} (he : e = a + b) (ha : 2 ^ a = w256) (hb : 2 ^ b = w256) (h1 : hi < w256) (h2 : lo < w256) : (hi * w256 + lo) / 2 ^ e = 0 := by
  rw [he, Nat.pow_add, ha, hb]
  refine Nat.div_eq_of_lt ?_
  have h3 : hi * w256 ≤ (w256 - 1) * w256 := Nat.mul_le_mul_right _ (by omega)
  rw [Nat.sub_mul, Nat.one_mul] at h3
  have h4 : w256 ≤ w256 * w256 := Nat.le_mul_of_pos_right _ (by decide)
  omega
theorem S_LMod0 (hi lo m : Nat) (h1 : hi < w256) (h2 : lo < w256) (h3 : m < w256) (h0 : 0 < m) : ACall Pg F_limb_Mod [numA hi, numA lo, numA m] [] (fun v _ => v = .tup [numA ((hi * w256 + lo) % m), .int .i64 0] ∧ Flat true v) := by
  refine B_limb_Mod ⟨rfl, ?_⟩
  conv => whnf
  repeat (refine ⟨⟨[], rfl⟩, ?_⟩; conv => whnf)
  refine c_eqz h3 (fun h => by omega) (fun _ => ?_)
  conv => whnf
  repeat (refine ⟨⟨[], rfl⟩, ?_⟩; conv => whnf)
  obtain ⟨Q, hQ⟩ : ∃ Q : Nat, Q = 256 + 256 := ⟨_, rfl⟩
  refine loop_wk mixed (I := fun q l w => ∃ (r : Nat) (v : Int), l = [(3, .ptr 0 0 0), (4, .ptr 1 0 0), (5, .ptr 2 0 0), (6, .ptr 3 0 0), (8, .ptr 4 0 0), (9, .int .i64 v)] ∧ w = [some ⟨1, 4, lstG 1 (numL hi)⟩, some ⟨1, 4, lstG 1 (numL lo)⟩, some ⟨1, 4, lstG 1 (numL m)⟩, some ⟨1, 4, lstG 1 (numL 0)⟩, some ⟨1, 4, lstG 1 (numL r)⟩] ∧ v = (q : Int) - 1 ∧ q ≤ 512 ∧ r = (hi * w256 + lo) / 2 ^ q % m) Q
    (l0 := [(3, .ptr 0 0 0), (4, .ptr 1 0 0), (5, .ptr 2 0 0), (6, .ptr 3 0 0), (8, .ptr 4 0 0), (9, .int .i64 (511 : Int))]) (m0 := [some ⟨1, 4, lstG 1 (numL hi)⟩, some ⟨1, 4, lstG 1 (numL lo)⟩, some ⟨1, 4, lstG 1 (numL m)⟩, some ⟨1, 4, lstG 1 (numL 0)⟩, some ⟨1, 4, lstG 1 (numL 0)⟩]) [some 0, some 1, some 2, some 3, some 4] ⟨0, 511, rfl, rfl, by omega, by omega, ?_⟩ ?_ ?_
  · rw [big_zero hQ (by decide) (by decide) h1 h2, Nat.zero_mod]
  · refine .mk0 ⟨.ptr _ _ _ _ rfl, .ptr _ _ _ _ rfl, .ptr _ _ _ _ rfl, .ptr _ _ _ _ rfl, .ptr _ _ _ _ rfl, Flat.i rfl, trivial⟩ ⟨.old 0 0 _ _ rfl rfl ⟨rfl, Nat.le_refl _, fun i j hi hj => .eq _ _ rfl flat_numG⟩, .old 1 1 _ _ rfl rfl ⟨rfl, Nat.le_refl _, fun i j hi hj => .eq _ _ rfl flat_numG⟩, .old 2 2 _ _ rfl rfl ⟨rfl, Nat.le_refl _, fun i j hi hj => .eq _ _ rfl flat_numG⟩, .old 3 3 _ _ rfl rfl ⟨rfl, Nat.le_refl _, fun i j hi hj => ?_⟩, .old 4 4 _ _ rfl rfl ⟨rfl, Nat.le_refl _, fun i j hi hj => ?_⟩, trivial⟩ rfl rfl
    all_goals
      have hj : j < 1 := hj
      have hi : i < 4 := hi
      obtain rfl : j = 0 := by omega
      have : i = 0 ∨ i = 1 ∨ i = 2 ∨ i = 3 := by omega
      rcases this with rfl | rfl | rfl | rfl <;> exact .eq _ _ rfl (.int _ _)
  · rintro q l w ⟨r, v, rfl, rfl, hv, hq, hr⟩
    conv => whnf
    repeat (refine ⟨⟨[], rfl⟩, ?_⟩; conv => whnf)
    refine condB_mk (fun hb => ?_) (fun hb => ?_)
    · obtain ⟨k, rfl⟩ : ∃ k, q = k + 1 := ⟨q - 1, by simp at hb; omega⟩
      obtain rfl : v = (k : Int) := by omega
      have hrm : r < m := by rw [hr]; exact Nat.mod_lt _ h0
      have hr1 : r < w256 := by omega
      conv => whnf
      repeat (refine ⟨⟨[], rfl⟩, ?_⟩; conv => whnf)
      refine condB_mk (fun hk => ?_) (fun hk => ?_)
      · conv => whnf
        repeat (refine ⟨⟨[], rfl⟩, ?_⟩; conv => whnf)
        refine S_LAdd hr1 hr1 (fun s c e1 hs hc => ?_)
        conv => whnf
        repeat (refine ⟨⟨[], rfl⟩, ?_⟩; conv => whnf)
        refine S_LBit (a := hi) (i := k % 256) (by omega) (fun b hb2 => ?_)
        conv => whnf
        repeat (refine ⟨⟨[], rfl⟩, ?_⟩; conv => whnf)
        have hb3 : b = (hi * w256 + lo) / 2 ^ k % 2 := by rw [hb2]; exact (bit_hi h2 (by simp at hk; omega) (by omega)).symm
        have hb1 : b ≤ 1 := by omega
        have hs2 : s % 2 = 0 := by unfold w256 at e1; omega
        have hsb : s + b < w256 := by unfold w256 at hs ⊢; omega
        have et := top_eq hr1 hs hc e1
        have hx := or_cells (s := s) (b := b) hs2 hb1
        have hst : (hi * w256 + lo) / 2 ^ k % m = (2 * r + b) % m := by rw [hr, hb3]; exact step_mod
        by_cases hc1 : c = 1
        · refine condB_no (by rw [et, hc1]; rfl) ?_
          conv => whnf
          repeat (refine ⟨⟨[], rfl⟩, ?_⟩; conv => whnf)
          refine S_LSubE (a := s + b) (b := m) (Eq.trans (cell4 (a := .int .u64 (bitsV .or .u64 (lim s 0) (IntKind.u64.wrap (b : Int)))) (b := .int .u64 (lim s 1)) (c := .int .u64 (lim s 2)) (d := .int .u64 (lim s 3)) upd_at (upd_ne (t := 0) rfl) (upd_ne (t := 1) rfl) (upd_ne (t := 2) rfl)) hx) rfl hsb h3 (fun t d e2 ht hd => ?_)
          conv => whnf
          repeat (refine ⟨⟨[], rfl⟩, ?_⟩; conv => whnf)
          refine ⟨k, _, _, [some 0, some 1, some 2, some 3, some 4], Nat.lt_succ_self _, ⟨t, (k : Int) - 1, rfl, rfl, rfl, by omega, ?_⟩, ?_⟩
          · rw [hst]
            exact mod_wrap h3 hrm e1 hs hc1 hb1 e2 ht hd
          · exact .mk0 ⟨.ptr _ _ _ _ rfl, .ptr _ _ _ _ rfl, .ptr _ _ _ _ rfl, .ptr _ _ _ _ rfl, .ptr _ _ _ _ rfl, Flat.i (w64 (by omega) (by omega)), trivial⟩ ⟨.old 0 0 _ _ rfl rfl ⟨rfl, Nat.le_refl _, fun i j hi hj => .eq _ _ rfl flat_numG⟩, .old 1 1 _ _ rfl rfl ⟨rfl, Nat.le_refl _, fun i j hi hj => .eq _ _ rfl flat_numG⟩, .old 2 2 _ _ rfl rfl ⟨rfl, Nat.le_refl _, fun i j hi hj => .eq _ _ rfl flat_numG⟩, .old 3 3 _ _ rfl rfl ⟨rfl, Nat.le_refl _, fun i j hi hj => .eq _ _ rfl flat_numG⟩, .old 4 4 _ _ rfl rfl ⟨rfl, Nat.le_refl _, fun i j hi hj => .eq _ _ rfl flat_numG⟩, trivial⟩ rfl rfl
        · have hc0 : c = 0 := by omega
          refine condB_yes (by rw [et, hc0]; rfl) ?_
          conv => whnf
          repeat (refine ⟨⟨[], rfl⟩, ?_⟩; conv => whnf)
          refine S_LCmpE (a := s + b) (b := m) (Eq.trans (cell4 (a := .int .u64 (bitsV .or .u64 (lim s 0) (IntKind.u64.wrap (b : Int)))) (b := .int .u64 (lim s 1)) (c := .int .u64 (lim s 2)) (d := .int .u64 (lim s 3)) upd_at (upd_ne (t := 0) rfl) (upd_ne (t := 1) rfl) (upd_ne (t := 2) rfl)) hx) rfl hsb h3 (fun z hz => ?_)
          conv => whnf
          repeat (refine ⟨⟨[], rfl⟩, ?_⟩; conv => whnf)
          refine condB_mk (fun hz2 => ?_) (fun hz2 => ?_)
          · have hge : m ≤ s + b := by
              have hz2 : z ≥ 0 := of_decide_eq_true hz2
              rw [hz, cmpZ] at hz2
              split at hz2
              · omega
              · omega
            conv => whnf
            repeat (refine ⟨⟨[], rfl⟩, ?_⟩; conv => whnf)
            refine S_LSubE (a := s + b) (b := m) (Eq.trans (cell4 (a := .int .u64 (bitsV .or .u64 (lim s 0) (IntKind.u64.wrap (b : Int)))) (b := .int .u64 (lim s 1)) (c := .int .u64 (lim s 2)) (d := .int .u64 (lim s 3)) upd_at (upd_ne (t := 0) rfl) (upd_ne (t := 1) rfl) (upd_ne (t := 2) rfl)) hx) rfl hsb h3 (fun t d e2 ht hd => ?_)
            conv => whnf
            repeat (refine ⟨⟨[], rfl⟩, ?_⟩; conv => whnf)
            refine ⟨k, _, _, [some 0, some 1, some 2, some 3, some 4], Nat.lt_succ_self _, ⟨t, (k : Int) - 1, rfl, rfl, rfl, by omega, ?_⟩, ?_⟩
            · rw [hst]
              exact mod_sub hrm e1 hc0 hb1 hge e2 ht hd
            · exact .mk0 ⟨.ptr _ _ _ _ rfl, .ptr _ _ _ _ rfl, .ptr _ _ _ _ rfl, .ptr _ _ _ _ rfl, .ptr _ _ _ _ rfl, Flat.i (w64 (by omega) (by omega)), trivial⟩ ⟨.old 0 0 _ _ rfl rfl ⟨rfl, Nat.le_refl _, fun i j hi hj => .eq _ _ rfl flat_numG⟩, .old 1 1 _ _ rfl rfl ⟨rfl, Nat.le_refl _, fun i j hi hj => .eq _ _ rfl flat_numG⟩, .old 2 2 _ _ rfl rfl ⟨rfl, Nat.le_refl _, fun i j hi hj => .eq _ _ rfl flat_numG⟩, .old 3 3 _ _ rfl rfl ⟨rfl, Nat.le_refl _, fun i j hi hj => .eq _ _ rfl flat_numG⟩, .old 4 4 _ _ rfl rfl ⟨rfl, Nat.le_refl _, fun i j hi hj => .eq _ _ rfl flat_numG⟩, trivial⟩ rfl rfl
          · have hlt : s + b < m := by
              have hz2 : ¬ z ≥ 0 := of_decide_eq_false hz2
              rw [hz, cmpZ] at hz2
              split at hz2
              · omega
              · split at hz2 <;> omega
            conv => whnf
            repeat (refine ⟨⟨[], rfl⟩, ?_⟩; conv => whnf)
            refine ⟨k, _, _, [some 0, some 1, some 2, some 3, some 4], Nat.lt_succ_self _, ⟨s + b, (k : Int) - 1, rfl, rfl, rfl, by omega, ?_⟩, ?_⟩
            · have e3 : r + r = s := by rw [e1, hc0, Nat.zero_mul, Nat.add_zero]
              rw [hst, Nat.mod_eq_of_lt (by omega)]; omega
            · exact .mk0 ⟨.ptr _ _ _ _ rfl, .ptr _ _ _ _ rfl, .ptr _ _ _ _ rfl, .ptr _ _ _ _ rfl, .ptr _ _ _ _ rfl, Flat.i (w64 (by omega) (by omega)), trivial⟩ ⟨.old 0 0 _ _ rfl rfl ⟨rfl, Nat.le_refl _, fun i j hi hj => .eq _ _ rfl flat_numG⟩, .old 1 1 _ _ rfl rfl ⟨rfl, Nat.le_refl _, fun i j hi hj => .eq _ _ rfl flat_numG⟩, .old 2 2 _ _ rfl rfl ⟨rfl, Nat.le_refl _, fun i j hi hj => .eq _ _ rfl flat_numG⟩, .old 3 3 _ _ rfl rfl ⟨rfl, Nat.le_refl _, fun i j hi hj => .eq _ _ rfl flat_numG⟩, .old 4 4 _ _ rfl rfl ⟨rfl, Nat.le_refl _, fun i j hi hj => or_blk hs2 hb1 hi hj rfl⟩, trivial⟩ rfl rfl
      · conv => whnf
        repeat (refine ⟨⟨[], rfl⟩, ?_⟩; conv => whnf)
        refine S_LAdd hr1 hr1 (fun s c e1 hs hc => ?_)
        conv => whnf
        repeat (refine ⟨⟨[], rfl⟩, ?_⟩; conv => whnf)
        refine S_LBit (a := lo) (i := k % 256) (by omega) (fun b hb2 => ?_)
        conv => whnf
        repeat (refine ⟨⟨[], rfl⟩, ?_⟩; conv => whnf)
        have hb3 : b = (hi * w256 + lo) / 2 ^ k % 2 := by rw [hb2]; exact (bit_lo (by simp at hk; omega)).symm
        have hb1 : b ≤ 1 := by omega
        have hs2 : s % 2 = 0 := by unfold w256 at e1; omega
        have hsb : s + b < w256 := by unfold w256 at hs ⊢; omega
        have et := top_eq hr1 hs hc e1
        have hx := or_cells (s := s) (b := b) hs2 hb1
        have hst : (hi * w256 + lo) / 2 ^ k % m = (2 * r + b) % m := by rw [hr, hb3]; exact step_mod
        by_cases hc1 : c = 1
        · refine condB_no (by rw [et, hc1]; rfl) ?_
          conv => whnf
          repeat (refine ⟨⟨[], rfl⟩, ?_⟩; conv => whnf)
          refine S_LSubE (a := s + b) (b := m) (Eq.trans (cell4 (a := .int .u64 (bitsV .or .u64 (lim s 0) (IntKind.u64.wrap (b : Int)))) (b := .int .u64 (lim s 1)) (c := .int .u64 (lim s 2)) (d := .int .u64 (lim s 3)) upd_at (upd_ne (t := 0) rfl) (upd_ne (t := 1) rfl) (upd_ne (t := 2) rfl)) hx) rfl hsb h3 (fun t d e2 ht hd => ?_)
          conv => whnf
          repeat (refine ⟨⟨[], rfl⟩, ?_⟩; conv => whnf)
          refine ⟨k, _, _, [some 0, some 1, some 2, some 3, some 4], Nat.lt_succ_self _, ⟨t, (k : Int) - 1, rfl, rfl, rfl, by omega, ?_⟩, ?_⟩
          · rw [hst]
            exact mod_wrap h3 hrm e1 hs hc1 hb1 e2 ht hd
          · exact .mk0 ⟨.ptr _ _ _ _ rfl, .ptr _ _ _ _ rfl, .ptr _ _ _ _ rfl, .ptr _ _ _ _ rfl, .ptr _ _ _ _ rfl, Flat.i (w64 (by omega) (by omega)), trivial⟩ ⟨.old 0 0 _ _ rfl rfl ⟨rfl, Nat.le_refl _, fun i j hi hj => .eq _ _ rfl flat_numG⟩, .old 1 1 _ _ rfl rfl ⟨rfl, Nat.le_refl _, fun i j hi hj => .eq _ _ rfl flat_numG⟩, .old 2 2 _ _ rfl rfl ⟨rfl, Nat.le_refl _, fun i j hi hj => .eq _ _ rfl flat_numG⟩, .old 3 3 _ _ rfl rfl ⟨rfl, Nat.le_refl _, fun i j hi hj => .eq _ _ rfl flat_numG⟩, .old 4 4 _ _ rfl rfl ⟨rfl, Nat.le_refl _, fun i j hi hj => .eq _ _ rfl flat_numG⟩, trivial⟩ rfl rfl
        · have hc0 : c = 0 := by omega
          refine condB_yes (by rw [et, hc0]; rfl) ?_
          conv => whnf
          repeat (refine ⟨⟨[], rfl⟩, ?_⟩; conv => whnf)
          refine S_LCmpE (a := s + b) (b := m) (Eq.trans (cell4 (a := .int .u64 (bitsV .or .u64 (lim s 0) (IntKind.u64.wrap (b : Int)))) (b := .int .u64 (lim s 1)) (c := .int .u64 (lim s 2)) (d := .int .u64 (lim s 3)) upd_at (upd_ne (t := 0) rfl) (upd_ne (t := 1) rfl) (upd_ne (t := 2) rfl)) hx) rfl hsb h3 (fun z hz => ?_)
          conv => whnf
          repeat (refine ⟨⟨[], rfl⟩, ?_⟩; conv => whnf)
          refine condB_mk (fun hz2 => ?_) (fun hz2 => ?_)
          · have hge : m ≤ s + b := by
              have hz2 : z ≥ 0 := of_decide_eq_true hz2
              rw [hz, cmpZ] at hz2
              split at hz2
              · omega
              · omega
            conv => whnf
            repeat (refine ⟨⟨[], rfl⟩, ?_⟩; conv => whnf)
            refine S_LSubE (a := s + b) (b := m) (Eq.trans (cell4 (a := .int .u64 (bitsV .or .u64 (lim s 0) (IntKind.u64.wrap (b : Int)))) (b := .int .u64 (lim s 1)) (c := .int .u64 (lim s 2)) (d := .int .u64 (lim s 3)) upd_at (upd_ne (t := 0) rfl) (upd_ne (t := 1) rfl) (upd_ne (t := 2) rfl)) hx) rfl hsb h3 (fun t d e2 ht hd => ?_)
            conv => whnf
            repeat (refine ⟨⟨[], rfl⟩, ?_⟩; conv => whnf)
            refine ⟨k, _, _, [some 0, some 1, some 2, some 3, some 4], Nat.lt_succ_self _, ⟨t, (k : Int) - 1, rfl, rfl, rfl, by omega, ?_⟩, ?_⟩
            · rw [hst]
              exact mod_sub hrm e1 hc0 hb1 hge e2 ht hd
            · exact .mk0 ⟨.ptr _ _ _ _ rfl, .ptr _ _ _ _ rfl, .ptr _ _ _ _ rfl, .ptr _ _ _ _ rfl, .ptr _ _ _ _ rfl, Flat.i (w64 (by omega) (by omega)), trivial⟩ ⟨.old 0 0 _ _ rfl rfl ⟨rfl, Nat.le_refl _, fun i j hi hj => .eq _ _ rfl flat_numG⟩, .old 1 1 _ _ rfl rfl ⟨rfl, Nat.le_refl _, fun i j hi hj => .eq _ _ rfl flat_numG⟩, .old 2 2 _ _ rfl rfl ⟨rfl, Nat.le_refl _, fun i j hi hj => .eq _ _ rfl flat_numG⟩, .old 3 3 _ _ rfl rfl ⟨rfl, Nat.le_refl _, fun i j hi hj => .eq _ _ rfl flat_numG⟩, .old 4 4 _ _ rfl rfl ⟨rfl, Nat.le_refl _, fun i j hi hj => .eq _ _ rfl flat_numG⟩, trivial⟩ rfl rfl
          · have hlt : s + b < m := by
              have hz2 : ¬ z ≥ 0 := of_decide_eq_false hz2
              rw [hz, cmpZ] at hz2
              split at hz2
              · omega
              · split at hz2 <;> omega
            conv => whnf
            repeat (refine ⟨⟨[], rfl⟩, ?_⟩; conv => whnf)
            refine ⟨k, _, _, [some 0, some 1, some 2, some 3, some 4], Nat.lt_succ_self _, ⟨s + b, (k : Int) - 1, rfl, rfl, rfl, by omega, ?_⟩, ?_⟩
            · have e3 : r + r = s := by rw [e1, hc0, Nat.zero_mul, Nat.add_zero]
              rw [hst, Nat.mod_eq_of_lt (by omega)]; omega
            · exact .mk0 ⟨.ptr _ _ _ _ rfl, .ptr _ _ _ _ rfl, .ptr _ _ _ _ rfl, .ptr _ _ _ _ rfl, .ptr _ _ _ _ rfl, Flat.i (w64 (by omega) (by omega)), trivial⟩ ⟨.old 0 0 _ _ rfl rfl ⟨rfl, Nat.le_refl _, fun i j hi hj => .eq _ _ rfl flat_numG⟩, .old 1 1 _ _ rfl rfl ⟨rfl, Nat.le_refl _, fun i j hi hj => .eq _ _ rfl flat_numG⟩, .old 2 2 _ _ rfl rfl ⟨rfl, Nat.le_refl _, fun i j hi hj => .eq _ _ rfl flat_numG⟩, .old 3 3 _ _ rfl rfl ⟨rfl, Nat.le_refl _, fun i j hi hj => .eq _ _ rfl flat_numG⟩, .old 4 4 _ _ rfl rfl ⟨rfl, Nat.le_refl _, fun i j hi hj => or_blk hs2 hb1 hi hj rfl⟩, trivial⟩ rfl rfl
    · obtain rfl : q = 0 := by simp at hb; omega
      rw [Nat.pow_zero, Nat.div_one] at hr
      conv => whnf
      repeat (refine ⟨⟨[], rfl⟩, ?_⟩; conv => whnf)
      rw [← hr]
      exact ⟨rfl, .tup _ (.cons _ _ flat_numA (.cons _ _ (.int _ _) .nil))⟩
theorem S_LMod {m : Mem} {K : AV → Mem → Prop} {hi lo n : Nat} (h1 : hi < w256) (h2 : lo < w256) (h3 : n < w256) (h0 : 0 < n) (h : K (.tup [numA ((hi * w256 + lo) % n), .int .i64 0]) m) : ACall Pg F_limb_Mod [numA hi, numA lo, numA n] m K := by
  refine lift_flat (S_LMod0 hi lo n h1 h2 h3 h0) (.cons _ _ _ _ lend_numA (.cons _ _ _ _ lend_numA (.cons _ _ _ _ lend_numA .nil))) ?_
  rintro v rfl
  exact h
theorem S_Wide {m : Mem} {K : AV → Mem → Prop} {hi lo : Nat} (h1 : hi < w256) (h2 : lo < w256) (h : K (numA ((hi * w256 + lo) % nN)) m) : ACall Pg F_witanref01_Wide [.int .i64 1, numA hi, numA lo] m K := by
  have h0 : ACall Pg F_witanref01_Wide [.int .i64 1, numA hi, numA lo] [] (fun v _ => v = numA ((hi * w256 + lo) % nN) ∧ Flat true v) := by
    refine B_witanref01_Wide ⟨rfl, ?_⟩
    conv => whnf
    repeat (refine ⟨⟨[], rfl⟩, ?_⟩; conv => whnf)
    refine S_rfold_1 h2 h1 (fun r hr => ?_)
    obtain rfl : r = (hi * w256 + lo) % nN := by rw [hr, Nat.add_comm, Nat.mul_comm]
    generalize (hi * w256 + lo) % nN = r
    conv => whnf
    repeat (refine ⟨⟨[], rfl⟩, ?_⟩; conv => whnf)
    exact ⟨rfl, flat_numA⟩
  refine lift_flat h0 (.cons _ _ _ _ lend_int (.cons _ _ _ _ lend_numA (.cons _ _ _ _ lend_numA .nil))) ?_
  rintro v rfl
  exact h

/-- The number below n of two sums of joined bytes. -/
def scN (n : Nat) (f : Nat → Int) : Nat := (ofZ (sumB (n + 1) (catB n f fun _ => 0)) * w256 + ofZ (sumB (n + 1) (catB n f fun _ => 1))) % nN
theorem scN_lt {n : Nat} {f : Nat → Int} : scN n f < nN := Nat.mod_lt _ (by decide)
theorem S_Scalar0 (s : ByteArray) (r cap : Nat) (N C : Nat → Nat) (F : Nat → Nat → Int) (hs : s.size ≤ 1000000) (hr : r ≤ 1000000) (hN : ∀ i, i < r → N i ≤ 1000000) (hF : ∀ i, i < r → ∀ j, j < N i → 0 ≤ F i j ∧ F i j ≤ 255) :
    ACall Pg F_draw_Scalar [.str s, .vsl 1 r cap (rowsB N C F)] [] (fun v _ => v = (if nT s.size N r ≤ 65536 then .tup [numA (scN (nT s.size N r) (cT s.size (strF s) N F r)), .int .i64 0] else .tup [numA 0, .int .i64 4]) ∧ Flat true v) := by
  refine B_draw_Scalar ⟨rfl, ?_⟩
  conv => whnf
  repeat (refine ⟨⟨[], rfl⟩, ?_⟩; conv => whnf)
  refine S_joined (N := N) (F := F) ShowsB.vsl hs hr hN (fun h n f cap1 hn hf => ?_) (fun h f cap1 => ?_)
  · rw [if_pos h, ← hn, ← hf]
    have hf1 : ∀ i, i < n → 0 ≤ f i ∧ f i ≤ 255 := fun i hi => by rw [hf]; exact cT_in (fun _ _ => strF_lt) hF i (by omega)
    have g0 : ∀ x : Int, 0 ≤ x ∧ x ≤ 255 → ∀ i, i < n + 1 → 0 ≤ catB n f (fun _ => x) i ∧ catB n f (fun _ => x) i ≤ 255 := fun x hx i hi => catB_in (m := 1) hf1 (fun _ _ => hx) hi
    clear hf
    conv => whnf
    repeat (refine ⟨⟨[], rfl⟩, ?_⟩; conv => whnf)
    refine S_with (k := 1) (f := f) (g := fun _ => 0) (Shows.sl rfl (Nat.le_of_eq (Nat.zero_add _)) fun i hi => by rw [Nat.zero_add]) (Shows.one rfl rfl) (by omega) (by decide) (fun cap2 h0 hh0 => ?_)
    conv => whnf
    repeat (refine ⟨⟨[], rfl⟩, ?_⟩; conv => whnf)
    refine S_SumR (f := h0) (Shows.sl rfl (Nat.le_of_eq (Nat.zero_add _)) fun i hi => by rw [Nat.zero_add]) (by omega) (fun i hi => by rw [hh0]; exact g0 0 (by decide) i hi) (fun s0 hs0 hb0 => ?_)
    conv => whnf
    repeat (refine ⟨⟨[], rfl⟩, ?_⟩; conv => whnf)
    refine S_LOf (f := s0) (fun i _ => hb0 i) (fun a ha ha1 => ?_)
    conv => whnf
    repeat (refine ⟨⟨[], rfl⟩, ?_⟩; conv => whnf)
    refine S_with (k := 1) (f := f) (g := fun _ => 1) (Shows.sl rfl (Nat.le_of_eq (Nat.zero_add _)) fun i hi => by rw [Nat.zero_add]) (Shows.one rfl rfl) (by omega) (by decide) (fun cap3 h1 hh1 => ?_)
    conv => whnf
    repeat (refine ⟨⟨[], rfl⟩, ?_⟩; conv => whnf)
    refine S_SumR (f := h1) (Shows.sl rfl (Nat.le_of_eq (Nat.zero_add _)) fun i hi => by rw [Nat.zero_add]) (by omega) (fun i hi => by rw [hh1]; exact g0 1 (by decide) i hi) (fun s1 hs1 hb1 => ?_)
    conv => whnf
    repeat (refine ⟨⟨[], rfl⟩, ?_⟩; conv => whnf)
    refine S_LOf (f := s1) (fun i _ => hb1 i) (fun b hb hb2 => ?_)
    have e : scN n f = (a * w256 + b) % nN := by rw [ha, hb, hs0, hs1, hh0, hh1]; rfl
    rw [e]
    conv => whnf
    repeat (refine ⟨⟨[], rfl⟩, ?_⟩; conv => whnf)
    refine S_Prime_1 (fun p hp => ?_)
    conv => whnf
    repeat (refine ⟨⟨[], rfl⟩, ?_⟩; conv => whnf)
    refine S_LMod ha1 hb2 (by rw [hp]; decide) (by rw [hp]; decide) ?_
    rw [hp]
    generalize (a * w256 + b) % nN = z
    conv => whnf
    repeat (refine ⟨⟨[], rfl⟩, ?_⟩; conv => whnf)
    exact ⟨rfl, .tup _ (.cons _ _ flat_numA (.cons _ _ (.int _ _) .nil))⟩
  · rw [if_neg (by omega)]
    conv => whnf
    repeat (refine ⟨⟨[], rfl⟩, ?_⟩; conv => whnf)
    refine ⟨rfl, ?_⟩
    show Flat true (.tup [numA 0, .int .i64 4])
    exact .tup _ (.cons _ _ flat_numA (.cons _ _ (.int _ _) .nil))
theorem S_DScalar {m : Mem} {x : AV} {K : AV → Mem → Prop} {s : ByteArray} {r : Nat} {N : Nat → Nat} {F : Nat → Nat → Int} (hx : ShowsB m x r N F) (hs : s.size ≤ 1000000) (hr : r ≤ 1000000) (hN : ∀ i, i < r → N i ≤ 1000000) (hF : ∀ i, i < r → ∀ j, j < N i → 0 ≤ F i j ∧ F i j ≤ 255)
    (h1 : nT s.size N r ≤ 65536 → ∀ a, a = scN (nT s.size N r) (cT s.size (strF s) N F r) → a < nN → K (.tup [numA a, .int .i64 0]) m)
    (h2 : 65536 < nT s.size N r → K (.tup [numA 0, .int .i64 4]) m) : ACall Pg F_draw_Scalar [.str s, x] m K := by
  obtain ⟨cap, C, hl⟩ := hx
  refine lift_flat (S_Scalar0 s r cap N C F hs hr hN hF) (.cons _ _ _ _ (lend_flat (.str _)) (.cons _ _ _ _ hl .nil)) ?_
  rintro v rfl
  by_cases h : nT s.size N r ≤ 65536
  · rw [if_pos h]; exact h1 h _ rfl scN_lt
  · rw [if_neg h]; exact h2 (by omega)

theorem S_RScalar0 (s : ByteArray) (r cap : Nat) (N C : Nat → Nat) (F : Nat → Nat → Int) (hs : s.size ≤ 1000000) (hr : r ≤ 1000000) (hN : ∀ i, i < r → N i ≤ 1000000) (hF : ∀ i, i < r → ∀ j, j < N i → 0 ≤ F i j ∧ F i j ≤ 255) :
    ACall Pg F_witanref04_Scalar [.str s, .vsl 1 r cap (rowsB N C F)] [] (fun v _ => v = (if nT s.size N r ≤ 65536 then .tup [numA (scN (nT s.size N r) (cT s.size (strF s) N F r)), .bool true] else .tup [numA 0, .bool false]) ∧ Flat true v) := by
  refine B_witanref04_Scalar ⟨rfl, ?_⟩
  conv => whnf
  repeat (refine ⟨⟨[], rfl⟩, ?_⟩; conv => whnf)
  refine S_Joined (N := N) (F := F) ShowsB.vsl hs hr hN (fun h n f cap1 hn hf => ?_) (fun h f cap1 => ?_)
  · rw [if_pos h, ← hn, ← hf]
    have hf1 : ∀ i, i < n → 0 ≤ f i ∧ f i ≤ 255 := fun i hi => by rw [hf]; exact cT_in (fun _ _ => strF_lt) hF i (by omega)
    have g0 : ∀ x : Int, 0 ≤ x ∧ x ≤ 255 → ∀ i, i < n + 1 → 0 ≤ catB n f (fun _ => x) i ∧ catB n f (fun _ => x) i ≤ 255 := fun x hx i hi => catB_in (m := 1) hf1 (fun _ _ => hx) hi
    clear hf
    conv => whnf
    repeat (refine ⟨⟨[], rfl⟩, ?_⟩; conv => whnf)
    refine S_join2 (n := n) (k := 1) (f := f) (g := fun _ => 0) (ShowsB.sl rfl (Nat.le_refl 2) (fun i hi => ?_)) (by omega) (by decide) (fun cap2 h0 hh0 => ?_)
    · have : i = 0 ∨ i = 1 := by omega
      rcases this with rfl | rfl
      · exact Shows.sl rfl (Nat.le_of_eq (Nat.zero_add _)) fun i hi => by rw [Nat.zero_add]; rfl
      · exact Shows.one rfl rfl
    conv => whnf
    repeat (refine ⟨⟨[], rfl⟩, ?_⟩; conv => whnf)
    refine S_Sum256R (f := h0) (Shows.sl rfl (Nat.le_of_eq (Nat.zero_add _)) fun i hi => by rw [Nat.zero_add]) (by omega) (fun i hi => by rw [hh0]; exact g0 0 (by decide) i hi) (fun s0 hs0 hb0 => ?_)
    conv => whnf
    repeat (refine ⟨⟨[], rfl⟩, ?_⟩; conv => whnf)
    refine S_join2 (n := n) (k := 1) (f := f) (g := fun _ => 1) (ShowsB.sl rfl (Nat.le_refl 2) (fun i hi => ?_)) (by omega) (by decide) (fun cap3 h1 hh1 => ?_)
    · have : i = 0 ∨ i = 1 := by omega
      rcases this with rfl | rfl
      · exact Shows.sl rfl (Nat.le_of_eq (Nat.zero_add _)) fun i hi => by rw [Nat.zero_add]; rfl
      · exact Shows.one rfl rfl
    conv => whnf
    repeat (refine ⟨⟨[], rfl⟩, ?_⟩; conv => whnf)
    refine S_Sum256R (f := h1) (Shows.sl rfl (Nat.le_of_eq (Nat.zero_add _)) fun i hi => by rw [Nat.zero_add]) (by omega) (fun i hi => by rw [hh1]; exact g0 1 (by decide) i hi) (fun s1 hs1 hb1 => ?_)
    conv => whnf
    repeat (refine ⟨⟨[], rfl⟩, ?_⟩; conv => whnf)
    refine S_ROf (f := s0) (fun i _ => hb0 i) (fun a ha ha1 => ?_)
    conv => whnf
    repeat (refine ⟨⟨[], rfl⟩, ?_⟩; conv => whnf)
    refine S_ROf (f := s1) (fun i _ => hb1 i) (fun b hb hb2 => ?_)
    have e : scN n f = (a * w256 + b) % nN := by rw [ha, hb, hs0, hs1, hh0, hh1]; rfl
    rw [e]
    conv => whnf
    repeat (refine ⟨⟨[], rfl⟩, ?_⟩; conv => whnf)
    refine S_Wide ha1 hb2 ?_
    generalize (a * w256 + b) % nN = z
    conv => whnf
    repeat (refine ⟨⟨[], rfl⟩, ?_⟩; conv => whnf)
    exact ⟨rfl, .tup _ (.cons _ _ flat_numA (.cons _ _ (.bool _) .nil))⟩
  · rw [if_neg (by omega)]
    conv => whnf
    repeat (refine ⟨⟨[], rfl⟩, ?_⟩; conv => whnf)
    refine ⟨rfl, ?_⟩
    show Flat true (.tup [numA 0, .bool false])
    exact .tup _ (.cons _ _ flat_numA (.cons _ _ (.bool _) .nil))
theorem S_RScalar {m : Mem} {x : AV} {K : AV → Mem → Prop} {s : ByteArray} {r : Nat} {N : Nat → Nat} {F : Nat → Nat → Int} (hx : ShowsB m x r N F) (hs : s.size ≤ 1000000) (hr : r ≤ 1000000) (hN : ∀ i, i < r → N i ≤ 1000000) (hF : ∀ i, i < r → ∀ j, j < N i → 0 ≤ F i j ∧ F i j ≤ 255)
    (h1 : nT s.size N r ≤ 65536 → ∀ a, a = scN (nT s.size N r) (cT s.size (strF s) N F r) → a < nN → K (.tup [numA a, .bool true]) m)
    (h2 : 65536 < nT s.size N r → K (.tup [numA 0, .bool false]) m) : ACall Pg F_witanref04_Scalar [.str s, x] m K := by
  obtain ⟨cap, C, hl⟩ := hx
  refine lift_flat (S_RScalar0 s r cap N C F hs hr hN hF) (.cons _ _ _ _ (lend_flat (.str _)) (.cons _ _ _ _ hl .nil)) ?_
  rintro v rfl
  by_cases h : nT s.size N r ≤ 65536
  · rw [if_pos h]; exact h1 h _ rfl scN_lt
  · rw [if_neg h]; exact h2 (by omega)
end Go.Proofs.Ytdeholmpcbakbaa
end

section
/- Points of tags and seeds; no condition. -/
set_option linter.unusedVariables false
set_option linter.unusedSimpArgs false
set_option maxRecDepth 100000
set_option pp.maxSteps 3000
namespace Go.Proofs.Ytdeholmpcbakbaa
open Go Go.Wit

/-- What the number c of joined bytes leads to. -/
noncomputable def tryP (n : Nat) (f : Nat → Int) (c : Nat) : Except Int (Pt Fp) := rd 33 (catB 1 (fun _ => 2) (sumB (n + 4) (catB n f (beF c 4))))
/-- The first that is a point, or none. -/
def PtRes (n : Nat) (f : Nat → Int) (v : AV) : Prop :=
  (∃ c P, c < 256 ∧ (∀ d, d < c → ∃ e, tryP n f d = .error e) ∧ tryP n f c = .ok P ∧ On P ∧ v = .tup [ptA P, .int .i64 ((c + 1 : Nat) : Int), .int .i64 0]) ∨
  ((∀ d, d < 256 → ∃ e, tryP n f d = .error e) ∧ v = .tup [noPt, .int .i64 0, .int .i64 5])
theorem PtRes.same {n : Nat} {f : Nat → Int} {v w : AV} (h1 : PtRes n f v) (h2 : PtRes n f w) : v = w := by
  rcases h1 with ⟨c, P, hc, hd, hP, _, rfl⟩ | ⟨hd, rfl⟩
  · rcases h2 with ⟨c2, P2, hc2, hd2, hP2, _, rfl⟩ | ⟨hd2, rfl⟩
    · obtain rfl : c = c2 := by
        rcases Nat.lt_trichotomy c c2 with h | h | h
        · obtain ⟨e, he⟩ := hd2 c h; rw [hP] at he; cases he
        · exact h
        · obtain ⟨e, he⟩ := hd c2 h; rw [hP2] at he; cases he
      rw [hP] at hP2
      obtain rfl : P = P2 := by injection hP2
      rfl
    · obtain ⟨e, he⟩ := hd2 c hc; rw [hP] at he; cases he
  · rcases h2 with ⟨c2, P2, hc2, hd2, hP2, _, rfl⟩ | ⟨hd2, rfl⟩
    · obtain ⟨e, he⟩ := hd c2 hc2; rw [hP2] at he; cases he
    · rfl
theorem two_row {s : Nat → Int} {g h : Nat → Nat → AV} {i : Nat} (hi : i < 33) (h0 : g 0 0 = .int .u8 2) (hh : ∀ j, j < 32 → h j 0 = .int .u8 (s j)) : catG 1 g h i 0 = .int .u8 (catB 1 (fun _ => 2) s i) := by
  by_cases hl : i < 1
  · obtain rfl : i = 0 := by omega
    rw [catG_lt hl, catB_lt hl, h0]
  · rw [catG_ge (by omega), catB_ge (by omega), hh _ (by omega)]
theorem two_in {s : Nat → Int} (hs : ∀ i, 0 ≤ s i ∧ s i ≤ 255) (i : Nat) (hi : i < 33) : 0 ≤ catB 1 (fun _ => 2) s i ∧ catB 1 (fun _ => 2) s i ≤ 255 := catB_in (n := 1) (m := 32) (fun _ _ => by decide) (fun i _ => hs i) hi
theorem flat_pt3 {P : Pt Fp} {a b : Int} : Flat true (.tup [ptA P, .int .i64 a, .int .i64 b]) := .tup _ (.cons _ _ flat_ptA (.cons _ _ (.int _ _) (.cons _ _ (.int _ _) .nil)))

def pz : Nat → Nat → AV := fun _ j => [AV.bool false, AV.int .u64 0, AV.int .u64 0, AV.int .u64 0, AV.int .u64 0, AV.int .u64 0, AV.int .u64 0, AV.int .u64 0, AV.int .u64 0].getD j .un
theorem flat_pz {nv : Bool} {i j : Nat} : Flat nv (pz i j) := by
  unfold pz
  match j with
  | 0 => exact .bool _
  | 1 => exact .int _ _
  | 2 => exact .int _ _
  | 3 => exact .int _ _
  | 4 => exact .int _ _
  | 5 => exact .int _ _
  | 6 => exact .int _ _
  | 7 => exact .int _ _
  | 8 => exact .int _ _
  | k + 9 => simp; exact .un
theorem S_DPoint0 (s : ByteArray) (k c1 : Nat) (g : Nat → Int) (hs : s.size ≤ 900000) (hk : k ≤ 900000) (hg : ∀ i, i < k → 0 ≤ g i ∧ g i ≤ 255) :
    ACall Pg F_draw_Point [.str s, .vsl 1 k c1 (bytesG g)] [] (fun v _ => ((nT s.size (fun _ => k) 1 ≤ 65536 ∧ PtRes (nT s.size (fun _ => k) 1) (cT s.size (strF s) (fun _ => k) (fun _ => g) 1) v) ∨ (65536 < nT s.size (fun _ => k) 1 ∧ v = .tup [noPt, .int .i64 0, .int .i64 4])) ∧ Flat true v) := by
  refine B_draw_Point ⟨rfl, ?_⟩
  conv => whnf
  repeat (refine ⟨⟨[], rfl⟩, ?_⟩; conv => whnf)
  refine S_joined (r := 1) (N := fun _ => k) (F := fun _ => g) (ShowsB.sl rfl (Nat.le_refl 1) (fun i hi => ?_)) (by omega) (by decide) (fun _ _ => by omega) (fun h n f cap1 hn hf => ?_) (fun h f cap1 => ?_)
  · obtain rfl : i = 0 := by omega
    exact Shows.vsl
  · rw [← hn, ← hf]
    rw [← hn] at h
    have hf1 : ∀ i, i < n → 0 ≤ f i ∧ f i ≤ 255 := fun i hi => by rw [hf]; exact cT_in (fun _ _ => strF_lt) (fun _ _ j hj => hg j hj) i (by omega)
    clear hf hn
    conv => whnf
    repeat (refine ⟨⟨[], rfl⟩, ?_⟩; conv => whnf)
    refine loop_wk mixed (I := fun q l m => ∃ (c : Nat), l = [(4, .ptr 0 0 0), (7, .sl 1 0 n cap1), (23, .int .i64 c)] ∧ m = [some ⟨9, 1, pz⟩, some ⟨1, n, bytesG f⟩] ∧ q + c = 256 ∧ ∀ d, d < c → ∃ e, tryP n f d = .error e) 256
      (l0 := [(4, .ptr 0 0 0), (7, .sl 1 0 n cap1), (23, .int .i64 (0 : Nat))]) (m0 := [some ⟨9, 1, pz⟩, some ⟨1, n, bytesG f⟩]) [some 0, some 2] ⟨0, rfl, rfl, rfl, fun d hd => by omega⟩ ?_ ?_
    · exact .mk0 ⟨.ptr _ _ _ _ rfl, .sl _ _ _ _ _ rfl, Flat.i rfl, trivial⟩ ⟨.old 0 0 _ _ rfl rfl ⟨rfl, Nat.le_refl _, fun i j hi hj => RV.of rfl (by dsimp only; exact flat_pz)⟩, .old 1 2 _ _ rfl rfl ⟨rfl, Nat.le_refl _, fun i j hi hj => RV.of rfl (.int _ _)⟩, trivial⟩ rfl rfl
    · rintro q l m ⟨c, rfl, rfl, hq, hd⟩
      conv => whnf
      repeat (refine ⟨⟨[], rfl⟩, ?_⟩; conv => whnf)
      refine condB_mk (fun hb => ?_) (fun hb => ?_)
      · have hb : c < 256 := by simp at hb; omega
        have e6 : IntKind.u64.wrap (c : Int) = (c : Int) := by rw [wu64]; omega
        conv => whnf
        repeat (refine ⟨⟨[], rfl⟩, ?_⟩; conv => whnf)
        refine S_number (s := 4) (x := IntKind.u64.wrap (c : Int)) (by rw [e6]; omega) (by decide) (fun cap2 => ?_)
        rw [e6]
        conv => whnf
        repeat (refine ⟨⟨[], rfl⟩, ?_⟩; conv => whnf)
        refine S_with (k := 4) (f := f) (g := beF c 4) (Shows.sl rfl (Nat.le_of_eq (Nat.zero_add _)) fun i hi => by rw [Nat.zero_add]) (Shows.sl rfl (Nat.le_refl 4) fun i hi => by rw [Nat.zero_add]) (by omega) (by decide) (fun cap3 h0 hh0 => ?_)
        conv => whnf
        repeat (refine ⟨⟨[], rfl⟩, ?_⟩; conv => whnf)
        refine S_SumR (f := h0) (Shows.sl rfl (Nat.le_of_eq (Nat.zero_add _)) fun i hi => by rw [Nat.zero_add]) (by omega) (fun i hi => by rw [hh0]; exact catB_in hf1 (fun _ _ => beF_lt) hi) (fun s0 hs0 hb0 => ?_)
        have ht : tryP n f c = rd 33 (catB 1 (fun _ => 2) s0) := by rw [hs0, hh0]; rfl
        rw [rowL]
        conv => whnf
        repeat (refine ⟨⟨[], rfl⟩, ?_⟩; conv => whnf)
        intro cap4 hcap4
        conv => whnf
        repeat (refine ⟨⟨[], rfl⟩, ?_⟩; conv => whnf)
        refine S_Read (n := 33) (f := catB 1 (fun _ => 2) s0) (Shows.any rfl (Nat.le_refl 33) fun i hi => ?_) (fun i hi => two_in hb0 i hi) (fun P oP hP => ?_) (fun e he hP => ?_)
        · rw [show 0 + i = i from Nat.zero_add i]
          dsimp only
          refine two_row hi ?_ fun j hj => ?_
          · rfl
          · refine rowAtE hj ?_ rfl
            omega
        · have e5 : IntKind.i64.wrap ((c : Int) + 1) = ((c + 1 : Nat) : Int) := by rw [w64 (by omega) (by omega)]; omega
          conv => whnf
          repeat (refine ⟨⟨[], rfl⟩, ?_⟩; conv => whnf)
          rw [e5]
          exact ⟨.inl ⟨h, .inl ⟨c, P, hb, hd, ht.trans hP, oP, rfl⟩⟩, flat_pt3⟩
        · conv => whnf
          repeat (refine ⟨⟨[], rfl⟩, ?_⟩; conv => whnf)
          refine condB_no (by simpa using he) ?_
          conv => whnf
          repeat (refine ⟨⟨[], rfl⟩, ?_⟩; conv => whnf)
          have e5 : IntKind.i64.wrap ((c : Int) + 1) = ((c + 1 : Nat) : Int) := by rw [w64 (by omega) (by omega)]; omega
          refine ⟨q - 1, [(4, .ptr 0 0 0), (7, .sl 1 0 n cap1), (23, .int .i64 ((c + 1 : Nat) : Int))], [some ⟨9, 1, pz⟩, some ⟨1, n, bytesG f⟩], [some 0, some 1], by omega, ⟨c + 1, rfl, rfl, by omega, fun d hd2 => ?_⟩, ?_⟩
          · by_cases hdc : d = c
            · subst hdc; exact ⟨e, ht.trans hP⟩
            · exact hd d (by omega)
          · exact .mk0 ⟨.ptr _ _ _ _ rfl, .sl _ _ _ _ _ rfl, Flat.i e5, trivial⟩ ⟨.old 0 0 _ _ rfl rfl ⟨rfl, Nat.le_refl _, fun i j hi hj => RV.of rfl (by dsimp only; exact flat_pz)⟩, .old 1 1 _ _ rfl rfl ⟨rfl, Nat.le_refl _, fun i j hi hj => RV.of rfl (.int _ _)⟩, trivial⟩ rfl rfl
      · conv => whnf
        repeat (refine ⟨⟨[], rfl⟩, ?_⟩; conv => whnf)
        refine ⟨.inl ⟨h, .inr ⟨fun d hd2 => hd d (by simp at hb; omega), rfl⟩⟩, ?_⟩
        show Flat true (.tup [noPt, .int .i64 0, .int .i64 5])
        exact .tup _ (.cons _ _ (flat_no true) (.cons _ _ (.int _ _) (.cons _ _ (.int _ _) .nil)))
  · conv => whnf
    repeat (refine ⟨⟨[], rfl⟩, ?_⟩; conv => whnf)
    refine ⟨.inr ⟨h, rfl⟩, ?_⟩
    show Flat true (.tup [noPt, .int .i64 0, .int .i64 4])
    exact .tup _ (.cons _ _ (flat_no true) (.cons _ _ (.int _ _) (.cons _ _ (.int _ _) .nil)))
theorem S_DPoint {m : Mem} {x : AV} {K : AV → Mem → Prop} {s : ByteArray} {k : Nat} {g : Nat → Int} (hx : Shows m x k g) (hs : s.size ≤ 900000) (hk : k ≤ 900000) (hg : ∀ i, i < k → 0 ≤ g i ∧ g i ≤ 255)
    (h1 : nT s.size (fun _ => k) 1 ≤ 65536 → ∀ v, PtRes (nT s.size (fun _ => k) 1) (cT s.size (strF s) (fun _ => k) (fun _ => g) 1) v → K v m)
    (h2 : 65536 < nT s.size (fun _ => k) 1 → K (.tup [noPt, .int .i64 0, .int .i64 4]) m) : ACall Pg F_draw_Point [.str s, x] m K := by
  obtain ⟨cap, hl⟩ := hx
  refine lift_flat (S_DPoint0 s k cap g hs hk hg) (.cons _ _ _ _ (lend_flat (.str _)) (.cons _ _ _ _ hl .nil)) ?_
  rintro v (⟨h, hv⟩ | ⟨h, rfl⟩)
  · exact h1 h v hv
  · exact h2 h

theorem S_RPoint0 (s : ByteArray) (k c1 : Nat) (g : Nat → Int) (hs : s.size ≤ 900000) (hk : k ≤ 900000) (hg : ∀ i, i < k → 0 ≤ g i ∧ g i ≤ 255) :
    ACall Pg F_witanref04_Point [.str s, .vsl 1 k c1 (bytesG g)] [] (fun v _ => ((nT s.size (fun _ => k) 1 ≤ 65536 ∧ PtRes (nT s.size (fun _ => k) 1) (cT s.size (strF s) (fun _ => k) (fun _ => g) 1) v) ∨ (65536 < nT s.size (fun _ => k) 1 ∧ v = .tup [noPt, .int .i64 0, .int .i64 4])) ∧ Flat true v) := by
  refine B_witanref04_Point ⟨rfl, ?_⟩
  conv => whnf
  repeat (refine ⟨⟨[], rfl⟩, ?_⟩; conv => whnf)
  refine S_Joined (r := 1) (N := fun _ => k) (F := fun _ => g) (ShowsB.sl rfl (Nat.le_refl 1) (fun i hi => ?_)) (by omega) (by decide) (fun _ _ => by omega) (fun h n f cap1 hn hf => ?_) (fun h f cap1 => ?_)
  · obtain rfl : i = 0 := by omega
    exact Shows.vsl
  · rw [← hn, ← hf]
    rw [← hn] at h
    have hf1 : ∀ i, i < n → 0 ≤ f i ∧ f i ≤ 255 := fun i hi => by rw [hf]; exact cT_in (fun _ _ => strF_lt) (fun _ _ j hj => hg j hj) i (by omega)
    clear hf hn
    conv => whnf
    repeat (refine ⟨⟨[], rfl⟩, ?_⟩; conv => whnf)
    refine loop_wk mixed (I := fun q l m => ∃ (c : Nat), l = [(4, .ptr 0 0 0), (7, .sl 1 0 n cap1), (9, .int .i64 c)] ∧ m = [some ⟨9, 1, pz⟩, some ⟨1, n, bytesG f⟩] ∧ q + c = 256 ∧ ∀ d, d < c → ∃ e, tryP n f d = .error e) 256
      (l0 := [(4, .ptr 0 0 0), (7, .sl 1 0 n cap1), (9, .int .i64 (0 : Nat))]) (m0 := [some ⟨9, 1, pz⟩, some ⟨1, n, bytesG f⟩]) [some 0, some 2] ⟨0, rfl, rfl, rfl, fun d hd => by omega⟩ ?_ ?_
    · exact .mk0 ⟨.ptr _ _ _ _ rfl, .sl _ _ _ _ _ rfl, Flat.i rfl, trivial⟩ ⟨.old 0 0 _ _ rfl rfl ⟨rfl, Nat.le_refl _, fun i j hi hj => RV.of rfl (by dsimp only; exact flat_pz)⟩, .old 1 2 _ _ rfl rfl ⟨rfl, Nat.le_refl _, fun i j hi hj => RV.of rfl (.int _ _)⟩, trivial⟩ rfl rfl
    · rintro q l m ⟨c, rfl, rfl, hq, hd⟩
      conv => whnf
      repeat (refine ⟨⟨[], rfl⟩, ?_⟩; conv => whnf)
      refine condB_mk (fun hb => ?_) (fun hb => ?_)
      · have hb : c < 256 := by simp at hb; omega
        have e6 : IntKind.u64.wrap (c : Int) = (c : Int) := by rw [wu64]; omega
        conv => whnf
        repeat (refine ⟨⟨[], rfl⟩, ?_⟩; conv => whnf)
        refine S_be (s := 4) (x := IntKind.u64.wrap (c : Int)) (by rw [e6]; omega) (by decide) (fun cap2 => ?_)
        rw [e6]
        conv => whnf
        repeat (refine ⟨⟨[], rfl⟩, ?_⟩; conv => whnf)
        refine S_join2 (n := n) (k := 4) (f := f) (g := beF c 4) (ShowsB.sl rfl (Nat.le_refl 2) (fun i hi => ?_)) (by omega) (by decide) (fun cap3 h0 hh0 => ?_)
        · have : i = 0 ∨ i = 1 := by omega
          rcases this with rfl | rfl
          · exact Shows.sl rfl (Nat.le_of_eq (Nat.zero_add _)) fun i hi => by rw [Nat.zero_add]; rfl
          · exact Shows.sl rfl (Nat.le_refl 4) fun i hi => by rw [Nat.zero_add]; rfl
        conv => whnf
        repeat (refine ⟨⟨[], rfl⟩, ?_⟩; conv => whnf)
        refine S_Sum256R (f := h0) (Shows.sl rfl (Nat.le_of_eq (Nat.zero_add _)) fun i hi => by rw [Nat.zero_add]) (by omega) (fun i hi => by rw [hh0]; exact catB_in hf1 (fun _ _ => beF_lt) hi) (fun s0 hs0 hb0 => ?_)
        have ht : tryP n f c = rd 33 (catB 1 (fun _ => 2) s0) := by rw [hs0, hh0]; rfl
        rw [rowL]
        conv => whnf
        repeat (refine ⟨⟨[], rfl⟩, ?_⟩; conv => whnf)
        refine S_join2 (n := 1) (k := 32) (f := fun _ => 2) (g := s0) (ShowsB.sl rfl (Nat.le_refl 2) (fun i hi => ?_)) (by decide) (by decide) (fun cap4 h1 hh1 => ?_)
        · have : i = 0 ∨ i = 1 := by omega
          rcases this with rfl | rfl
          · exact Shows.any rfl (Nat.le_refl _) fun i hi => by obtain rfl : i = 0 := by omega
                                                               rfl
          · refine Shows.any rfl (Nat.le_refl _) fun i hi => ?_
            refine rowAtE hi ?_ rfl
            omega
        conv => whnf
        repeat (refine ⟨⟨[], rfl⟩, ?_⟩; conv => whnf)
        refine S_RdPoint (n := 33) (f := catB 1 (fun _ => 2) s0) (Shows.sl rfl (Nat.le_refl 33) fun i hi => by rw [Nat.zero_add, hh1]) (fun i hi => two_in hb0 i hi) (fun P oP hP => ?_) (fun e he hP => ?_)
        · have e5 : IntKind.i64.wrap ((c : Int) + 1) = ((c + 1 : Nat) : Int) := by rw [w64 (by omega) (by omega)]; omega
          conv => whnf
          repeat (refine ⟨⟨[], rfl⟩, ?_⟩; conv => whnf)
          rw [e5]
          exact ⟨.inl ⟨h, .inl ⟨c, P, hb, hd, ht.trans hP, oP, rfl⟩⟩, flat_pt3⟩
        · conv => whnf
          repeat (refine ⟨⟨[], rfl⟩, ?_⟩; conv => whnf)
          refine condB_no (by simpa using he) ?_
          conv => whnf
          repeat (refine ⟨⟨[], rfl⟩, ?_⟩; conv => whnf)
          have e5 : IntKind.i64.wrap ((c : Int) + 1) = ((c + 1 : Nat) : Int) := by rw [w64 (by omega) (by omega)]; omega
          refine ⟨q - 1, [(4, .ptr 0 0 0), (7, .sl 1 0 n cap1), (9, .int .i64 ((c + 1 : Nat) : Int))], [some ⟨9, 1, pz⟩, some ⟨1, n, bytesG f⟩], [some 0, some 1], by omega, ⟨c + 1, rfl, rfl, by omega, fun d hd2 => ?_⟩, ?_⟩
          · by_cases hdc : d = c
            · subst hdc; exact ⟨e, ht.trans hP⟩
            · exact hd d (by omega)
          · exact .mk0 ⟨.ptr _ _ _ _ rfl, .sl _ _ _ _ _ rfl, Flat.i e5, trivial⟩ ⟨.old 0 0 _ _ rfl rfl ⟨rfl, Nat.le_refl _, fun i j hi hj => RV.of rfl (by dsimp only; exact flat_pz)⟩, .old 1 1 _ _ rfl rfl ⟨rfl, Nat.le_refl _, fun i j hi hj => RV.of rfl (.int _ _)⟩, trivial⟩ rfl rfl
      · conv => whnf
        repeat (refine ⟨⟨[], rfl⟩, ?_⟩; conv => whnf)
        refine ⟨.inl ⟨h, .inr ⟨fun d hd2 => hd d (by simp at hb; omega), rfl⟩⟩, ?_⟩
        show Flat true (.tup [noPt, .int .i64 0, .int .i64 5])
        exact .tup _ (.cons _ _ (flat_no true) (.cons _ _ (.int _ _) (.cons _ _ (.int _ _) .nil)))
  · conv => whnf
    repeat (refine ⟨⟨[], rfl⟩, ?_⟩; conv => whnf)
    refine ⟨.inr ⟨h, rfl⟩, ?_⟩
    show Flat true (.tup [noPt, .int .i64 0, .int .i64 4])
    exact .tup _ (.cons _ _ (flat_no true) (.cons _ _ (.int _ _) (.cons _ _ (.int _ _) .nil)))
theorem S_RPoint {m : Mem} {x : AV} {K : AV → Mem → Prop} {s : ByteArray} {k : Nat} {g : Nat → Int} (hx : Shows m x k g) (hs : s.size ≤ 900000) (hk : k ≤ 900000) (hg : ∀ i, i < k → 0 ≤ g i ∧ g i ≤ 255)
    (h1 : nT s.size (fun _ => k) 1 ≤ 65536 → ∀ v, PtRes (nT s.size (fun _ => k) 1) (cT s.size (strF s) (fun _ => k) (fun _ => g) 1) v → K v m)
    (h2 : 65536 < nT s.size (fun _ => k) 1 → K (.tup [noPt, .int .i64 0, .int .i64 4]) m) : ACall Pg F_witanref04_Point [.str s, x] m K := by
  obtain ⟨cap, hl⟩ := hx
  refine lift_flat (S_RPoint0 s k cap g hs hk hg) (.cons _ _ _ _ (lend_flat (.str _)) (.cons _ _ _ _ hl .nil)) ?_
  rintro v (⟨h, hv⟩ | ⟨h, rfl⟩)
  · exact h1 h v hv
  · exact h2 h
end Go.Proofs.Ytdeholmpcbakbaa
end

section
/- Sums of given texts, checked step by step; no condition. -/
set_option linter.unusedVariables false
set_option linter.unusedSimpArgs false
set_option maxRecDepth 100000
set_option pp.maxSteps 300
namespace Go.Proofs.Ytdeholmpcbakbaa
open Go Go.Wit

theorem newW_congr {b w w' : Nat → Int} {k : Nat} (h : ∀ i, i < k → w i = w' i) : newW b k w = newW b k w' := by
  unfold newW
  by_cases hk : k < 16
  · rw [if_pos hk, if_pos hk]
  · rw [if_neg hk, if_neg hk, h (k - 16) (by omega), h (k - 15) (by omega), h (k - 7) (by omega), h (k - 2) (by omega)]
theorem Wn_eval {b w : Nat → Int} (h : ∀ k, k < 64 → newW b k w = w k) : ∀ k, k ≤ 64 → ∀ i, i < k → Wn b k i = w i
  | 0, _, i, hi => absurd hi (Nat.not_lt_zero _)
  | k + 1, hk, i, hi => by
    by_cases e : i = k
    · rw [show Wn b (k + 1) i = newW b k (Wn b k) from if_pos e, newW_congr (Wn_eval h k (by omega)), h k (by omega), e]
    · rw [show Wn b (k + 1) i = Wn b k i from if_neg e]
      exact Wn_eval h k (by omega) i (by omega)
theorem rnd_congr {v v' : Nat → Int} {a b : Int} (h : ∀ i, i < 8 → v i = v' i) : ∀ i, i < 8 → rnd v a b i = rnd v' a b i := by
  intro i hi
  have : i = 0 ∨ i = 1 ∨ i = 2 ∨ i = 3 ∨ i = 4 ∨ i = 5 ∨ i = 6 ∨ i = 7 := by omega
  rcases this with rfl | rfl | rfl | rfl | rfl | rfl | rfl | rfl <;> simp only [rnd, oneU, twoU, h 0 (by omega), h 1 (by omega), h 2 (by omega), h 3 (by omega), h 4 (by omega), h 5 (by omega), h 6 (by omega), h 7 (by omega)]
theorem Rn_eval {h w : Nat → Int} {w' : Nat → Int} {r : Nat → Nat → Int} (h0 : ∀ i, i < 8 → h i = r 0 i) (hw : ∀ i, i < 64 → w i = w' i) (hs : ∀ k, k < 64 → ∀ i, i < 8 → rnd (r k) (kTab k) (w' k) i = r (k + 1) i) : ∀ k, k ≤ 64 → ∀ i, i < 8 → Rn h w k i = r k i
  | 0, _, i, hi => h0 i hi
  | k + 1, hk, i, hi => by
    rw [show Rn h w (k + 1) i = rnd (Rn h w k) (kTab k) (w k) i from rfl, rnd_congr (Rn_eval h0 hw hs k (by omega)) i hi, hw k (by omega)]
    exact hs k (by omega) i hi

def lsF (l : List Int) (i : Nat) : Int := l.getD i 0
/-- The states of a block: a and e of each round, those ahead of it told backwards. -/
def stR (a e : List Int) (k i : Nat) : Int := if i < 4 then lsF a (k + 3 - i) else lsF e (k + 7 - i)
def hashB (b : Nat → Int) (w a e : List Int) : Bool :=
  (List.range 64).all (fun k => newW b k (lsF w) == lsF w k) && (List.range 64).all fun k => (List.range 8).all fun i => rnd (stR a e k) (kTab k) (lsF w k) i == stR a e (k + 1) i
def hashOk (n : Nat) (m : List Int) (W A E : List (List Int)) (o : List Int) : Bool :=
  (List.range 8).all (fun i => hTab i == stR (A.getD 0 []) (E.getD 0 []) 0 i) &&
  ((List.range (padN n / 64)).all (fun q => hashB (blkB (padF n (lsF m)) q) (W.getD q []) (A.getD q []) (E.getD q [])) &&
  ((List.range (padN n / 64)).all (fun q => (List.range 8).all fun i => q + 1 == padN n / 64 || addU (stR (A.getD q []) (E.getD q []) 0 i) (stR (A.getD q []) (E.getD q []) 64 i) == stR (A.getD (q + 1) []) (E.getD (q + 1) []) 0 i) &&
  (decide (1 ≤ padN n / 64) &&
  (List.range 32).all fun i => lsF o i == IntKind.u8.wrap ((addU (stR (A.getD (padN n / 64 - 1) []) (E.getD (padN n / 64 - 1) []) 0 (i / 4)) (stR (A.getD (padN n / 64 - 1) []) (E.getD (padN n / 64 - 1) []) 64 (i / 4))).fdiv (2 ^ (24 - 8 * (i % 4)))))))
theorem all_range {n : Nat} {p : Nat → Bool} (h : (List.range n).all p = true) (i : Nat) (hi : i < n) : p i = true := by
  rw [List.all_eq_true] at h
  exact h i (List.mem_range.2 hi)
theorem block_eval {b h : Nat → Int} {w a e : List Int} (hb : hashB b w a e = true) (h0 : ∀ i, i < 8 → h i = stR a e 0 i) (i : Nat) (hi : i < 8) : nextH h (Wn b 64) i = addU (stR a e 0 i) (stR a e 64 i) := by
  unfold hashB at hb
  rw [Bool.and_eq_true] at hb
  have h1 : ∀ k, k < 64 → newW b k (lsF w) = lsF w k := fun k hk => by simpa using all_range hb.1 k hk
  have h2 : ∀ k, k < 64 → ∀ i, i < 8 → rnd (stR a e k) (kTab k) (lsF w k) i = stR a e (k + 1) i := fun k hk i hi => by simpa using all_range (all_range hb.2 k hk) i hi
  unfold nextH
  rw [h0 i hi, Rn_eval (w' := lsF w) (r := stR a e) h0 (Wn_eval h1 64 (Nat.le_refl _)) h2 64 (Nat.le_refl _) i hi]
theorem sum_eval {n : Nat} {m : List Int} {W A E : List (List Int)} {o : List Int} (h : hashOk n m W A E o = true) : ∀ i, i < 32 → sumB n (lsF m) i = lsF o i := by
  unfold hashOk at h
  rw [Bool.and_eq_true, Bool.and_eq_true, Bool.and_eq_true, Bool.and_eq_true] at h
  obtain ⟨h1, h2, h3, h4, h5⟩ := h
  have h4 := of_decide_eq_true h4
  have key : ∀ q, q < padN n / 64 → ∀ i, i < 8 → Hn (padF n (lsF m)) q i = stR (A.getD q []) (E.getD q []) 0 i := by
    intro q
    induction q with
    | zero => exact fun _ i hi => eq_of_beq (all_range h1 i hi)
    | succ q ih =>
      intro hq i hi
      show nextH (Hn (padF n (lsF m)) q) (Wn (blkB (padF n (lsF m)) q) 64) i = _
      rw [block_eval (all_range h2 q (by omega)) (ih (by omega)) i hi]
      have := all_range (all_range h3 q (by omega)) i hi
      have hne : (q + 1 == padN n / 64) = false := by simp; omega
      rw [hne, Bool.false_or] at this
      simpa using this
  intro i hi
  have e : padN n / 64 = (padN n / 64 - 1) + 1 := by omega
  have e2 : Hn (padF n (lsF m)) (padN n / 64) (i / 4) = addU (stR (A.getD (padN n / 64 - 1) []) (E.getD (padN n / 64 - 1) []) 0 (i / 4)) (stR (A.getD (padN n / 64 - 1) []) (E.getD (padN n / 64 - 1) []) 64 (i / 4)) := by
    rw [e]
    show nextH (Hn (padF n (lsF m)) (padN n / 64 - 1)) (Wn (blkB (padF n (lsF m)) (padN n / 64 - 1)) 64) (i / 4) = _
    exact block_eval (all_range h2 _ (by omega)) (key _ (by omega)) _ (by omega)
  rw [sumB, e2]
  have := all_range h5 i hi
  simp only [beq_iff_eq] at this
  exact this.symm
theorem sumB_congr {n : Nat} {f g : Nat → Int} (h : ∀ i, i < n → f i = g i) : sumB n f = sumB n g := by
  have e : padF n f = padF n g := by
    funext i
    unfold padF
    by_cases hi : i < n
    · rw [if_pos hi, if_pos hi, h i hi]
    · rw [if_neg hi, if_neg hi]
  funext i
  rw [sumB, sumB, e]
end Go.Proofs.Ytdeholmpcbakbaa
end

section
/- Three sums; no condition. -/
set_option linter.unusedVariables false
set_option linter.unusedSimpArgs false
set_option maxRecDepth 100000
set_option pp.maxSteps 300
namespace Go.Proofs.Ytdeholmpcbakbaa
open Go Go.Wit

def hA_m : List Int := [0, 0, 0, 1, 97, 0, 0, 0, 0, 0, 0, 0, 2]
def hA_W : List (List Int) := [[1, 1627389952, 0, 41943040, 0, 0, 0, 0, 0, 0, 0, 0, 0, 0, 0, 104, 216143937, 1631125504, 1333829643, 2727899899, 1142369816, 923403011, 1927163818, 1322145829, 863355071, 914775347, 4208792991, 692685340, 1598863475, 1730540441, 3926421395, 2159139633, 3394161184, 1784854648, 886698015, 10200795, 4052616672, 2585665130, 2337084505, 3995294555, 3192826750, 2552706436, 3698622403, 1517830275, 3966110693, 1009534980, 2730251815, 3596849011, 1476137639, 1110344238, 2047439447, 3706648198, 120026995, 3387448664, 869639371, 2881445258, 1052952439, 3679856500, 312044640, 2377077168, 1879307548, 23741516, 4050234901, 3234848897]]
def hA_A : List (List Int) := [[2773480762, 1013904242, 3144134277, 1779033703, 4228417614, 2550228755, 1101755453, 3649331398, 626649470, 306649924, 3592469959, 2164613561, 2151499487, 3711512354, 2487440574, 181928574, 3927079362, 269155750, 27103288, 4106222856, 2506780511, 2813487076, 3293069555, 723880804, 1563060602, 2041293018, 492535333, 2691952288, 3949044346, 3314543604, 4108753442, 186062199, 538988359, 3066018661, 3275495563, 450844088, 1664587292, 4212737479, 3714531037, 354953846, 3838419719, 1312246205, 3288458296, 2262631459, 2374363035, 2334315125, 3425460007, 993907930, 581963591, 2257768350, 2005458168, 1885677014, 2613815281, 170411199, 592307009, 2631903896, 3916785464, 4229955310, 386451938, 3876432759, 3462898307, 1998004539, 2930691206, 953720423, 2696329604, 2739945449, 813890956, 3937672900]]
def hA_E : List (List Int) := [[1541459225, 528734635, 2600822924, 1359893119, 2563236515, 4212241047, 705193164, 255114684, 2785820225, 3283909076, 1135248414, 2869331981, 2609266775, 1265808938, 3192029525, 3924660245, 3701935087, 628954751, 1224852370, 127237376, 1145074314, 3957463457, 819276523, 3270189830, 2209278364, 1593322707, 4066232081, 2464641123, 2087494302, 1715523184, 3748931523, 3478966070, 282203266, 689797535, 1299957064, 3200720666, 444000187, 4163067613, 1872063349, 394532182, 4102328004, 2892370958, 2583601393, 3232535371, 4152249454, 2360392696, 2256224645, 2041321515, 1169906743, 1959868401, 2325049046, 2881470508, 566056381, 2769255583, 973921789, 2627961419, 1838792296, 2263051989, 107682231, 2631558083, 738037929, 857464738, 1444238858, 3172060270, 3507048994, 851053384, 1727682103, 2537747433]]
def hA_o : List Int := [84, 190, 5, 43, 235, 234, 172, 17, 223, 191, 51, 91, 70, 6, 174, 190, 232, 81, 70, 104, 1, 255, 190, 195, 82, 61, 228, 243, 44, 234, 31, 59]
theorem hA_out : ∀ i, i < 32 → sumB 13 (lsF hA_m) i = lsF hA_o i := sum_eval (by decide +kernel : hashOk 13 hA_m hA_W hA_A hA_E hA_o = true)

def hB_m : List Int := [0, 0, 0, 1, 97, 0]
def hB_W : List (List Int) := [[1, 1627422720, 0, 0, 0, 0, 0, 0, 0, 0, 0, 0, 0, 0, 0, 48, 753011009, 1629388800, 1166248815, 2417523468, 3033213587, 851696657, 4030111334, 3261602063, 4259457978, 1427771118, 3769488595, 4220178752, 2207220551, 585965158, 1415572331, 812607576, 934012116, 3487039950, 3857444889, 266953887, 824749623, 2592237257, 1694588641, 1515756227, 2820861061, 1746233440, 1197872264, 3313552214, 1985531445, 735637301, 2582989250, 2595766850, 836219798, 335451914, 1105699916, 1668116425, 2644024646, 3897517868, 137761142, 2431630225, 511961601, 1910238609, 3137944152, 1177239189, 1842586842, 4044777376, 1489302383, 2131829971]]
def hB_A : List (List Int) := [[2773480762, 1013904242, 3144134277, 1779033703, 4228417614, 2550261523, 1038747305, 3049864805, 1231037789, 2407249066, 1821775744, 2346294080, 3704102354, 1246637743, 2848734669, 3992324036, 2678059642, 2818473719, 898748722, 3197484519, 2370617590, 1185781390, 1910387493, 1920325017, 3516991371, 3775144592, 364711583, 2751650112, 57604274, 1545642917, 433495411, 4058417567, 3273214460, 2153184091, 725571044, 1419392249, 3665800727, 654540707, 2345000662, 1944562351, 470791364, 970267192, 470120995, 1375961012, 979735464, 1473978167, 3016890665, 637066801, 2511486121, 1528156051, 3343566420, 4261238218, 2548238965, 2936400288, 2425196197, 1579301925, 2275725548, 774385705, 754431133, 371092602, 4288547147, 1024391980, 2175085173, 1057955866, 1465332066, 2629412181, 4008359545, 2822301014]]
def hB_E : List (List Int) := [[1541459225, 528734635, 2600822924, 1359893119, 2563236515, 4212273815, 675731260, 2443236532, 3438874755, 4050533853, 884911346, 4105683771, 4155339132, 2468223314, 2890322072, 4229557632, 3042173577, 4168321979, 1202067768, 2973418277, 518500427, 2570175265, 2237597084, 766404827, 3304041971, 1771290089, 1512699690, 4280686117, 1202413783, 961314893, 1657034198, 82445213, 1107388003, 4036582216, 580540184, 1789413485, 54179165, 3565281016, 667060888, 4194004317, 3147733979, 2770386393, 3794220428, 2784279920, 1502818174, 1913956000, 1029951310, 1447789735, 1018025027, 3022802356, 1745492646, 611683468, 1773661661, 2008205061, 647006750, 2640614851, 1127170908, 280674849, 1163999522, 345307593, 3105743433, 1593552286, 2175766368, 4029861749, 1716762606, 2159968339, 2790843570, 2778731151]]
def hB_o : List Int := [18, 66, 203, 189, 170, 82, 100, 254, 217, 40, 152, 199, 252, 167, 38, 156, 246, 174, 101, 14, 65, 94, 77, 62, 160, 66, 89, 254, 194, 52, 133, 7]
theorem hB_out : ∀ i, i < 32 → sumB 6 (lsF hB_m) i = lsF hB_o i := sum_eval (by decide +kernel : hashOk 6 hB_m hB_W hB_A hB_E hB_o = true)

def hC_m : List Int := [0, 0, 0, 1, 97, 1]
def hC_W : List (List Int) := [[1, 1627488256, 0, 0, 0, 0, 0, 0, 0, 0, 0, 0, 0, 0, 0, 48, 1826761537, 1629454336, 1356047207, 806910796, 2781574811, 851679249, 3585594545, 736639776, 1914387864, 1808961006, 696003789, 3172696779, 3334014635, 2261501055, 799371504, 306354459, 3691285488, 3601346490, 1666240107, 121974477, 1840315789, 559536980, 2504639237, 3497449295, 2506163745, 350987128, 891200529, 3750974926, 2372267065, 2518075272, 3724478757, 997796636, 3137878508, 2782951657, 807312249, 4026130046, 2103705417, 1030162337, 2173926237, 4273568169, 680606018, 1723224659, 869987225, 1512692790, 2760707583, 2139297620, 2046845517, 232124126]]
def hC_A : List (List Int) := [[2773480762, 1013904242, 3144134277, 1779033703, 4228417614, 2550327059, 979978897, 3671423352, 291901442, 3971766245, 2653391087, 2917488658, 1098380552, 2979691809, 1180995414, 1197519726, 729162186, 1207329375, 2860561872, 3154940006, 3206193175, 3956493630, 411473957, 2730374349, 34334164, 17960988, 3123962259, 2849672576, 2129101979, 4026187188, 1198571427, 72874369, 2775340777, 2049045222, 3402483920, 1032521597, 614102619, 1834677113, 1004106500, 1001894752, 3254687314, 703756640, 1406844919, 1804260833, 3888600638, 178501237, 4001644070, 1426208717, 2389797578, 3860649485, 2642806354, 1801827663, 293454598, 3017739407, 4930269, 300550548, 3196210735, 1605951450, 2994427485, 2252405690, 440152366, 1986543054, 2412275951, 1483860811, 2470122523, 2517161162, 3128979324, 4285452828]]
def hC_E : List (List Int) := [[1541459225, 528734635, 2600822924, 1359893119, 2563236515, 4212339351, 684186396, 3449606341, 3398877601, 3461406579, 3392969335, 2914915108, 2813081738, 2837652740, 1442121192, 985187480, 2636490921, 1444954308, 2397063069, 1350886943, 496284414, 4022726939, 1706383173, 97404573, 3766401910, 3902861171, 129714249, 485325222, 2879060428, 3500723292, 3573223583, 1342648286, 166020373, 4116322476, 1600676148, 341755565, 4142280927, 2831862319, 767332511, 1481421983, 1604020162, 1654446130, 1562717743, 596893032, 1596752431, 3144501172, 1459731198, 2006382438, 1136753133, 4066200244, 189373102, 2758246144, 3396570030, 355629036, 1973115148, 2984180581, 3711478566, 1793591401, 148414030, 2789635691, 3264919699, 1148011688, 1488781235, 991744720, 52643646, 3367335867, 2542359796, 1893739479]]
def hC_o : List Int := [105, 120, 184, 131, 117, 232, 30, 1, 210, 119, 200, 60, 56, 139, 9, 85, 193, 238, 126, 86, 50, 142, 189, 128, 232, 57, 81, 102, 95, 4, 20, 87]
theorem hC_out : ∀ i, i < 32 → sumB 6 (lsF hC_m) i = lsF hC_o i := sum_eval (by decide +kernel : hashOk 6 hC_m hC_W hC_A hC_E hC_o = true)

end Go.Proofs.Ytdeholmpcbakbaa
end

section
/- What makes the statements of draw speak; no condition. -/
set_option linter.unusedVariables false
set_option linter.unusedSimpArgs false
set_option maxRecDepth 100000
set_option pp.maxSteps 3000
namespace Go.Proofs.Ytdeholmpcbakbaa
open Go Go.Wit

theorem try_even {n c : Nat} {f : Nat → Int} {P : Pt Fp} (h : tryP n f c = .ok P) : isI P = false ∧ yN P % 2 = 0 := by
  obtain ⟨_, h2, h3⟩ := pb_rd (fun i hi => two_in (sumB_lt _ _) i hi) h
  have h0 := h3 0 (by decide)
  have e : catB 1 (fun _ => 2) (sumB (n + 4) (catB n f (beF c 4))) 0 = 2 := rfl
  rw [e] at h0
  unfold pbF at h0
  rw [if_pos rfl] at h0
  cases hI : isI P with
  | true => rw [hI] at h0; simp at h0
  | false =>
    rw [hI] at h0
    simp only [Bool.false_eq_true, if_false] at h0
    exact ⟨rfl, by omega⟩

abbrev aB : ByteArray := ⟨#[97]⟩
abbrev aX : Fp := ⟨38330015916156637350531333271045985180042241629868010241548759931542229884731, by decide +kernel⟩
abbrev aY : Fp := ⟨105307397897656190436984443427670538281853332012095908162907568744234570940016, by decide +kernel⟩
theorem a_on : On (.aff aX aY) := by
  show aY * aY = aX * aX * aX + 7
  decide +kernel
theorem a_bytes : ∀ i : Fin 13, catB 9 (cT 1 (strF aB) (fun _ => 0) (fun _ _ => 0) 1) (beF ((2 : Nat) : Int) 4) i.val = lsF hA_m i.val := by decide +kernel
theorem a_try : tryP 9 (cT 1 (strF aB) (fun _ => 0) (fun _ _ => 0) 1) 2 = .ok (.aff aX aY) := by
  unfold tryP
  rw [sumB_congr (n := 9 + 4) (g := lsF hA_m) fun i hi => a_bytes ⟨i, hi⟩]
  refine rd_pb a_on (f := catB 1 (fun _ => 2) (sumB (9 + 4) (lsF hA_m))) fun i hi => ?_
  have hi : i < 33 := hi
  have k : ∀ i : Fin 33, catB 1 (fun _ => 2) (lsF hA_o) i.val = pbF (.aff aX aY) i.val := by decide +kernel
  rw [← k ⟨i, hi⟩]
  unfold catB
  split
  · rfl
  · exact hA_out _ (by omega)
theorem b_bytes : ∀ i : Fin 6, catB 5 (cT 1 (strF aB) (fun _ => 0) (fun _ _ => 0) 0) (fun _ => 0) i.val = lsF hB_m i.val := by decide +kernel
theorem c_bytes : ∀ i : Fin 6, catB 5 (cT 1 (strF aB) (fun _ => 0) (fun _ _ => 0) 0) (fun _ => 1) i.val = lsF hC_m i.val := by decide +kernel
theorem ofZ_congr {f g : Nat → Int} (h : ∀ i, i < 32 → f i = g i) : ofZ f = ofZ g := by
  unfold ofZ wV
  rw [h (24 + 0) (by decide), h (24 + 1) (by decide), h (24 + 2) (by decide), h (24 + 3) (by decide), h (24 + 4) (by decide), h (24 + 5) (by decide), h (24 + 6) (by decide), h (24 + 7) (by decide), h (16 + 0) (by decide), h (16 + 1) (by decide), h (16 + 2) (by decide), h (16 + 3) (by decide), h (16 + 4) (by decide), h (16 + 5) (by decide), h (16 + 6) (by decide), h (16 + 7) (by decide), h (8 + 0) (by decide), h (8 + 1) (by decide), h (8 + 2) (by decide), h (8 + 3) (by decide), h (8 + 4) (by decide), h (8 + 5) (by decide), h (8 + 6) (by decide), h (8 + 7) (by decide), h (0 + 0) (by decide), h (0 + 1) (by decide), h (0 + 2) (by decide), h (0 + 3) (by decide), h (0 + 4) (by decide), h (0 + 5) (by decide), h (0 + 6) (by decide), h (0 + 7) (by decide)]
theorem bc_ne : scN 5 (cT 1 (strF aB) (fun _ => 0) (fun _ _ => 0) 0) ≠ 0 := by
  unfold scN
  rw [sumB_congr (n := 5 + 1) (g := lsF hB_m) fun i hi => b_bytes ⟨i, hi⟩, sumB_congr (n := 5 + 1) (g := lsF hC_m) fun i hi => c_bytes ⟨i, hi⟩,
    ofZ_congr (g := lsF hB_o) hB_out, ofZ_congr (g := lsF hC_o) hC_out]
  decide +kernel
theorem S_wakes05 {m : Mem} {K : AV → Mem → Prop} (h : K (.bool true) m) : ACall Pg F_witanlaw05_wakes [] m K := by
  have h0 : ACall Pg F_witanlaw05_wakes [] [] (fun v _ => v = .bool true ∧ Flat true v) := by
    refine B_witanlaw05_wakes ⟨rfl, ?_⟩
    conv => whnf
    repeat (refine ⟨⟨[], rfl⟩, ?_⟩; conv => whnf)
    refine S_DPoint (k := 0) (g := fun _ => 0) Shows.nils (by decide) (by decide) (fun i hi => absurd hi (by omega)) (fun _ v hv => ?_) (fun h => absurd h (by decide))
    rcases hv with ⟨c, P, hc, hd, hP, oP, rfl⟩ | ⟨hd, _⟩
    rotate_left
    · exfalso
      obtain ⟨e, he⟩ := hd 2 (by decide)
      have := a_try
      rw [show nT aB.size (fun _ => 0) 1 = 9 from rfl] at he
      rw [show aB.size = 1 from rfl] at he
      rw [this] at he
      cases he
    obtain ⟨hI, hY⟩ := try_even hP
    clear hd hP
    conv => whnf
    repeat (refine ⟨⟨[], rfl⟩, ?_⟩; conv => whnf)
    refine S_DScalar (r := 0) (N := fun _ => 0) (F := fun _ _ => 0) ShowsB.nils (by decide) (by decide) (fun i hi => absurd hi (by omega)) (fun i hi => absurd hi (by omega)) (fun _ a ha ha1 => ?_) (fun h => absurd h (by decide))
    have ha0 : a ≠ 0 := by rw [ha]; exact bc_ne
    clear ha
    conv => whnf
    repeat (refine ⟨⟨[], rfl⟩, ?_⟩; conv => whnf)
    refine condB_yes (by simp; omega) ?_
    conv => whnf
    repeat (refine ⟨⟨[], rfl⟩, ?_⟩; conv => whnf)
    refine S_Check_ok (P := P) oP ?_
    conv => whnf
    repeat (refine ⟨⟨[], rfl⟩, ?_⟩; conv => whnf)
    have et : (lim (yN P) 0).tmod 2 = 0 := by
      unfold lim
      rw [show (2 : Int) = ((2 : Nat) : Int) from rfl, tmod_nn, Nat.pow_zero, Nat.div_one]
      omega
    refine condB_yes (by rw [et]; rfl) ?_
    conv => whnf
    repeat (refine ⟨⟨[], rfl⟩, ?_⟩; conv => whnf)
    have ez : (!(eqZ a)) = true := by rw [eqZ_iff (Nat.lt_trans ha1 (by decide)), decide_eq_false ha0]; rfl
    exact ⟨congrArg AV.bool ez, .bool _⟩
  refine lift_flat h0 .nil ?_
  rintro v rfl
  exact h
end Go.Proofs.Ytdeholmpcbakbaa
end

section
/- Joined bytes as the statements join them; no condition. -/
set_option linter.unusedVariables false
set_option linter.unusedSimpArgs false
set_option maxRecDepth 100000
set_option pp.maxSteps 3000
namespace Go.Proofs.Ytdeholmpcbakbaa
open Go Go.Wit

theorem be3 {n : Nat} : IntKind.u8.wrap (n : Int) = beF n 4 3 := by
  rw [IntKind.wrap_u8]; unfold beF; simp
theorem beC {n e i : Nat} (he : e = 8 * (4 - 1 - i)) : IntKind.u8.wrap ((n : Int).fdiv (2 ^ e)) = beF n 4 i := wu8 (k := 0) _ (by omega) he
theorem catW2 {nv : Bool} {σ : Nat → Option Nat} {n t i j : Nat} {f a b : Nat → Int} {g h : Nat → Nat → AV} {A : AV} (hj : j < 1) (hi : i < n + 4 + t) (hA : A = catG (n + 4) (catG n (bytesG f) g) h i j) (hg : ∀ i, i < 4 → g i 0 = .int .u8 (a i)) (hh : ∀ i, i < t → h i 0 = .int .u8 (b i)) : RV nv σ A (bytesG (catB (n + 4) (catB n f a) b) i j) := by
  subst hA
  obtain rfl : j = 0 := by omega
  refine RV.of ?_ (.int _ _)
  show _ = AV.int .u8 (catB (n + 4) (catB n f a) b i)
  by_cases h1 : i < n + 4
  · rw [catG_lt h1, catB_lt h1]
    by_cases h2 : i < n
    · rw [catG_lt h2, catB_lt h2]; rfl
    · rw [catG_ge (by omega), catB_ge (by omega), hg _ (by omega)]
  · rw [catG_ge (by omega), catB_ge (by omega), hh _ (by omega)]
theorem catW1 {nv : Bool} {σ : Nat → Option Nat} {t i j : Nat} {a b : Nat → Int} {g h : Nat → Nat → AV} {A : AV} (hj : j < 1) (hi : i < 4 + t) (hA : A = catG 4 g h i j) (hg : ∀ i, i < 4 → g i 0 = .int .u8 (a i)) (hh : ∀ i, i < t → h i 0 = .int .u8 (b i)) : RV nv σ A (bytesG (catB 4 a b) i j) := by
  subst hA
  obtain rfl : j = 0 := by omega
  refine RV.of ?_ (.int _ _)
  show _ = AV.int .u8 (catB 4 a b i)
  by_cases h1 : i < 4
  · rw [catG_lt h1, catB_lt h1, hg _ h1]
  · rw [catG_ge (by omega), catB_ge (by omega), hh _ (by omega)]
theorem S_ljoined0 (s : ByteArray) (r cap : Nat) (N C : Nat → Nat) (F : Nat → Nat → Int) (hs : s.size ≤ 1000000) (hr : r ≤ 1000) (hN : ∀ i, i < r → N i ≤ 1000000) (hT : nT s.size N r ≤ 1000000000) :
    ACall Pg F_witanlaw05_joined [.str s, .vsl 1 r cap (rowsB N C F)] [] (fun v m' => ∃ n' f', (n' = nT s.size N r ∧ f' = cT s.size (strF s) N F r) ∧ RetB n' f' v m') := by
  refine B_witanlaw05_joined ⟨rfl, ?_⟩
  conv => whnf
  repeat (refine ⟨⟨[], rfl⟩, ?_⟩; conv => whnf)
  refine condB_ok (app_ok (by first | rfl | simp) rfl rfl (by omega) (by omega)) (fun cap2 hcap2 => ?_)
  conv => whnf
  repeat (refine ⟨⟨[], rfl⟩, ?_⟩; conv => whnf)
  refine loop_wk mixed (I := fun q l m => ∃ (j c' : Nat), l = [(1, .vsl 1 r cap (rowsB N C F)), (6, .sl 0 0 (nT s.size N j) c'), (7, .int .i64 j)] ∧ m = [some ⟨1, nT s.size N j, bytesG (cT s.size (strF s) N F j)⟩] ∧ q + j = r) r
    (l0 := [(1, .vsl 1 r cap (rowsB N C F)), (6, .sl 0 0 (nT s.size N 0) cap2), (7, .int .i64 (0 : Nat))]) (m0 := [some ⟨1, nT s.size N 0, bytesG (cT s.size (strF s) N F 0)⟩]) [some 1] ⟨0, cap2, rfl, rfl, rfl⟩ ?_ ?_
  · refine .mk0 ⟨.eq _ _ rfl flat_rowsBV, .sl _ _ _ _ _ rfl, Flat.i rfl, trivial⟩ ⟨.old 0 1 _ _ rfl rfl ⟨rfl, Nat.le_refl _, fun i j hi hj => ?_⟩, trivial⟩ rfl rfl
    dsimp only
    exact catW1 hj hi rfl (fun i hi => by
      have : i = 0 ∨ i = 1 ∨ i = 2 ∨ i = 3 := by omega
      rcases this with rfl | rfl | rfl | rfl
      · exact congrArg (AV.int .u8) (beC (n := s.size) (e := 24) (i := 0) rfl)
      · exact congrArg (AV.int .u8) (beC (n := s.size) (e := 16) (i := 1) rfl)
      · exact congrArg (AV.int .u8) (beC (n := s.size) (e := 8) (i := 2) rfl)
      · exact congrArg (AV.int .u8) (be3 (n := s.size))) (fun i hi => rfl)
  · rintro q l m ⟨j, c', rfl, rfl, hq⟩
    conv => whnf
    repeat (refine ⟨trivial, ?_⟩; conv => whnf)
    refine condB_mk (fun hb => ?_) (fun hb => ?_)
    · have hb : j < r := by simp at hb; omega
      have h1 := hN j hb
      have h2 := nT_mono (t := s.size) (N := N) (Nat.le_of_lt hb)
      have h3 := nT_mono (t := s.size) (N := N) (show j + 1 ≤ r from hb)
      have en : nT s.size N (j + 1) = nT s.size N j + 4 + N j := by rw [nT_succ]; omega
      conv => whnf
      repeat (refine ⟨trivial, ?_⟩; conv => whnf)
      refine condB_ok (by simp; omega) ?_
      conv => whnf
      repeat (refine ⟨trivial, ?_⟩; conv => whnf)
      refine condB_ok (by simp; omega) ?_
      conv => whnf
      repeat (refine ⟨trivial, ?_⟩; conv => whnf)
      refine condB_ok (app_ok (by first | rfl | simp) rfl rfl (by omega) (by omega)) (fun cap5 hcap5 => ?_)
      conv => whnf
      repeat (refine ⟨trivial, ?_⟩; conv => whnf)
      refine condB_ok (app_ok (by first | rfl | simp) rfl rfl (by show (nT s.size N j + 4 + N j) * 1 ≤ 140737488355328; omega) (by show nT s.size N j + 4 + N j ≤ 140737488355328; omega)) (fun cap6 hcap6 => ?_)
      conv => whnf
      repeat (refine ⟨trivial, ?_⟩; conv => whnf)
      have e5 : IntKind.i64.wrap ((j : Int) + 1) = ((j + 1 : Nat) : Int) := by rw [w64 (by omega) (by omega)]; omega
      refine ⟨q - 1, [(1, .vsl 1 r cap (rowsB N C F)), (6, .sl 0 0 (nT s.size N (j + 1)) cap6), (7, .int .i64 ((j + 1 : Nat) : Int))], [some ⟨1, nT s.size N (j + 1), bytesG (cT s.size (strF s) N F (j + 1))⟩], [some 3], by omega, ⟨j + 1, cap6, rfl, rfl, by omega⟩, ?_⟩
      rw [en]
      refine .mk0 ⟨.eq _ _ rfl flat_rowsBV, .sl _ _ _ _ _ rfl, Flat.i e5, trivial⟩ ⟨.old 0 3 _ _ rfl rfl ⟨rfl, Nat.le_refl _, fun i t hi ht => ?_⟩, trivial⟩ rfl rfl
      dsimp only
      rw [cT_succ]
      exact catW2 ht hi rfl (fun i hi => by
        have : i = 0 ∨ i = 1 ∨ i = 2 ∨ i = 3 := by omega
        rcases this with rfl | rfl | rfl | rfl
        · exact congrArg (AV.int .u8) (beC (n := N j) (e := 24) (i := 0) rfl)
        · exact congrArg (AV.int .u8) (beC (n := N j) (e := 16) (i := 1) rfl)
        · exact congrArg (AV.int .u8) (beC (n := N j) (e := 8) (i := 2) rfl)
        · exact congrArg (AV.int .u8) (be3 (n := N j))) (fun i hi => rfl)
    · have hb : j = r := by simp at hb; omega
      subst hb
      conv => whnf
      repeat (refine ⟨⟨[], rfl⟩, ?_⟩; conv => whnf)
      exact ⟨nT s.size N j, _, ⟨rfl, rfl⟩, .inr ⟨0, c', nT s.size N j, _, rfl, rfl, Nat.le_refl _, fun i hi => rfl⟩⟩
theorem S_ljoined {m : Mem} {x : AV} {K : AV → Mem → Prop} {s : ByteArray} {r : Nat} {N : Nat → Nat} {F : Nat → Nat → Int} (hx : ShowsB m x r N F) (hs : s.size ≤ 1000000) (hr : r ≤ 1000) (hN : ∀ i, i < r → N i ≤ 1000000) (hT : nT s.size N r ≤ 1000000000)
    (h1 : ∀ n f cap, n = nT s.size N r → f = cT s.size (strF s) N F r → memK (m ++ [some ⟨1, n, bytesG f⟩]) (K (.sl m.length 0 n cap))) : ACall Pg F_witanlaw05_joined [.str s, x] m K := by
  simp only [memK_eq] at h1
  obtain ⟨cap, C, hl⟩ := hx
  refine lift_bytes (S_ljoined0 s r cap N C F hs hr hN hT) (.cons _ _ _ _ (lend_flat (.str _)) (.cons _ _ _ _ hl .nil)) ?_
  rintro n' f' cap' ⟨rfl, rfl⟩
  exact h1 _ _ cap' rfl rfl
end Go.Proofs.Ytdeholmpcbakbaa
end

section
/- Each point is a multiple of the one that all begins with: there is no room for three times as many, and none is its own counterpart; no condition. -/
set_option linter.unusedVariables false
set_option maxRecDepth 100000
namespace Go.Wit

end Go.Wit
end

section
/- Rows of numbers and of points; the points of coefficients; no condition. -/
set_option linter.unusedVariables false
set_option linter.unusedSimpArgs false
set_option maxRecDepth 100000
set_option pp.maxSteps 3000
namespace Go.Proofs.Ytdeholmpcbakbaa
open Go Go.Wit

theorem flat_rawG {nv : Bool} {i : Bool} {x y k : Nat} : Flat nv ((rawL i x y).getD k .un) := by
  unfold rawL
  match k with
  | 0 => exact .bool _
  | 1 => exact .int _ _
  | 2 => exact .int _ _
  | 3 => exact .int _ _
  | 4 => exact .int _ _
  | 5 => exact .int _ _
  | 6 => exact .int _ _
  | 7 => exact .int _ _
  | 8 => exact .int _ _
  | k + 9 => simp; exact .un
/-- What stands in slot x shows the n rows G. -/
def ShowsG (m : Mem) (x : AV) (es n : Nat) (G : Nat → Nat → AV) : Prop := ∃ cap, Lend (fun _ => none) (List.range m.length) m x (.vsl es n cap G)
theorem ShowsG.vsl {m : Mem} {es n cap : Nat} {G : Nat → Nat → AV} (h : ∀ i j, i < n → j < es → Flat false (G i j)) : ShowsG m (.vsl es n cap G) es n G := ⟨cap, .vsl _ _ _ _ _ fun i j hi hj => ⟨rfl, h i j hi hj⟩⟩
theorem ShowsG.nils {m : Mem} {es : Nat} {G : Nat → Nat → AV} : ShowsG m .nils es 0 G := ⟨0, .nils _ _⟩
theorem ShowsG.sl {m : Mem} {l off es n cap N : Nat} {g G : Nat → Nat → AV} (h : m[l]? = some (some ⟨es, N, g⟩)) (hn : off + n ≤ N) (hG : ∀ i j, i < n → j < es → G i j = g (off + i) j ∧ Flat false (G i j)) : ShowsG m (.sl l off n cap) es n G :=
  ⟨cap, .sl l off n cap ⟨es, N, g⟩ _ (List.mem_range.2 (lt_of_get h)) h hn hG⟩
end Go.Proofs.Ytdeholmpcbakbaa
end

