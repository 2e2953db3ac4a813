/- Texts of a proof, one behind the other; the last of these: What laws of points are handed; comparisons of points; no condition. -/
import Derived.Test.YtmngdaeogbjpiaaZ4
section
/- Lengths, powers, inverses; no condition. -/
set_option linter.unusedVariables false
set_option linter.unusedSimpArgs false
set_option maxRecDepth 100000
set_option pp.maxSteps 3000
namespace Go.Proofs.Ytmngdaeogbjpiaa
open Go Go.Wit

theorem S_Len64 {m : Mem} {K : AV → Mem → Prop} {x : Nat} (hx : x < 18446744073709551616) (h : ∀ k : Nat, k ≤ 64 → x < 2 ^ k → K (.int .i64 k) m) : ACall Pg F_bits_Len64 [.int .u64 (x : Int)] m K := by
  refine lift_flat (S_Len64a x hx) (.cons _ _ _ _ lend_int .nil) ?_
  rintro v ⟨k, h1, h2, rfl⟩
  exact h k h1 h2

theorem len_up {a i k : Nat} (ha : a / 18446744073709551616 ^ (i + 1) = 0) (h : a / 18446744073709551616 ^ i % 18446744073709551616 < 2 ^ k) : a < 2 ^ (64 * i + k) := by
  have h1 : a / 18446744073709551616 ^ i < 18446744073709551616 := by
    rw [Nat.pow_succ, ← Nat.div_div_eq_div_mul] at ha
    omega
  rw [Nat.mod_eq_of_lt h1, Nat.div_lt_iff_lt_mul (Nat.pow_pos (by decide)), show 18446744073709551616 = 2 ^ 64 by decide, ← Nat.pow_mul, ← Nat.pow_add, Nat.add_comm] at h
  exact h
theorem len_dn {a i : Nat} (ha : a / 18446744073709551616 ^ (i + 1) = 0) (h : a / 18446744073709551616 ^ i % 18446744073709551616 = 0) : a / 18446744073709551616 ^ i = 0 := by
  have h1 : a / 18446744073709551616 ^ i < 18446744073709551616 := by
    rw [Nat.pow_succ, ← Nat.div_div_eq_div_mul] at ha
    omega
  rwa [Nat.mod_eq_of_lt h1] at h
theorem neb {x : Nat} {p q : Prop} (h1 : x ≠ 0 → p) (h2 : x = 0 → q) : condB ((x : Int) != 0) p q := by
  refine condB_mk (fun h => h1 ?_) (fun h => h2 ?_)
  · rintro rfl; exact absurd h (by decide)
  · have := (bne_eq_false_iff_eq ..).1 h; omega
theorem S_LLen0 (a : Nat) (ha : a < w256) : ACall Pg F_limb_Len [numA a] [] (fun v _ => (∃ k : Nat, k ≤ 256 ∧ a < 2 ^ k ∧ v = .int .i64 (k : Int)) ∧ Flat true v) := by
  have z4 : a / 18446744073709551616 ^ 4 = 0 := Nat.div_eq_of_lt ha
  refine B_limb_Len ⟨rfl, ?_⟩
  conv => whnf
  refine loop_rounds mixed 5 ?_
  conv => whnf
  refine neb (x := a / 18446744073709551616 ^ 3 % 18446744073709551616) (fun hn => ?_) (fun z => ?_)
  · conv => whnf
    refine S_Len64 (x := a / 18446744073709551616 ^ 3 % 18446744073709551616) (Nat.mod_lt _ (by decide)) (fun k k1 k2 => ?_)
    conv => whnf
    refine ⟨⟨64 * 3 + k, by omega, len_up z4 k2, ?_⟩, .int _ _⟩
    rw [w64 (n := 64 * 3) (by omega) (by omega), w64 (by omega) (by omega)]
    rfl
  replace z3 := len_dn z4 z
  conv => whnf
  rw [show IntKind.i64.wrap (3 - 1) = 2 from rfl]
  refine neb (x := a / 18446744073709551616 ^ 2 % 18446744073709551616) (fun hn => ?_) (fun z => ?_)
  · conv => whnf
    refine S_Len64 (x := a / 18446744073709551616 ^ 2 % 18446744073709551616) (Nat.mod_lt _ (by decide)) (fun k k1 k2 => ?_)
    conv => whnf
    refine ⟨⟨64 * 2 + k, by omega, len_up z3 k2, ?_⟩, .int _ _⟩
    rw [w64 (n := 64 * 2) (by omega) (by omega), w64 (by omega) (by omega)]
    rfl
  replace z2 := len_dn z3 z
  conv => whnf
  rw [show IntKind.i64.wrap (2 - 1) = 1 from rfl]
  refine neb (x := a / 18446744073709551616 ^ 1 % 18446744073709551616) (fun hn => ?_) (fun z => ?_)
  · conv => whnf
    refine S_Len64 (x := a / 18446744073709551616 ^ 1 % 18446744073709551616) (Nat.mod_lt _ (by decide)) (fun k k1 k2 => ?_)
    conv => whnf
    refine ⟨⟨64 * 1 + k, by omega, len_up z2 k2, ?_⟩, .int _ _⟩
    rw [w64 (n := 64 * 1) (by omega) (by omega), w64 (by omega) (by omega)]
    rfl
  replace z1 := len_dn z2 z
  conv => whnf
  rw [show IntKind.i64.wrap (1 - 1) = 0 from rfl]
  refine neb (x := a / 18446744073709551616 ^ 0 % 18446744073709551616) (fun hn => ?_) (fun z => ?_)
  · conv => whnf
    refine S_Len64 (x := a / 18446744073709551616 ^ 0 % 18446744073709551616) (Nat.mod_lt _ (by decide)) (fun k k1 k2 => ?_)
    conv => whnf
    refine ⟨⟨64 * 0 + k, by omega, len_up z1 k2, ?_⟩, .int _ _⟩
    rw [w64 (n := 64 * 0) (by omega) (by omega), w64 (by omega) (by omega)]
    rfl
  replace z0 := len_dn z1 z
  conv => whnf
  refine ⟨⟨0, by omega, by omega, rfl⟩, .int _ _⟩
theorem S_LLen {m : Mem} {K : AV → Mem → Prop} {a : Nat} (ha : a < w256) (h : ∀ k : Nat, k ≤ 256 → a < 2 ^ k → K (.int .i64 k) m) : ACall Pg F_limb_Len [numA a] m K := by
  refine lift_flat (S_LLen0 a ha) (.cons _ _ _ _ lend_numA .nil) ?_
  rintro v ⟨k, h1, h2, rfl⟩
  exact h k h1 h2

theorem pow_sq_mod {a E n r o : Nat} (ho : o = a ^ E % n) (hr : r = o * o % n) : r = a ^ (2 * E) % n := by
  rw [hr, ho, ← Nat.mul_mod, ← Nat.pow_two, ← Nat.pow_mul, Nat.mul_comm E]
theorem pow_one_mod {a E n r o : Nat} (ho : o = a ^ E % n) (hr : r = o * a % n) : r = a ^ (E + 1) % n := by
  rw [hr, ho, Nat.pow_succ, Nat.mod_mul_mod]
theorem half_bit (e t : Nat) : e / 2 ^ t = 2 * (e / 2 ^ (t + 1)) + e / 2 ^ t % 2 := by
  rw [Nat.pow_succ, ← Nat.div_div_eq_div_mul]; omega
theorem bit_lt (x : Nat) : x % 2 = 0 ∨ x % 2 = 1 := by omega
theorem numA_c {b : Nat} (hb : b < 18446744073709551616) : AV.agg (u4 b 0 0 0) = numA b := by
  rw [← numA_comb hb (by decide) (by decide) (by decide)]; rfl
theorem S_LSubk {m : Mem} {K : AV → Mem → Prop} {a b : Nat} (ha : a < w256) (hb : b < 18446744073709551616) (hab : b ≤ a) (h : ∀ s c : Nat, s = a - b → K (.tup [numA s, .int .u64 c]) m) : ACall Pg F_limb_Sub [numA a, .agg (u4 b 0 0 0)] m K := by
  rw [numA_c hb]
  refine S_LSub ha (by simp only [w256]; omega) (fun s c e s1 c1 => h s c ?_)
  have : c = 0 ∨ c = 1 := by omega
  simp only [w256] at *
  rcases this with rfl | rfl <;> omega
theorem S_RSubk {m : Mem} {K : AV → Mem → Prop} {a b : Nat} (ha : a < w256) (hb : b < 18446744073709551616) (hab : b ≤ a) (h : ∀ s c : Nat, s = a - b → K (.tup [numA s, .int .u64 c]) m) : ACall Pg F_witanref01_Sub [numA a, .agg (u4 b 0 0 0)] m K := by
  rw [numA_c hb]
  refine S_RSub ha (by simp only [w256]; omega) (fun s c e s1 c1 => h s c ?_)
  have : c = 0 ∨ c = 1 := by omega
  simp only [w256] at *
  rcases this with rfl | rfl <;> omega

theorem S_Pow0_0 (a e : Nat) (ha : a < w256) (he : e < w256) : ACall Pg F_field_Pow [.int .i64 0, numA a, numA e] [] (fun v _ => v = numA (a ^ e % pP) ∧ Flat true v) := by
  refine B_field_Pow ⟨rfl, ?_⟩
  conv => whnf
  refine S_less_0 ?_
  conv => whnf
  refine S_LLen he (fun k k1 k2 => ?_)
  conv => whnf
  have e10 : IntKind.i64.wrap ((k : Int) - 1) = (k : Int) - 1 := w64 (by omega) (by omega)
  refine loop_wk mixed (I := fun q l m => ∃ (v : Int) (b : Nat), l = [(0, .int .i64 0), (4, .ptr 0 0 0), (5, .ptr 1 0 0), (6, .ptr 2 0 0), (9, .ptr 3 0 0), (10, .int .i64 v)] ∧ m = [some ⟨1, 4, lstG 1 (numL a)⟩, some ⟨1, 4, lstG 1 (numL e)⟩, some ⟨1, 4, lstG 1 (u4 0 0 0 0)⟩, some ⟨1, 4, lstG 1 (numL b)⟩] ∧
      v = (q : Int) - 1 ∧ q ≤ 256 ∧ b = a ^ (e / 2 ^ q) % pP) k
    (l0 := [(0, .int .i64 0), (4, .ptr 0 0 0), (5, .ptr 1 0 0), (6, .ptr 2 0 0), (9, .ptr 3 0 0), (10, .int .i64 ((k : Int) - 1))]) (m0 := [some ⟨1, 4, lstG 1 (numL a)⟩, some ⟨1, 4, lstG 1 (numL e)⟩, some ⟨1, 4, lstG 1 (u4 0 0 0 0)⟩, some ⟨1, 4, lstG 1 (numL 1)⟩])
    [some 0, some 1, some 2, some 4] ⟨_, 1, rfl, rfl, rfl, k1, by rw [Nat.div_eq_of_lt k2, Nat.pow_zero, Nat.mod_eq_of_lt (by decide)]⟩ ?_ ?_
  · refine .mk0 ⟨Flat.i rfl, .ptr _ _ _ _ rfl, .ptr _ _ _ _ rfl, .ptr _ _ _ _ rfl, .ptr _ _ _ _ rfl, Flat.i e10, trivial⟩ ⟨.old 0 0 _ _ rfl rfl ⟨rfl, Nat.le_refl _, fun i j hi hj => .eq _ _ rfl flat_numG⟩, .old 1 1 _ _ rfl rfl ⟨rfl, Nat.le_refl _, fun i j hi hj => .eq _ _ rfl flat_numG⟩,
      .old 2 2 _ _ rfl rfl ⟨rfl, Nat.le_refl _, fun i j hi hj => ?_⟩, .old 3 4 _ _ rfl rfl ⟨rfl, Nat.le_refl _, fun i j hi hj => ?_⟩, trivial⟩ rfl rfl
    · have hj : j < 1 := hj
      have hi : i < 4 := hi
      obtain rfl : j = 0 := by omega
      have : i = 0 ∨ i = 1 ∨ i = 2 ∨ i = 3 := by omega
      rcases this with rfl | rfl | rfl | rfl <;> exact .eq _ _ rfl (.int _ _)
    · have hj : j < 1 := hj
      have hi : i < 4 := hi
      obtain rfl : j = 0 := by omega
      have : i = 0 ∨ i = 1 ∨ i = 2 ∨ i = 3 := by omega
      rcases this with rfl | rfl | rfl | rfl <;> exact .eq _ _ rfl (.int _ _)
  · rintro q l m ⟨v, b, rfl, rfl, hv, hq, hb⟩
    have hp0 : 0 < pP := by decide
    have hb1 : b < w256 := by rw [hb]; exact Nat.lt_trans (Nat.mod_lt _ hp0) (by decide)
    conv => whnf
    refine condB_mk (fun hc => ?_) (fun hc => ?_)
    · have hc : v ≥ 0 := of_decide_eq_true hc
      obtain ⟨t, rfl⟩ : ∃ t, q = t + 1 := ⟨q - 1, by omega⟩
      obtain rfl : v = (t : Int) := by omega
      conv => whnf
      refine S_FMul_0 hb1 hb1 (fun r hr => ?_)
      conv => whnf
      try (refine ⟨⟨[], rfl⟩, ?_⟩; conv => whnf)
      have hr2 := pow_sq_mod hb hr
      have hr1 : r < w256 := by rw [hr2]; exact Nat.lt_trans (Nat.mod_lt _ hp0) (by decide)
      refine S_LBit (by omega) (fun c hcc => ?_)
      conv => whnf
      try (refine ⟨⟨[], rfl⟩, ?_⟩; conv => whnf)
      have ee := half_bit e t
      have e5 : IntKind.i64.wrap ((t : Int) - 1) = (t : Int) - 1 := w64 (by omega) (by omega)
      rcases bit_lt (e / 2 ^ t) with hz | hz
      · obtain rfl : c = 0 := by omega
        conv => whnf
        refine ⟨t, _, _, [some 0, some 1, some 2, some 3], Nat.lt_succ_self _, ⟨(t : Int) - 1, r, rfl, rfl, rfl, by omega, by rw [hr2, ee, hz]; rfl⟩, ?_⟩
        refine .mk0 ⟨Flat.i rfl, .ptr _ _ _ _ rfl, .ptr _ _ _ _ rfl, .ptr _ _ _ _ rfl, .ptr _ _ _ _ rfl, Flat.i e5, trivial⟩ ⟨.old 0 0 _ _ rfl rfl ⟨rfl, Nat.le_refl _, fun i j hi hj => .eq _ _ rfl flat_numG⟩, .old 1 1 _ _ rfl rfl ⟨rfl, Nat.le_refl _, fun i j hi hj => .eq _ _ rfl flat_numG⟩,
          .old 2 2 _ _ rfl rfl ⟨rfl, Nat.le_refl _, fun i j hi hj => .eq _ _ rfl flat_u4G⟩, .old 3 3 _ _ rfl rfl ⟨rfl, Nat.le_refl _, fun i j hi hj => .eq _ _ rfl flat_numG⟩, trivial⟩ rfl rfl
      · obtain rfl : c = 1 := by omega
        conv => whnf
        refine S_FMul_0 hr1 ha (fun s hs => ?_)
        conv => whnf
        try (refine ⟨⟨[], rfl⟩, ?_⟩; conv => whnf)
        have hs2 := pow_one_mod hr2 hs
        refine ⟨t, _, _, [some 0, some 1, some 2, some 3], Nat.lt_succ_self _, ⟨(t : Int) - 1, s, rfl, rfl, rfl, by omega, by rw [hs2, ee, hz]⟩, ?_⟩
        refine .mk0 ⟨Flat.i rfl, .ptr _ _ _ _ rfl, .ptr _ _ _ _ rfl, .ptr _ _ _ _ rfl, .ptr _ _ _ _ rfl, Flat.i e5, trivial⟩ ⟨.old 0 0 _ _ rfl rfl ⟨rfl, Nat.le_refl _, fun i j hi hj => .eq _ _ rfl flat_numG⟩, .old 1 1 _ _ rfl rfl ⟨rfl, Nat.le_refl _, fun i j hi hj => .eq _ _ rfl flat_numG⟩,
          .old 2 2 _ _ rfl rfl ⟨rfl, Nat.le_refl _, fun i j hi hj => .eq _ _ rfl flat_u4G⟩, .old 3 3 _ _ rfl rfl ⟨rfl, Nat.le_refl _, fun i j hi hj => .eq _ _ rfl flat_numG⟩, trivial⟩ rfl rfl
    · have hc : ¬ v ≥ 0 := of_decide_eq_false hc
      obtain rfl : q = 0 := by omega
      conv => whnf
      rw [Nat.pow_zero, Nat.div_one] at hb
      rw [← hb]
      exact ⟨rfl, flat_numA⟩
theorem S_Pow_0 {m : Mem} {K : AV → Mem → Prop} {a e : Nat} (ha : a < w256) (he : e < w256) (h : ∀ r, r = a ^ e % pP → K (numA r) m) : ACall Pg F_field_Pow [.int .i64 0, numA a, numA e] m K := by
  refine lift_flat (S_Pow0_0 a e ha he) (.cons _ _ _ _ lend_int (.cons _ _ _ _ lend_numA (.cons _ _ _ _ lend_numA .nil))) ?_
  rintro v rfl
  exact h _ rfl
theorem S_Inv_0 {m : Mem} {K : AV → Mem → Prop} {a : Nat} (ha : a < w256) (h : ∀ r, r = a ^ (pP - 2) % pP → K (numA r) m) : ACall Pg F_field_Inv [.int .i64 0, numA a] m K := by
  have h0 : ACall Pg F_field_Inv [.int .i64 0, numA a] [] (fun v _ => v = numA (a ^ (pP - 2) % pP) ∧ Flat true v) := by
    refine B_field_Inv ⟨rfl, ?_⟩
    conv => whnf
    refine S_Prime_0 (fun n hn => ?_)
    conv => whnf
    refine S_LSubk (b := 2) (by rw [hn]; decide) (by decide) (by rw [hn]; decide) (fun s c hs => ?_)
    conv => whnf
    refine S_Pow_0 ha (by rw [hs, hn]; decide) (fun r hr => ?_)
    conv => whnf
    rw [hs, hn] at hr
    rw [← hr]
    exact ⟨rfl, flat_numA⟩
  refine lift_flat h0 (.cons _ _ _ _ lend_int (.cons _ _ _ _ lend_numA .nil)) ?_
  rintro v rfl
  exact h _ rfl

theorem S_Pow0_1 (a e : Nat) (ha : a < w256) (he : e < w256) : ACall Pg F_field_Pow [.int .i64 1, numA a, numA e] [] (fun v _ => v = numA (a ^ e % nN) ∧ Flat true v) := by
  refine B_field_Pow ⟨rfl, ?_⟩
  conv => whnf
  refine S_less_1 ?_
  conv => whnf
  refine S_LLen he (fun k k1 k2 => ?_)
  conv => whnf
  have e10 : IntKind.i64.wrap ((k : Int) - 1) = (k : Int) - 1 := w64 (by omega) (by omega)
  refine loop_wk mixed (I := fun q l m => ∃ (v : Int) (b : Nat), l = [(0, .int .i64 1), (4, .ptr 0 0 0), (5, .ptr 1 0 0), (6, .ptr 2 0 0), (9, .ptr 3 0 0), (10, .int .i64 v)] ∧ m = [some ⟨1, 4, lstG 1 (numL a)⟩, some ⟨1, 4, lstG 1 (numL e)⟩, some ⟨1, 4, lstG 1 (u4 0 0 0 0)⟩, some ⟨1, 4, lstG 1 (numL b)⟩] ∧
      v = (q : Int) - 1 ∧ q ≤ 256 ∧ b = a ^ (e / 2 ^ q) % nN) k
    (l0 := [(0, .int .i64 1), (4, .ptr 0 0 0), (5, .ptr 1 0 0), (6, .ptr 2 0 0), (9, .ptr 3 0 0), (10, .int .i64 ((k : Int) - 1))]) (m0 := [some ⟨1, 4, lstG 1 (numL a)⟩, some ⟨1, 4, lstG 1 (numL e)⟩, some ⟨1, 4, lstG 1 (u4 0 0 0 0)⟩, some ⟨1, 4, lstG 1 (numL 1)⟩])
    [some 0, some 1, some 2, some 4] ⟨_, 1, rfl, rfl, rfl, k1, by rw [Nat.div_eq_of_lt k2, Nat.pow_zero, Nat.mod_eq_of_lt (by decide)]⟩ ?_ ?_
  · refine .mk0 ⟨Flat.i rfl, .ptr _ _ _ _ rfl, .ptr _ _ _ _ rfl, .ptr _ _ _ _ rfl, .ptr _ _ _ _ rfl, Flat.i e10, trivial⟩ ⟨.old 0 0 _ _ rfl rfl ⟨rfl, Nat.le_refl _, fun i j hi hj => .eq _ _ rfl flat_numG⟩, .old 1 1 _ _ rfl rfl ⟨rfl, Nat.le_refl _, fun i j hi hj => .eq _ _ rfl flat_numG⟩,
      .old 2 2 _ _ rfl rfl ⟨rfl, Nat.le_refl _, fun i j hi hj => ?_⟩, .old 3 4 _ _ rfl rfl ⟨rfl, Nat.le_refl _, fun i j hi hj => ?_⟩, trivial⟩ rfl rfl
    · have hj : j < 1 := hj
      have hi : i < 4 := hi
      obtain rfl : j = 0 := by omega
      have : i = 0 ∨ i = 1 ∨ i = 2 ∨ i = 3 := by omega
      rcases this with rfl | rfl | rfl | rfl <;> exact .eq _ _ rfl (.int _ _)
    · have hj : j < 1 := hj
      have hi : i < 4 := hi
      obtain rfl : j = 0 := by omega
      have : i = 0 ∨ i = 1 ∨ i = 2 ∨ i = 3 := by omega
      rcases this with rfl | rfl | rfl | rfl <;> exact .eq _ _ rfl (.int _ _)
  · rintro q l m ⟨v, b, rfl, rfl, hv, hq, hb⟩
    have hp0 : 0 < nN := by decide
    have hb1 : b < w256 := by rw [hb]; exact Nat.lt_trans (Nat.mod_lt _ hp0) (by decide)
    conv => whnf
    refine condB_mk (fun hc => ?_) (fun hc => ?_)
    · have hc : v ≥ 0 := of_decide_eq_true hc
      obtain ⟨t, rfl⟩ : ∃ t, q = t + 1 := ⟨q - 1, by omega⟩
      obtain rfl : v = (t : Int) := by omega
      conv => whnf
      refine S_FMul_1 hb1 hb1 (fun r hr => ?_)
      conv => whnf
      try (refine ⟨⟨[], rfl⟩, ?_⟩; conv => whnf)
      have hr2 := pow_sq_mod hb hr
      have hr1 : r < w256 := by rw [hr2]; exact Nat.lt_trans (Nat.mod_lt _ hp0) (by decide)
      refine S_LBit (by omega) (fun c hcc => ?_)
      conv => whnf
      try (refine ⟨⟨[], rfl⟩, ?_⟩; conv => whnf)
      have ee := half_bit e t
      have e5 : IntKind.i64.wrap ((t : Int) - 1) = (t : Int) - 1 := w64 (by omega) (by omega)
      rcases bit_lt (e / 2 ^ t) with hz | hz
      · obtain rfl : c = 0 := by omega
        conv => whnf
        refine ⟨t, _, _, [some 0, some 1, some 2, some 3], Nat.lt_succ_self _, ⟨(t : Int) - 1, r, rfl, rfl, rfl, by omega, by rw [hr2, ee, hz]; rfl⟩, ?_⟩
        refine .mk0 ⟨Flat.i rfl, .ptr _ _ _ _ rfl, .ptr _ _ _ _ rfl, .ptr _ _ _ _ rfl, .ptr _ _ _ _ rfl, Flat.i e5, trivial⟩ ⟨.old 0 0 _ _ rfl rfl ⟨rfl, Nat.le_refl _, fun i j hi hj => .eq _ _ rfl flat_numG⟩, .old 1 1 _ _ rfl rfl ⟨rfl, Nat.le_refl _, fun i j hi hj => .eq _ _ rfl flat_numG⟩,
          .old 2 2 _ _ rfl rfl ⟨rfl, Nat.le_refl _, fun i j hi hj => .eq _ _ rfl flat_u4G⟩, .old 3 3 _ _ rfl rfl ⟨rfl, Nat.le_refl _, fun i j hi hj => .eq _ _ rfl flat_numG⟩, trivial⟩ rfl rfl
      · obtain rfl : c = 1 := by omega
        conv => whnf
        refine S_FMul_1 hr1 ha (fun s hs => ?_)
        conv => whnf
        try (refine ⟨⟨[], rfl⟩, ?_⟩; conv => whnf)
        have hs2 := pow_one_mod hr2 hs
        refine ⟨t, _, _, [some 0, some 1, some 2, some 3], Nat.lt_succ_self _, ⟨(t : Int) - 1, s, rfl, rfl, rfl, by omega, by rw [hs2, ee, hz]⟩, ?_⟩
        refine .mk0 ⟨Flat.i rfl, .ptr _ _ _ _ rfl, .ptr _ _ _ _ rfl, .ptr _ _ _ _ rfl, .ptr _ _ _ _ rfl, Flat.i e5, trivial⟩ ⟨.old 0 0 _ _ rfl rfl ⟨rfl, Nat.le_refl _, fun i j hi hj => .eq _ _ rfl flat_numG⟩, .old 1 1 _ _ rfl rfl ⟨rfl, Nat.le_refl _, fun i j hi hj => .eq _ _ rfl flat_numG⟩,
          .old 2 2 _ _ rfl rfl ⟨rfl, Nat.le_refl _, fun i j hi hj => .eq _ _ rfl flat_u4G⟩, .old 3 3 _ _ rfl rfl ⟨rfl, Nat.le_refl _, fun i j hi hj => .eq _ _ rfl flat_numG⟩, trivial⟩ rfl rfl
    · have hc : ¬ v ≥ 0 := of_decide_eq_false hc
      obtain rfl : q = 0 := by omega
      conv => whnf
      rw [Nat.pow_zero, Nat.div_one] at hb
      rw [← hb]
      exact ⟨rfl, flat_numA⟩
theorem S_Pow_1 {m : Mem} {K : AV → Mem → Prop} {a e : Nat} (ha : a < w256) (he : e < w256) (h : ∀ r, r = a ^ e % nN → K (numA r) m) : ACall Pg F_field_Pow [.int .i64 1, numA a, numA e] m K := by
  refine lift_flat (S_Pow0_1 a e ha he) (.cons _ _ _ _ lend_int (.cons _ _ _ _ lend_numA (.cons _ _ _ _ lend_numA .nil))) ?_
  rintro v rfl
  exact h _ rfl
theorem S_Inv_1 {m : Mem} {K : AV → Mem → Prop} {a : Nat} (ha : a < w256) (h : ∀ r, r = a ^ (nN - 2) % nN → K (numA r) m) : ACall Pg F_field_Inv [.int .i64 1, numA a] m K := by
  have h0 : ACall Pg F_field_Inv [.int .i64 1, numA a] [] (fun v _ => v = numA (a ^ (nN - 2) % nN) ∧ Flat true v) := by
    refine B_field_Inv ⟨rfl, ?_⟩
    conv => whnf
    refine S_Prime_1 (fun n hn => ?_)
    conv => whnf
    refine S_LSubk (b := 2) (by rw [hn]; decide) (by decide) (by rw [hn]; decide) (fun s c hs => ?_)
    conv => whnf
    refine S_Pow_1 ha (by rw [hs, hn]; decide) (fun r hr => ?_)
    conv => whnf
    rw [hs, hn] at hr
    rw [← hr]
    exact ⟨rfl, flat_numA⟩
  refine lift_flat h0 (.cons _ _ _ _ lend_int (.cons _ _ _ _ lend_numA .nil)) ?_
  rintro v rfl
  exact h _ rfl

theorem S_RPow0_0 (a e : Nat) (ha : a < w256) (he : e < w256) : ACall Pg F_witanref01_Pow [.int .i64 0, numA a, numA e] [] (fun v _ => v = numA (a ^ e % pP) ∧ Flat true v) := by
  refine B_witanref01_Pow ⟨rfl, ?_⟩
  conv => whnf
  refine S_ok_0 ?_
  conv => whnf
  refine loop_wk mixed (I := fun q l m => ∃ (v : Int) (b : Nat), l = [(0, .int .i64 0), (4, .ptr 0 0 0), (5, .ptr 1 0 0), (6, .ptr 2 0 0), (7, .ptr 3 0 0), (8, .int .i64 v)] ∧ m = [some ⟨1, 4, lstG 1 (numL a)⟩, some ⟨1, 4, lstG 1 (numL e)⟩, some ⟨1, 4, lstG 1 (u4 0 0 0 0)⟩, some ⟨1, 4, lstG 1 (numL b)⟩] ∧
      v = (q : Int) - 1 ∧ q ≤ 256 ∧ b = a ^ (e / 2 ^ q) % pP) 256
    (l0 := [(0, .int .i64 0), (4, .ptr 0 0 0), (5, .ptr 1 0 0), (6, .ptr 2 0 0), (7, .ptr 3 0 0), (8, .int .i64 255)]) (m0 := [some ⟨1, 4, lstG 1 (numL a)⟩, some ⟨1, 4, lstG 1 (numL e)⟩, some ⟨1, 4, lstG 1 (u4 0 0 0 0)⟩, some ⟨1, 4, lstG 1 (numL 1)⟩])
    [some 0, some 1, some 2, some 3] ⟨_, 1, rfl, rfl, rfl, (Nat.le_refl _), by rw [Nat.div_eq_of_lt he, Nat.pow_zero, Nat.mod_eq_of_lt (by decide)]⟩ ?_ ?_
  · refine .mk0 ⟨Flat.i rfl, .ptr _ _ _ _ rfl, .ptr _ _ _ _ rfl, .ptr _ _ _ _ rfl, .ptr _ _ _ _ rfl, Flat.i rfl, trivial⟩ ⟨.old 0 0 _ _ rfl rfl ⟨rfl, Nat.le_refl _, fun i j hi hj => .eq _ _ rfl flat_numG⟩, .old 1 1 _ _ rfl rfl ⟨rfl, Nat.le_refl _, fun i j hi hj => .eq _ _ rfl flat_numG⟩,
      .old 2 2 _ _ rfl rfl ⟨rfl, Nat.le_refl _, fun i j hi hj => ?_⟩, .old 3 3 _ _ rfl rfl ⟨rfl, Nat.le_refl _, fun i j hi hj => ?_⟩, trivial⟩ rfl rfl
    · have hj : j < 1 := hj
      have hi : i < 4 := hi
      obtain rfl : j = 0 := by omega
      have : i = 0 ∨ i = 1 ∨ i = 2 ∨ i = 3 := by omega
      rcases this with rfl | rfl | rfl | rfl <;> exact .eq _ _ rfl (.int _ _)
    · have hj : j < 1 := hj
      have hi : i < 4 := hi
      obtain rfl : j = 0 := by omega
      have : i = 0 ∨ i = 1 ∨ i = 2 ∨ i = 3 := by omega
      rcases this with rfl | rfl | rfl | rfl <;> exact .eq _ _ rfl (.int _ _)
  · rintro q l m ⟨v, b, rfl, rfl, hv, hq, hb⟩
    have hp0 : 0 < pP := by decide
    have hb1 : b < w256 := by rw [hb]; exact Nat.lt_trans (Nat.mod_lt _ hp0) (by decide)
    conv => whnf
    refine condB_mk (fun hc => ?_) (fun hc => ?_)
    · have hc : v ≥ 0 := of_decide_eq_true hc
      obtain ⟨t, rfl⟩ : ∃ t, q = t + 1 := ⟨q - 1, by omega⟩
      obtain rfl : v = (t : Int) := by omega
      conv => whnf
      refine S_RFMul_0 hb1 hb1 (fun r hr => ?_)
      conv => whnf
      try (refine ⟨⟨[], rfl⟩, ?_⟩; conv => whnf)
      have hr2 := pow_sq_mod hb hr
      have hr1 : r < w256 := by rw [hr2]; exact Nat.lt_trans (Nat.mod_lt _ hp0) (by decide)
      refine S_RBit (by omega) (fun c hcc => ?_)
      conv => whnf
      try (refine ⟨⟨[], rfl⟩, ?_⟩; conv => whnf)
      have ee := half_bit e t
      have e5 : IntKind.i64.wrap ((t : Int) - 1) = (t : Int) - 1 := w64 (by omega) (by omega)
      rcases bit_lt (e / 2 ^ t) with hz | hz
      · obtain rfl : c = 0 := by omega
        conv => whnf
        refine ⟨t, _, _, [some 0, some 1, some 2, some 3], Nat.lt_succ_self _, ⟨(t : Int) - 1, r, rfl, rfl, rfl, by omega, by rw [hr2, ee, hz]; rfl⟩, ?_⟩
        refine .mk0 ⟨Flat.i rfl, .ptr _ _ _ _ rfl, .ptr _ _ _ _ rfl, .ptr _ _ _ _ rfl, .ptr _ _ _ _ rfl, Flat.i e5, trivial⟩ ⟨.old 0 0 _ _ rfl rfl ⟨rfl, Nat.le_refl _, fun i j hi hj => .eq _ _ rfl flat_numG⟩, .old 1 1 _ _ rfl rfl ⟨rfl, Nat.le_refl _, fun i j hi hj => .eq _ _ rfl flat_numG⟩,
          .old 2 2 _ _ rfl rfl ⟨rfl, Nat.le_refl _, fun i j hi hj => .eq _ _ rfl flat_u4G⟩, .old 3 3 _ _ rfl rfl ⟨rfl, Nat.le_refl _, fun i j hi hj => .eq _ _ rfl flat_numG⟩, trivial⟩ rfl rfl
      · obtain rfl : c = 1 := by omega
        conv => whnf
        refine S_RFMul_0 hr1 ha (fun s hs => ?_)
        conv => whnf
        try (refine ⟨⟨[], rfl⟩, ?_⟩; conv => whnf)
        have hs2 := pow_one_mod hr2 hs
        refine ⟨t, _, _, [some 0, some 1, some 2, some 3], Nat.lt_succ_self _, ⟨(t : Int) - 1, s, rfl, rfl, rfl, by omega, by rw [hs2, ee, hz]⟩, ?_⟩
        refine .mk0 ⟨Flat.i rfl, .ptr _ _ _ _ rfl, .ptr _ _ _ _ rfl, .ptr _ _ _ _ rfl, .ptr _ _ _ _ rfl, Flat.i e5, trivial⟩ ⟨.old 0 0 _ _ rfl rfl ⟨rfl, Nat.le_refl _, fun i j hi hj => .eq _ _ rfl flat_numG⟩, .old 1 1 _ _ rfl rfl ⟨rfl, Nat.le_refl _, fun i j hi hj => .eq _ _ rfl flat_numG⟩,
          .old 2 2 _ _ rfl rfl ⟨rfl, Nat.le_refl _, fun i j hi hj => .eq _ _ rfl flat_u4G⟩, .old 3 3 _ _ rfl rfl ⟨rfl, Nat.le_refl _, fun i j hi hj => .eq _ _ rfl flat_numG⟩, trivial⟩ rfl rfl
    · have hc : ¬ v ≥ 0 := of_decide_eq_false hc
      obtain rfl : q = 0 := by omega
      conv => whnf
      rw [Nat.pow_zero, Nat.div_one] at hb
      rw [← hb]
      exact ⟨rfl, flat_numA⟩
theorem S_RPow_0 {m : Mem} {K : AV → Mem → Prop} {a e : Nat} (ha : a < w256) (he : e < w256) (h : ∀ r, r = a ^ e % pP → K (numA r) m) : ACall Pg F_witanref01_Pow [.int .i64 0, numA a, numA e] m K := by
  refine lift_flat (S_RPow0_0 a e ha he) (.cons _ _ _ _ lend_int (.cons _ _ _ _ lend_numA (.cons _ _ _ _ lend_numA .nil))) ?_
  rintro v rfl
  exact h _ rfl
theorem S_RInv_0 {m : Mem} {K : AV → Mem → Prop} {a : Nat} (ha : a < w256) (h : ∀ r, r = a ^ (pP - 2) % pP → K (numA r) m) : ACall Pg F_witanref01_Inv [.int .i64 0, numA a] m K := by
  have h0 : ACall Pg F_witanref01_Inv [.int .i64 0, numA a] [] (fun v _ => v = numA (a ^ (pP - 2) % pP) ∧ Flat true v) := by
    refine B_witanref01_Inv ⟨rfl, ?_⟩
    conv => whnf
    refine S_RPrime_0 (fun n hn => ?_)
    conv => whnf
    refine S_RSubk (b := 2) (by rw [hn]; decide) (by decide) (by rw [hn]; decide) (fun s c hs => ?_)
    conv => whnf
    refine S_RPow_0 ha (by rw [hs, hn]; decide) (fun r hr => ?_)
    conv => whnf
    rw [hs, hn] at hr
    rw [← hr]
    exact ⟨rfl, flat_numA⟩
  refine lift_flat h0 (.cons _ _ _ _ lend_int (.cons _ _ _ _ lend_numA .nil)) ?_
  rintro v rfl
  exact h _ rfl

theorem S_RPow0_1 (a e : Nat) (ha : a < w256) (he : e < w256) : ACall Pg F_witanref01_Pow [.int .i64 1, numA a, numA e] [] (fun v _ => v = numA (a ^ e % nN) ∧ Flat true v) := by
  refine B_witanref01_Pow ⟨rfl, ?_⟩
  conv => whnf
  refine S_ok_1 ?_
  conv => whnf
  refine loop_wk mixed (I := fun q l m => ∃ (v : Int) (b : Nat), l = [(0, .int .i64 1), (4, .ptr 0 0 0), (5, .ptr 1 0 0), (6, .ptr 2 0 0), (7, .ptr 3 0 0), (8, .int .i64 v)] ∧ m = [some ⟨1, 4, lstG 1 (numL a)⟩, some ⟨1, 4, lstG 1 (numL e)⟩, some ⟨1, 4, lstG 1 (u4 0 0 0 0)⟩, some ⟨1, 4, lstG 1 (numL b)⟩] ∧
      v = (q : Int) - 1 ∧ q ≤ 256 ∧ b = a ^ (e / 2 ^ q) % nN) 256
    (l0 := [(0, .int .i64 1), (4, .ptr 0 0 0), (5, .ptr 1 0 0), (6, .ptr 2 0 0), (7, .ptr 3 0 0), (8, .int .i64 255)]) (m0 := [some ⟨1, 4, lstG 1 (numL a)⟩, some ⟨1, 4, lstG 1 (numL e)⟩, some ⟨1, 4, lstG 1 (u4 0 0 0 0)⟩, some ⟨1, 4, lstG 1 (numL 1)⟩])
    [some 0, some 1, some 2, some 3] ⟨_, 1, rfl, rfl, rfl, (Nat.le_refl _), by rw [Nat.div_eq_of_lt he, Nat.pow_zero, Nat.mod_eq_of_lt (by decide)]⟩ ?_ ?_
  · refine .mk0 ⟨Flat.i rfl, .ptr _ _ _ _ rfl, .ptr _ _ _ _ rfl, .ptr _ _ _ _ rfl, .ptr _ _ _ _ rfl, Flat.i rfl, trivial⟩ ⟨.old 0 0 _ _ rfl rfl ⟨rfl, Nat.le_refl _, fun i j hi hj => .eq _ _ rfl flat_numG⟩, .old 1 1 _ _ rfl rfl ⟨rfl, Nat.le_refl _, fun i j hi hj => .eq _ _ rfl flat_numG⟩,
      .old 2 2 _ _ rfl rfl ⟨rfl, Nat.le_refl _, fun i j hi hj => ?_⟩, .old 3 3 _ _ rfl rfl ⟨rfl, Nat.le_refl _, fun i j hi hj => ?_⟩, trivial⟩ rfl rfl
    · have hj : j < 1 := hj
      have hi : i < 4 := hi
      obtain rfl : j = 0 := by omega
      have : i = 0 ∨ i = 1 ∨ i = 2 ∨ i = 3 := by omega
      rcases this with rfl | rfl | rfl | rfl <;> exact .eq _ _ rfl (.int _ _)
    · have hj : j < 1 := hj
      have hi : i < 4 := hi
      obtain rfl : j = 0 := by omega
      have : i = 0 ∨ i = 1 ∨ i = 2 ∨ i = 3 := by omega
      rcases this with rfl | rfl | rfl | rfl <;> exact .eq _ _ rfl (.int _ _)
  · rintro q l m ⟨v, b, rfl, rfl, hv, hq, hb⟩
    have hp0 : 0 < nN := by decide
    have hb1 : b < w256 := by rw [hb]; exact Nat.lt_trans (Nat.mod_lt _ hp0) (by decide)
    conv => whnf
    refine condB_mk (fun hc => ?_) (fun hc => ?_)
    · have hc : v ≥ 0 := of_decide_eq_true hc
      obtain ⟨t, rfl⟩ : ∃ t, q = t + 1 := ⟨q - 1, by omega⟩
      obtain rfl : v = (t : Int) := by omega
      conv => whnf
      refine S_RFMul_1 hb1 hb1 (fun r hr => ?_)
      conv => whnf
      try (refine ⟨⟨[], rfl⟩, ?_⟩; conv => whnf)
      have hr2 := pow_sq_mod hb hr
      have hr1 : r < w256 := by rw [hr2]; exact Nat.lt_trans (Nat.mod_lt _ hp0) (by decide)
      refine S_RBit (by omega) (fun c hcc => ?_)
      conv => whnf
      try (refine ⟨⟨[], rfl⟩, ?_⟩; conv => whnf)
      have ee := half_bit e t
      have e5 : IntKind.i64.wrap ((t : Int) - 1) = (t : Int) - 1 := w64 (by omega) (by omega)
      rcases bit_lt (e / 2 ^ t) with hz | hz
      · obtain rfl : c = 0 := by omega
        conv => whnf
        refine ⟨t, _, _, [some 0, some 1, some 2, some 3], Nat.lt_succ_self _, ⟨(t : Int) - 1, r, rfl, rfl, rfl, by omega, by rw [hr2, ee, hz]; rfl⟩, ?_⟩
        refine .mk0 ⟨Flat.i rfl, .ptr _ _ _ _ rfl, .ptr _ _ _ _ rfl, .ptr _ _ _ _ rfl, .ptr _ _ _ _ rfl, Flat.i e5, trivial⟩ ⟨.old 0 0 _ _ rfl rfl ⟨rfl, Nat.le_refl _, fun i j hi hj => .eq _ _ rfl flat_numG⟩, .old 1 1 _ _ rfl rfl ⟨rfl, Nat.le_refl _, fun i j hi hj => .eq _ _ rfl flat_numG⟩,
          .old 2 2 _ _ rfl rfl ⟨rfl, Nat.le_refl _, fun i j hi hj => .eq _ _ rfl flat_u4G⟩, .old 3 3 _ _ rfl rfl ⟨rfl, Nat.le_refl _, fun i j hi hj => .eq _ _ rfl flat_numG⟩, trivial⟩ rfl rfl
      · obtain rfl : c = 1 := by omega
        conv => whnf
        refine S_RFMul_1 hr1 ha (fun s hs => ?_)
        conv => whnf
        try (refine ⟨⟨[], rfl⟩, ?_⟩; conv => whnf)
        have hs2 := pow_one_mod hr2 hs
        refine ⟨t, _, _, [some 0, some 1, some 2, some 3], Nat.lt_succ_self _, ⟨(t : Int) - 1, s, rfl, rfl, rfl, by omega, by rw [hs2, ee, hz]⟩, ?_⟩
        refine .mk0 ⟨Flat.i rfl, .ptr _ _ _ _ rfl, .ptr _ _ _ _ rfl, .ptr _ _ _ _ rfl, .ptr _ _ _ _ rfl, Flat.i e5, trivial⟩ ⟨.old 0 0 _ _ rfl rfl ⟨rfl, Nat.le_refl _, fun i j hi hj => .eq _ _ rfl flat_numG⟩, .old 1 1 _ _ rfl rfl ⟨rfl, Nat.le_refl _, fun i j hi hj => .eq _ _ rfl flat_numG⟩,
          .old 2 2 _ _ rfl rfl ⟨rfl, Nat.le_refl _, fun i j hi hj => .eq _ _ rfl flat_u4G⟩, .old 3 3 _ _ rfl rfl ⟨rfl, Nat.le_refl _, fun i j hi hj => .eq _ _ rfl flat_numG⟩, trivial⟩ rfl rfl
    · have hc : ¬ v ≥ 0 := of_decide_eq_false hc
      obtain rfl : q = 0 := by omega
      conv => whnf
      rw [Nat.pow_zero, Nat.div_one] at hb
      rw [← hb]
      exact ⟨rfl, flat_numA⟩
theorem S_RPow_1 {m : Mem} {K : AV → Mem → Prop} {a e : Nat} (ha : a < w256) (he : e < w256) (h : ∀ r, r = a ^ e % nN → K (numA r) m) : ACall Pg F_witanref01_Pow [.int .i64 1, numA a, numA e] m K := by
  refine lift_flat (S_RPow0_1 a e ha he) (.cons _ _ _ _ lend_int (.cons _ _ _ _ lend_numA (.cons _ _ _ _ lend_numA .nil))) ?_
  rintro v rfl
  exact h _ rfl
theorem S_RInv_1 {m : Mem} {K : AV → Mem → Prop} {a : Nat} (ha : a < w256) (h : ∀ r, r = a ^ (nN - 2) % nN → K (numA r) m) : ACall Pg F_witanref01_Inv [.int .i64 1, numA a] m K := by
  have h0 : ACall Pg F_witanref01_Inv [.int .i64 1, numA a] [] (fun v _ => v = numA (a ^ (nN - 2) % nN) ∧ Flat true v) := by
    refine B_witanref01_Inv ⟨rfl, ?_⟩
    conv => whnf
    refine S_RPrime_1 (fun n hn => ?_)
    conv => whnf
    refine S_RSubk (b := 2) (by rw [hn]; decide) (by decide) (by rw [hn]; decide) (fun s c hs => ?_)
    conv => whnf
    refine S_RPow_1 ha (by rw [hs, hn]; decide) (fun r hr => ?_)
    conv => whnf
    rw [hs, hn] at hr
    rw [← hr]
    exact ⟨rfl, flat_numA⟩
  refine lift_flat h0 (.cons _ _ _ _ lend_int (.cons _ _ _ _ lend_numA .nil)) ?_
  rintro v rfl
  exact h _ rfl

end Go.Proofs.Ytmngdaeogbjpiaa
end

section
/- Points of the program: from three numbers to two, multiples; no condition. -/
set_option linter.unusedVariables false
set_option linter.unusedSimpArgs false
set_option maxRecDepth 100000
set_option pp.maxSteps 3000
namespace Go.Proofs.Ytmngdaeogbjpiaa
open Go Go.Wit

theorem S_finv {m : Mem} {K : AV → Mem → Prop} {z : Fp} (h : ∀ i : Fp, i = fpow z (pP - 2) → K (numA i.val) m) : ACall Pg F_field_Inv [.int .i64 0, numA z.val] m K := by
  refine S_Inv_0 (fp_w z) (fun r hr => ?_)
  obtain rfl : r = (fpow z (pP - 2)).val := hr
  exact h _ rfl
theorem point_xy {a : J} {x y : Fp} (h : JRel a (.aff x y)) {i ii X t Y : Fp} (hi : i = fpow a.z (pP - 2)) (hii : ii = i * i) (hX : X = a.x * ii) (ht : t = ii * i) (hY : Y = a.y * t) : X = x ∧ Y = y := by
  obtain ⟨hz, hx, hy⟩ := h
  have h1 := fpow_inv hz
  rw [← hi] at h1
  subst hii ht hX hY
  rw [hx, hy]
  generalize a.z = z at *
  clear hx hy hi hz
  constructor <;> grind
theorem S_point0 (a : J) (P : Pt Fp) (hr : JRel a P) : ACall Pg F_curve_jac_point [jA a] [] (fun v _ => v = ptA P ∧ Flat true v) := by
  refine B_curve_jac_point ⟨rfl, ?_⟩
  conv => whnf
  refine c_eqz (fp_w a.z) (fun n1 => ?_) (fun n1 => ?_)
  · conv => whnf
    rw [JRel.inf (fp_val0.1 n1) hr]
    show rawA true 0 0 = _ ∧ Flat true (rawA true 0 0)
    exact ⟨rfl, flat_rawA⟩
  have n1 : a.z ≠ 0 := fun h => n1 (fp_val0.2 h)
  conv => whnf
  refine S_finv (z := a.z) (fun i hi => ?_)
  conv => whnf
  refine S_cmul (fun ii hii => ?_)
  conv => whnf
  refine S_cmul (fun X hX => ?_)
  conv => whnf
  try (refine ⟨⟨[], rfl⟩, ?_⟩; conv => whnf)
  refine S_cmul (fun t ht => ?_)
  conv => whnf
  try (refine ⟨⟨[], rfl⟩, ?_⟩; conv => whnf)
  refine S_cmul (fun Y hY => ?_)
  conv => whnf
  try (refine ⟨⟨[], rfl⟩, ?_⟩; conv => whnf)
  show rawA false X.val Y.val = _ ∧ Flat true (rawA false X.val Y.val)
  refine ⟨?_, flat_rawA⟩
  cases P with
  | inf => exact absurd hr n1
  | aff x y =>
    obtain ⟨rfl, rfl⟩ := point_xy hr hi hii hX ht hY
    rfl
theorem S_point {m : Mem} {K : AV → Mem → Prop} {a : J} {P : Pt Fp} (hr : JRel a P) (h : K (ptA P) m) : ACall Pg F_curve_jac_point [jA a] m K := by
  refine lift_flat (S_point0 a P hr) (.cons _ _ _ _ (lend_flat flat_jA) .nil) ?_
  rintro v rfl
  exact h

theorem flat_jG {nv : Bool} {a : J} {i : Nat} : Flat nv ((jL a).getD i .un) := by
  unfold jL
  match i with
  | 0 => exact .int _ _
  | 1 => exact .int _ _
  | 2 => exact .int _ _
  | 3 => exact .int _ _
  | 4 => exact .int _ _
  | 5 => exact .int _ _
  | 6 => exact .int _ _
  | 7 => exact .int _ _
  | 8 => exact .int _ _
  | 9 => exact .int _ _
  | 10 => exact .int _ _
  | 11 => exact .int _ _
  | i + 12 => simp; exact .un
def z12 : List AV := [.int .u64 0, .int .u64 0, .int .u64 0, .int .u64 0, .int .u64 0, .int .u64 0, .int .u64 0, .int .u64 0, .int .u64 0, .int .u64 0, .int .u64 0, .int .u64 0]
theorem flat_z12 {nv : Bool} {i : Nat} : Flat nv (z12.getD i .un) := by
  unfold z12
  match i with
  | 0 => exact .int _ _
  | 1 => exact .int _ _
  | 2 => exact .int _ _
  | 3 => exact .int _ _
  | 4 => exact .int _ _
  | 5 => exact .int _ _
  | 6 => exact .int _ _
  | 7 => exact .int _ _
  | 8 => exact .int _ _
  | 9 => exact .int _ _
  | 10 => exact .int _ _
  | 11 => exact .int _ _
  | i + 12 => simp; exact .un
theorem nmul_half {P : Pt Fp} (hP : On P) (e t : Nat) {r : J} (h : JRel r (nmul (e / 2 ^ (t + 1)) P)) {s : J} (hs : s = jdbl r) : JRel s (nmul (2 * (e / 2 ^ (t + 1))) P) := by
  rw [hs, Nat.two_mul, nmul_add crvP hP]
  exact jdbl_rel (hP.nmul crvP _) h
theorem nmul_next {P : Pt Fp} (hP : On P) {E : Nat} {r a : J} (h : JRel r (nmul E P)) (ha : JRel a P) {s : J} (hs : s = jadd r a) : JRel s (nmul (E + 1) P) := by
  rw [hs]
  exact jadd_rel (hP.nmul crvP _) hP h ha
theorem S_times0 (a : J) (P : Pt Fp) (n : Nat) (hn : n < w256) (oP : On P) (hr : JRel a P) : ACall Pg F_curve_jac_times [jA a, numA n] [] (fun v _ => (∃ r, JRel r (nmul n P) ∧ v = jA r) ∧ Flat true v) := by
  refine B_curve_jac_times ⟨rfl, ?_⟩
  conv => whnf
  refine S_LLen hn (fun k k1 k2 => ?_)
  conv => whnf
  have e10 : IntKind.i64.wrap ((k : Int) - 1) = (k : Int) - 1 := w64 (by omega) (by omega)
  refine loop_wk mixed (I := fun q l m => ∃ (v : Int) (b : J), l = [(2, .ptr 0 0 0), (3, .ptr 1 0 0), (4, .ptr 2 0 0), (5, .ptr 3 0 0), (6, .int .i64 v)] ∧ m = [some ⟨12, 1, lstG 12 (jL a)⟩, some ⟨1, 4, lstG 1 (numL n)⟩, some ⟨12, 1, lstG 12 z12⟩, some ⟨12, 1, lstG 12 (jL b)⟩] ∧
      v = (q : Int) - 1 ∧ q ≤ 256 ∧ JRel b (nmul (n / 2 ^ q) P)) k
    (l0 := [(2, .ptr 0 0 0), (3, .ptr 1 0 0), (4, .ptr 2 0 0), (5, .ptr 3 0 0), (6, .int .i64 ((k : Int) - 1))]) (m0 := [some ⟨12, 1, lstG 12 (jL a)⟩, some ⟨1, 4, lstG 1 (numL n)⟩, some ⟨12, 1, lstG 12 z12⟩, some ⟨12, 1, lstG 12 (jL ⟨1, 1, 0⟩)⟩])
    [some 0, some 1, some 2, some 3] ⟨_, ⟨1, 1, 0⟩, rfl, rfl, rfl, k1, by rw [Nat.div_eq_of_lt k2]; rfl⟩ ?_ ?_
  · refine .mk0 ⟨.ptr _ _ _ _ rfl, .ptr _ _ _ _ rfl, .ptr _ _ _ _ rfl, .ptr _ _ _ _ rfl, Flat.i e10, trivial⟩ ⟨.old 0 0 _ _ rfl rfl ⟨rfl, Nat.le_refl _, fun i j hi hj => .eq _ _ rfl flat_jG⟩, .old 1 1 _ _ rfl rfl ⟨rfl, Nat.le_refl _, fun i j hi hj => .eq _ _ rfl flat_numG⟩,
      .old 2 2 _ _ rfl rfl ⟨rfl, Nat.le_refl _, fun i j hi hj => ?_⟩, .old 3 3 _ _ rfl rfl ⟨rfl, Nat.le_refl _, fun i j hi hj => ?_⟩, trivial⟩ rfl rfl
    · have hj : j < 12 := hj
      have hi : i < 1 := hi
      obtain rfl : i = 0 := by omega
      have : j = 0 ∨ j = 1 ∨ j = 2 ∨ j = 3 ∨ j = 4 ∨ j = 5 ∨ j = 6 ∨ j = 7 ∨ j = 8 ∨ j = 9 ∨ j = 10 ∨ j = 11 := by omega
      rcases this with rfl | rfl | rfl | rfl | rfl | rfl | rfl | rfl | rfl | rfl | rfl | rfl <;> exact .eq _ _ rfl (.int _ _)
    · have hj : j < 12 := hj
      have hi : i < 1 := hi
      obtain rfl : i = 0 := by omega
      have : j = 0 ∨ j = 1 ∨ j = 2 ∨ j = 3 ∨ j = 4 ∨ j = 5 ∨ j = 6 ∨ j = 7 ∨ j = 8 ∨ j = 9 ∨ j = 10 ∨ j = 11 := by omega
      rcases this with rfl | rfl | rfl | rfl | rfl | rfl | rfl | rfl | rfl | rfl | rfl | rfl <;> exact .eq _ _ rfl (.int _ _)
  · rintro q l m ⟨v, b, rfl, rfl, hv, hq, hb⟩
    conv => whnf
    refine condB_mk (fun hc => ?_) (fun hc => ?_)
    · have hc : v ≥ 0 := of_decide_eq_true hc
      obtain ⟨t, rfl⟩ : ∃ t, q = t + 1 := ⟨q - 1, by omega⟩
      obtain rfl : v = (t : Int) := by omega
      conv => whnf
      refine S_twice (a := b) (fun r hr0 => ?_)
      conv => whnf
      try (refine ⟨⟨[], rfl⟩, ?_⟩; conv => whnf)
      have hr2 := nmul_half oP n t hb hr0
      refine S_LBit (by omega) (fun c hcc => ?_)
      conv => whnf
      try (refine ⟨⟨[], rfl⟩, ?_⟩; conv => whnf)
      have ee := half_bit n t
      have e5 : IntKind.i64.wrap ((t : Int) - 1) = (t : Int) - 1 := w64 (by omega) (by omega)
      rcases bit_lt (n / 2 ^ t) with hz | hz
      · obtain rfl : c = 0 := by omega
        conv => whnf
        refine ⟨t, _, _, [some 0, some 1, some 2, some 3], Nat.lt_succ_self _, ⟨(t : Int) - 1, r, rfl, rfl, rfl, by omega, by rw [ee, hz]; exact hr2⟩, ?_⟩
        refine .mk0 ⟨.ptr _ _ _ _ rfl, .ptr _ _ _ _ rfl, .ptr _ _ _ _ rfl, .ptr _ _ _ _ rfl, Flat.i e5, trivial⟩ ⟨.old 0 0 _ _ rfl rfl ⟨rfl, Nat.le_refl _, fun i j hi hj => .eq _ _ rfl flat_jG⟩, .old 1 1 _ _ rfl rfl ⟨rfl, Nat.le_refl _, fun i j hi hj => .eq _ _ rfl flat_numG⟩,
          .old 2 2 _ _ rfl rfl ⟨rfl, Nat.le_refl _, fun i j hi hj => .eq _ _ rfl flat_z12⟩, .old 3 3 _ _ rfl rfl ⟨rfl, Nat.le_refl _, fun i j hi hj => .eq _ _ rfl flat_jG⟩, trivial⟩ rfl rfl
      · obtain rfl : c = 1 := by omega
        conv => whnf
        refine S_plus (a := r) (b := a) (fun s hs0 => ?_)
        conv => whnf
        try (refine ⟨⟨[], rfl⟩, ?_⟩; conv => whnf)
        have hs2 := nmul_next oP hr2 hr hs0
        refine ⟨t, _, _, [some 0, some 1, some 2, some 3], Nat.lt_succ_self _, ⟨(t : Int) - 1, s, rfl, rfl, rfl, by omega, by rw [ee, hz]; exact hs2⟩, ?_⟩
        refine .mk0 ⟨.ptr _ _ _ _ rfl, .ptr _ _ _ _ rfl, .ptr _ _ _ _ rfl, .ptr _ _ _ _ rfl, Flat.i e5, trivial⟩ ⟨.old 0 0 _ _ rfl rfl ⟨rfl, Nat.le_refl _, fun i j hi hj => .eq _ _ rfl flat_jG⟩, .old 1 1 _ _ rfl rfl ⟨rfl, Nat.le_refl _, fun i j hi hj => .eq _ _ rfl flat_numG⟩,
          .old 2 2 _ _ rfl rfl ⟨rfl, Nat.le_refl _, fun i j hi hj => .eq _ _ rfl flat_z12⟩, .old 3 3 _ _ rfl rfl ⟨rfl, Nat.le_refl _, fun i j hi hj => .eq _ _ rfl flat_jG⟩, trivial⟩ rfl rfl
    · have hc : ¬ v ≥ 0 := of_decide_eq_false hc
      obtain rfl : q = 0 := by omega
      conv => whnf
      rw [Nat.pow_zero, Nat.div_one] at hb
      exact ⟨⟨b, hb, rfl⟩, flat_jA⟩
theorem S_times {m : Mem} {K : AV → Mem → Prop} {a : J} {P : Pt Fp} {n : Nat} (hn : n < w256) (oP : On P) (hr : JRel a P) (h : ∀ r, JRel r (nmul n P) → K (jA r) m) : ACall Pg F_curve_jac_times [jA a, numA n] m K := by
  refine lift_flat (S_times0 a P n hn oP hr) (.cons _ _ _ _ (lend_flat flat_jA) (.cons _ _ _ _ lend_numA .nil)) ?_
  rintro v ⟨r, h1, rfl⟩
  exact h r h1

end Go.Proofs.Ytmngdaeogbjpiaa
end

section
/- What is a point, and the program's sums, multiples, counterparts of any three values; no condition. -/
set_option linter.unusedVariables false
set_option linter.unusedSimpArgs false
set_option maxRecDepth 100000
set_option pp.maxSteps 1500
namespace Go.Proofs.Ytmngdaeogbjpiaa
open Go Go.Wit

/-- These values are no point's. -/
def Bad (i : Bool) (x y : Nat) : Prop := ∀ P, On P → rawA i x y ≠ ptA P

theorem S_right {m : Mem} {K : AV → Mem → Prop} {x : Fp} (h : ∀ r : Fp, r = x * x * x + 7 → K (numA r.val) m) : ACall Pg F_curve_right [numA x.val] m K := by
  have h0 : ACall Pg F_curve_right [numA x.val] [] (fun v _ => v = numA (x * x * x + 7).val ∧ Flat true v) := by
    refine B_curve_right ⟨rfl, ?_⟩
    conv => whnf
    refine S_cmul (fun a ha => ?_)
    conv => whnf
    repeat (refine ⟨⟨[], rfl⟩, ?_⟩; conv => whnf)
    refine S_cmul (fun b hb => ?_)
    conv => whnf
    repeat (refine ⟨⟨[], rfl⟩, ?_⟩; conv => whnf)
    refine S_cadd (y := 7) (fun c hc => ?_)
    conv => whnf
    repeat (refine ⟨⟨[], rfl⟩, ?_⟩; conv => whnf)
    subst ha hb
    rw [← hc]
    exact ⟨rfl, flat_numA⟩
  refine lift_flat h0 (.cons _ _ _ _ lend_numA .nil) ?_
  rintro v rfl
  exact h _ rfl

def eqP (x y : Nat) : Bool := (true == true) && (lim x 0 == 0 && (lim x 1 == 0 && (lim x 2 == 0 && (lim x 3 == 0 && (lim y 0 == 0 && (lim y 1 == 0 && (lim y 2 == 0 && (lim y 3 == 0 && true))))))))
theorem eqP_iff {x y : Nat} (hx : x < w256) (hy : y < w256) : eqP x y = decide (x = 0 ∧ y = 0) := by
  have h1 := eqZ_iff hx
  have h2 := eqZ_iff hy
  have e : eqP x y = (eqZ x && eqZ y) := by
    unfold eqP eqZ
    simp [Bool.and_assoc]
  rw [e, h1, h2]
  simp
theorem c_inf {x y : Nat} {p q : Prop} (hx : x < w256) (hy : y < w256) (h1 : x = 0 → y = 0 → q) (h2 : ¬ (x = 0 ∧ y = 0) → p) : condB (bif true then !(eqP x y) else eqP x y) p q := by
  rw [eqP_iff hx hy]
  by_cases h : x = 0 ∧ y = 0
  · rw [decide_eq_true h]; exact h1 h.1 h.2
  · rw [decide_eq_false h]; exact h2 h
theorem cmpZ_or {a b : Nat} {r : Int} (hr : r = cmpZ a b) : (a < b ∧ r = -1) ∨ (b ≤ a ∧ (r = 0 ∨ r = 1)) := by
  unfold cmpZ at hr
  split at hr
  · exact .inl ⟨by assumption, hr⟩
  · split at hr
    · exact .inr ⟨by omega, .inr hr⟩
    · exact .inr ⟨by omega, .inl hr⟩
theorem S_Check0 (i : Bool) (x y : Nat) (hx : x < w256) (hy : y < w256) : ACall Pg F_curve_Check [rawA i x y] [] (fun v _ => ((∃ P, On P ∧ rawA i x y = ptA P ∧ v = .int .i64 0) ∨ (Bad i x y ∧ v = .int .i64 3)) ∧ Flat true v) := by
  refine B_curve_Check ⟨rfl, ?_⟩
  cases i with
  | true =>
    conv => whnf
    refine c_inf hx hy (fun h1 h2 => ?_) (fun h => ?_)
    · conv => whnf
      subst h1 h2
      exact ⟨.inl ⟨.inf, trivial, rfl, rfl⟩, .int _ _⟩
    · conv => whnf
      refine ⟨.inr ⟨fun P oP e => ?_, rfl⟩, .int _ _⟩
      obtain ⟨e1, e2, e3⟩ := rawA_inj hx hy (xN_w P) (yN_w P) e
      cases P with
      | inf => exact h ⟨e2, e3⟩
      | aff u v => cases e1
  | false =>
    have bad : ∀ {P}, On P → rawA false x y = ptA P → x < pP ∧ y < pP := fun {P} oP e => by
      obtain ⟨e1, e2, e3⟩ := rawA_inj hx hy (xN_w P) (yN_w P) e
      exact ⟨e2 ▸ xN_lt P, e3 ▸ yN_lt P⟩
    conv => whnf
    refine S_Prime_0 (fun p hp => ?_)
    conv => whnf
    refine S_LCmp hx (by rw [hp]; decide) (fun r hr => ?_)
    conv => whnf
    repeat (refine ⟨⟨[], rfl⟩, ?_⟩; conv => whnf)
    rcases cmpZ_or hr with ⟨h1, rfl⟩ | ⟨h1, rfl | rfl⟩
    rotate_left
    · conv => whnf
      repeat (refine ⟨⟨[], rfl⟩, ?_⟩; conv => whnf)
      exact ⟨.inr ⟨fun P oP e => by have := (bad oP e).1; omega, rfl⟩, .int _ _⟩
    · conv => whnf
      repeat (refine ⟨⟨[], rfl⟩, ?_⟩; conv => whnf)
      exact ⟨.inr ⟨fun P oP e => by have := (bad oP e).1; omega, rfl⟩, .int _ _⟩
    conv => whnf
    refine S_LCmp hy (by rw [hp]; decide) (fun r hr => ?_)
    conv => whnf
    repeat (refine ⟨⟨[], rfl⟩, ?_⟩; conv => whnf)
    rcases cmpZ_or hr with ⟨h2, rfl⟩ | ⟨h2, rfl | rfl⟩
    rotate_left
    · conv => whnf
      repeat (refine ⟨⟨[], rfl⟩, ?_⟩; conv => whnf)
      exact ⟨.inr ⟨fun P oP e => by have := (bad oP e).2; omega, rfl⟩, .int _ _⟩
    · conv => whnf
      repeat (refine ⟨⟨[], rfl⟩, ?_⟩; conv => whnf)
      exact ⟨.inr ⟨fun P oP e => by have := (bad oP e).2; omega, rfl⟩, .int _ _⟩
    conv => whnf
    obtain ⟨X, rfl⟩ : ∃ X : Fp, x = X.val := ⟨⟨x, by omega⟩, rfl⟩
    obtain ⟨Y, rfl⟩ : ∃ Y : Fp, y = Y.val := ⟨⟨y, by omega⟩, rfl⟩
    refine S_cmul (x := Y) (y := Y) (fun yy hyy => ?_)
    conv => whnf
    repeat (refine ⟨⟨[], rfl⟩, ?_⟩; conv => whnf)
    refine S_right (x := X) (fun rr hrr => ?_)
    conv => whnf
    repeat (refine ⟨⟨[], rfl⟩, ?_⟩; conv => whnf)
    refine c_ne (a := yy.val) (b := rr.val) (fp_w yy) (fp_w rr) (fun e => ?_) (fun e => ?_)
    · conv => whnf
      refine ⟨.inr ⟨fun P oP e2 => ?_, rfl⟩, .int _ _⟩
      obtain ⟨e3, e4, e5⟩ := rawA_inj hx hy (xN_w P) (yN_w P) e2
      cases P with
      | inf => cases e3
      | aff u v =>
        obtain rfl : X = u := Fin.ext e4
        obtain rfl : Y = v := Fin.ext e5
        exact e (congrArg Fin.val ((hyy.trans oP).trans hrr.symm))
    · conv => whnf
      have e : yy = rr := Fin.ext e
      exact ⟨.inl ⟨.aff X Y, by show Y * Y = X * X * X + 7; rw [← hyy, ← hrr, e], rfl, rfl⟩, .int _ _⟩

theorem S_Check {m : Mem} {K : AV → Mem → Prop} {i : Bool} {x y : Nat} (hx : x < w256) (hy : y < w256) (h1 : ∀ P, On P → rawA i x y = ptA P → K (.int .i64 0) m) (h2 : Bad i x y → K (.int .i64 3) m) : ACall Pg F_curve_Check [rawA i x y] m K := by
  refine lift_flat (S_Check0 i x y hx hy) (.cons _ _ _ _ (lend_flat flat_rawA) .nil) ?_
  rintro v (⟨P, oP, e, rfl⟩ | ⟨hb, rfl⟩)
  · exact h1 P oP e
  · exact h2 hb
theorem S_Check_ok {m : Mem} {K : AV → Mem → Prop} {P : Pt Fp} (oP : On P) (h : K (.int .i64 0) m) : ACall Pg F_curve_Check [ptA P] m K :=
  S_Check (xN_w P) (yN_w P) (fun _ _ _ => h) (fun hb => absurd rfl (hb P oP))
theorem S_Check_bad {m : Mem} {K : AV → Mem → Prop} {i : Bool} {x y : Nat} (hx : x < w256) (hy : y < w256) (hb : Bad i x y) (h : K (.int .i64 3) m) : ACall Pg F_curve_Check [rawA i x y] m K :=
  S_Check hx hy (fun P oP e => absurd e (hb P oP)) (fun _ => h)

abbrev noPt : AV := rawA false 0 0
theorem flat_no (nv : Bool) : Flat nv (rawA false 0 0) := flat_rawA
theorem zero_sub_fp (y : Fp) : 0 - y = -y := by grind
theorem ptA_neg (P : Pt Fp) : ptA P.neg = rawA (isI P) (xN P) (0 - yF P : Fp).val := by
  cases P with
  | inf => rfl
  | aff x y => show rawA false x.val (-y).val = rawA false x.val (0 - y).val; rw [zero_sub_fp]
theorem S_Neg0 (P : Pt Fp) (oP : On P) : ACall Pg F_curve_Neg [ptA P] [] (fun v _ => v = .tup [ptA P.neg, .int .i64 0] ∧ Flat true v) := by
  refine B_curve_Neg ⟨rfl, ?_⟩
  conv => whnf
  refine S_Check_ok oP ?_
  conv => whnf
  refine S_csub (x := 0) (y := yF P) (fun r hr => ?_)
  conv => whnf
  rw [ptA_neg, ← hr]
  exact ⟨rfl, .tup _ (.cons _ _ flat_rawA (.cons _ _ (.int _ _) .nil))⟩
theorem S_Neg {m : Mem} {K : AV → Mem → Prop} {P : Pt Fp} (oP : On P) (h : K (.tup [ptA P.neg, .int .i64 0]) m) : ACall Pg F_curve_Neg [ptA P] m K := by
  refine lift_flat (S_Neg0 P oP) (.cons _ _ _ _ (lend_flat flat_ptA) .nil) ?_
  rintro v rfl
  exact h
theorem S_Neg_bad {m : Mem} {K : AV → Mem → Prop} {i : Bool} {x y : Nat} (hx : x < w256) (hy : y < w256) (hb : Bad i x y) (h : K (.tup [noPt, .int .i64 3]) m) : ACall Pg F_curve_Neg [rawA i x y] m K := by
  have h0 : ACall Pg F_curve_Neg [rawA i x y] [] (fun v _ => v = .tup [noPt, .int .i64 3] ∧ Flat true v) := by
    refine B_curve_Neg ⟨rfl, ?_⟩
    conv => whnf
    refine S_Check_bad hx hy hb ?_
    conv => whnf
    exact ⟨rfl, .tup _ (.cons _ _ (flat_no true) (.cons _ _ (.int _ _) .nil))⟩
  refine lift_flat h0 (.cons _ _ _ _ (lend_flat flat_rawA) .nil) ?_
  rintro v rfl
  exact h

theorem S_Add0 (P Q : Pt Fp) (oP : On P) (oQ : On Q) : ACall Pg F_curve_Add [ptA P, ptA Q] [] (fun v _ => v = .tup [ptA (padd P Q), .int .i64 0] ∧ Flat true v) := by
  refine B_curve_Add ⟨rfl, ?_⟩
  conv => whnf
  refine S_Check_ok oP ?_
  conv => whnf
  refine S_Check_ok oQ ?_
  conv => whnf
  refine S_spread (P := P) (fun p hp => ?_)
  conv => whnf
  repeat (refine ⟨⟨[], rfl⟩, ?_⟩; conv => whnf)
  refine S_spread (P := Q) (fun q hq => ?_)
  conv => whnf
  repeat (refine ⟨⟨[], rfl⟩, ?_⟩; conv => whnf)
  refine S_plus (a := p) (b := q) (fun r hr => ?_)
  conv => whnf
  repeat (refine ⟨⟨[], rfl⟩, ?_⟩; conv => whnf)
  subst hp hq hr
  refine S_point (a := jadd (spr P) (spr Q)) (P := padd P Q) (jadd_rel oP oQ (spr_rel P) (spr_rel Q)) ?_
  conv => whnf
  repeat (refine ⟨⟨[], rfl⟩, ?_⟩; conv => whnf)
  exact ⟨rfl, .tup _ (.cons _ _ flat_ptA (.cons _ _ (.int _ _) .nil))⟩
theorem S_Add {m : Mem} {K : AV → Mem → Prop} {P Q : Pt Fp} (oP : On P) (oQ : On Q) (h : K (.tup [ptA (padd P Q), .int .i64 0]) m) : ACall Pg F_curve_Add [ptA P, ptA Q] m K := by
  refine lift_flat (S_Add0 P Q oP oQ) (.cons _ _ _ _ (lend_flat flat_ptA) (.cons _ _ _ _ (lend_flat flat_ptA) .nil)) ?_
  rintro v rfl
  exact h
theorem S_Add_bad {m : Mem} {K : AV → Mem → Prop} {i j : Bool} {x y u v : Nat} (hx : x < w256) (hy : y < w256) (hu : u < w256) (hv : v < w256) (hb : Bad i x y ∨ Bad j u v) (h : K (.tup [noPt, .int .i64 3]) m) : ACall Pg F_curve_Add [rawA i x y, rawA j u v] m K := by
  have h0 : ACall Pg F_curve_Add [rawA i x y, rawA j u v] [] (fun v _ => v = .tup [noPt, .int .i64 3] ∧ Flat true v) := by
    refine B_curve_Add ⟨rfl, ?_⟩
    conv => whnf
    refine S_Check hx hy (fun P oP e => ?_) (fun hb => ?_)
    · conv => whnf
      refine S_Check_bad hu hv (hb.resolve_left fun h => h P oP e) ?_
      conv => whnf
      exact ⟨rfl, .tup _ (.cons _ _ (flat_no true) (.cons _ _ (.int _ _) .nil))⟩
    · conv => whnf
      exact ⟨rfl, .tup _ (.cons _ _ (flat_no true) (.cons _ _ (.int _ _) .nil))⟩
  refine lift_flat h0 (.cons _ _ _ _ (lend_flat flat_rawA) (.cons _ _ _ _ (lend_flat flat_rawA) .nil)) ?_
  rintro v rfl
  exact h

theorem S_Times0 (n : Nat) (P : Pt Fp) (hn : n < w256) (oP : On P) : ACall Pg F_curve_Times [numA n, ptA P] [] (fun v _ => v = .tup [ptA (nmul n P), .int .i64 0] ∧ Flat true v) := by
  refine B_curve_Times ⟨rfl, ?_⟩
  conv => whnf
  refine S_Check_ok oP ?_
  conv => whnf
  refine S_spread (P := P) (fun p hp => ?_)
  conv => whnf
  repeat (refine ⟨⟨[], rfl⟩, ?_⟩; conv => whnf)
  subst hp
  refine S_times (n := n) hn oP (spr_rel P) (fun r hr => ?_)
  conv => whnf
  repeat (refine ⟨⟨[], rfl⟩, ?_⟩; conv => whnf)
  refine S_point (a := r) hr ?_
  conv => whnf
  repeat (refine ⟨⟨[], rfl⟩, ?_⟩; conv => whnf)
  exact ⟨rfl, .tup _ (.cons _ _ flat_ptA (.cons _ _ (.int _ _) .nil))⟩
theorem S_Times {m : Mem} {K : AV → Mem → Prop} {n : Nat} {P : Pt Fp} (hn : n < w256) (oP : On P) (h : K (.tup [ptA (nmul n P), .int .i64 0]) m) : ACall Pg F_curve_Times [numA n, ptA P] m K := by
  refine lift_flat (S_Times0 n P hn oP) (.cons _ _ _ _ lend_numA (.cons _ _ _ _ (lend_flat flat_ptA) .nil)) ?_
  rintro v rfl
  exact h
theorem S_Times_bad {m : Mem} {K : AV → Mem → Prop} {n : Nat} {i : Bool} {x y : Nat} (hx : x < w256) (hy : y < w256) (hb : Bad i x y) (h : K (.tup [noPt, .int .i64 3]) m) : ACall Pg F_curve_Times [numA n, rawA i x y] m K := by
  have h0 : ACall Pg F_curve_Times [numA n, rawA i x y] [] (fun v _ => v = .tup [noPt, .int .i64 3] ∧ Flat true v) := by
    refine B_curve_Times ⟨rfl, ?_⟩
    conv => whnf
    refine S_Check_bad hx hy hb ?_
    conv => whnf
    exact ⟨rfl, .tup _ (.cons _ _ (flat_no true) (.cons _ _ (.int _ _) .nil))⟩
  refine lift_flat h0 (.cons _ _ _ _ lend_numA (.cons _ _ _ _ (lend_flat flat_rawA) .nil)) ?_
  rintro v rfl
  exact h

theorem G_lim : ptA gG = .agg [.bool false, .int .u64 6481385041966929816, .int .u64 188021827762530521, .int .u64 6170039885052185351, .int .u64 8772561819708210092, .int .u64 11261198710074299576, .int .u64 18237243440184513561, .int .u64 6747795201694173352, .int .u64 5204712524664259685] := by
  have hx : gX.val = comb 6481385041966929816 188021827762530521 6170039885052185351 8772561819708210092 := by decide
  have hy : gY.val = comb 11261198710074299576 18237243440184513561 6747795201694173352 5204712524664259685 := by decide
  show rawA false gX.val gY.val = _
  obtain ⟨a0, a1, a2, a3⟩ := lim_comb (a := 6481385041966929816) (b := 188021827762530521) (c := 6170039885052185351) (d := 8772561819708210092) (by decide) (by decide) (by decide) (by decide)
  obtain ⟨b0, b1, b2, b3⟩ := lim_comb (a := 11261198710074299576) (b := 18237243440184513561) (c := 6747795201694173352) (d := 5204712524664259685) (by decide) (by decide) (by decide) (by decide)
  rw [hx, hy, rawA, rawL, a0, a1, a2, a3, b0, b1, b2, b3]
  rfl
theorem S_base {m : Mem} {K : AV → Mem → Prop} (h : K (ptA gG) m) : ACall Pg F_curve_base [] m K := by
  have h0 : ACall Pg F_curve_base [] [] (fun v _ => v = ptA gG ∧ Flat true v) := by
    refine B_curve_base ⟨rfl, ?_⟩
    conv => whnf
    rw [G_lim]
    exact ⟨rfl, G_lim ▸ flat_ptA⟩
  refine lift_flat h0 .nil ?_
  rintro v rfl
  exact h
theorem S_Base0 (n : Nat) (hn : n < w256) : ACall Pg F_curve_Base [numA n] [] (fun v _ => v = ptA (nmul n gG) ∧ Flat true v) := by
  refine B_curve_Base ⟨rfl, ?_⟩
  conv => whnf
  refine S_base ?_
  generalize hG : gG = G
  have oG : On G := hG ▸ on_G
  conv => whnf
  repeat (refine ⟨⟨[], rfl⟩, ?_⟩; conv => whnf)
  refine S_spread (P := G) (fun p hp => ?_)
  conv => whnf
  repeat (refine ⟨⟨[], rfl⟩, ?_⟩; conv => whnf)
  subst hp
  refine S_times (n := n) hn oG (spr_rel G) (fun r hr => ?_)
  conv => whnf
  repeat (refine ⟨⟨[], rfl⟩, ?_⟩; conv => whnf)
  refine S_point (a := r) hr ?_
  conv => whnf
  repeat (refine ⟨⟨[], rfl⟩, ?_⟩; conv => whnf)
  exact ⟨rfl, flat_ptA⟩
theorem S_Base {m : Mem} {K : AV → Mem → Prop} {n : Nat} (hn : n < w256) (h : K (ptA (nmul n gG)) m) : ACall Pg F_curve_Base [numA n] m K := by
  refine lift_flat (S_Base0 n hn) (.cons _ _ _ _ lend_numA .nil) ?_
  rintro v rfl
  exact h

theorem S_Two0 (n k : Nat) (P Q : Pt Fp) (hn : n < w256) (hk : k < w256) (oP : On P) (oQ : On Q) : ACall Pg F_curve_Two [numA n, ptA P, numA k, ptA Q] [] (fun v _ => v = .tup [ptA (padd (nmul n P) (nmul k Q)), .int .i64 0] ∧ Flat true v) := by
  refine B_curve_Two ⟨rfl, ?_⟩
  conv => whnf
  refine S_Check_ok oP ?_
  conv => whnf
  refine S_Check_ok oQ ?_
  conv => whnf
  refine S_spread (P := P) (fun p hp => ?_)
  conv => whnf
  repeat (refine ⟨⟨[], rfl⟩, ?_⟩; conv => whnf)
  subst hp
  refine S_times (n := n) hn oP (spr_rel P) (fun r hr => ?_)
  conv => whnf
  repeat (refine ⟨⟨[], rfl⟩, ?_⟩; conv => whnf)
  refine S_spread (P := Q) (fun q hq => ?_)
  conv => whnf
  repeat (refine ⟨⟨[], rfl⟩, ?_⟩; conv => whnf)
  subst hq
  refine S_times (n := k) hk oQ (spr_rel Q) (fun s hs => ?_)
  conv => whnf
  repeat (refine ⟨⟨[], rfl⟩, ?_⟩; conv => whnf)
  refine S_plus (a := r) (b := s) (fun t ht => ?_)
  conv => whnf
  repeat (refine ⟨⟨[], rfl⟩, ?_⟩; conv => whnf)
  refine S_point (a := t) (P := padd (nmul n P) (nmul k Q)) (ht ▸ jadd_rel (oP.nmul crvP n) (oQ.nmul crvP k) hr hs) ?_
  conv => whnf
  repeat (refine ⟨⟨[], rfl⟩, ?_⟩; conv => whnf)
  exact ⟨rfl, .tup _ (.cons _ _ flat_ptA (.cons _ _ (.int _ _) .nil))⟩
theorem S_Two {m : Mem} {K : AV → Mem → Prop} {n k : Nat} {P Q : Pt Fp} (hn : n < w256) (hk : k < w256) (oP : On P) (oQ : On Q) (h : K (.tup [ptA (padd (nmul n P) (nmul k Q)), .int .i64 0]) m) : ACall Pg F_curve_Two [numA n, ptA P, numA k, ptA Q] m K := by
  refine lift_flat (S_Two0 n k P Q hn hk oP oQ) (.cons _ _ _ _ lend_numA (.cons _ _ _ _ (lend_flat flat_ptA) (.cons _ _ _ _ lend_numA (.cons _ _ _ _ (lend_flat flat_ptA) .nil)))) ?_
  rintro v rfl
  exact h
theorem S_Two_bad {m : Mem} {K : AV → Mem → Prop} {n k : Nat} {i j : Bool} {x y u v : Nat} (hx : x < w256) (hy : y < w256) (hu : u < w256) (hv : v < w256) (hb : Bad i x y ∨ Bad j u v) (h : K (.tup [noPt, .int .i64 3]) m) : ACall Pg F_curve_Two [numA n, rawA i x y, numA k, rawA j u v] m K := by
  have h0 : ACall Pg F_curve_Two [numA n, rawA i x y, numA k, rawA j u v] [] (fun v _ => v = .tup [noPt, .int .i64 3] ∧ Flat true v) := by
    refine B_curve_Two ⟨rfl, ?_⟩
    conv => whnf
    refine S_Check hx hy (fun P oP e => ?_) (fun hb => ?_)
    · conv => whnf
      refine S_Check_bad hu hv (hb.resolve_left fun h => h P oP e) ?_
      conv => whnf
      exact ⟨rfl, .tup _ (.cons _ _ (flat_no true) (.cons _ _ (.int _ _) .nil))⟩
    · conv => whnf
      exact ⟨rfl, .tup _ (.cons _ _ (flat_no true) (.cons _ _ (.int _ _) .nil))⟩
  refine lift_flat h0 (.cons _ _ _ _ lend_numA (.cons _ _ _ _ (lend_flat flat_rawA) (.cons _ _ _ _ lend_numA (.cons _ _ _ _ (lend_flat flat_rawA) .nil)))) ?_
  rintro v rfl
  exact h

end Go.Proofs.Ytmngdaeogbjpiaa
end

section
/- Points told by three numbers: the reference's sums; no condition. -/
set_option linter.unusedVariables false
set_option linter.unusedSimpArgs false
set_option maxRecDepth 100000
set_option pp.maxSteps 1500
namespace Go.Proofs.Ytmngdaeogbjpiaa
open Go Go.Wit

theorem S_radd {m : Mem} {K : AV → Mem → Prop} {x y : Fp} (h : ∀ z : Fp, z = x + y → K (numA z.val) m) : ACall Pg F_witanref01_add [numA x.val, numA y.val] m K := by
  have h0 : ACall Pg F_witanref01_add [numA x.val, numA y.val] [] (fun v _ => v = numA (x + y).val ∧ Flat true v) := by
    refine B_witanref01_add ⟨rfl, ?_⟩
    conv => whnf
    refine S_RFAdd_0 (fp_w x) (fp_w y) (fun r hr => ?_)
    conv => whnf
    rw [fp_add, ← hr]
    exact ⟨rfl, flat_numA⟩
  refine lift_flat h0 (.cons _ _ _ _ lend_numA (.cons _ _ _ _ lend_numA .nil)) ?_
  rintro v rfl
  exact h _ rfl
theorem S_rmul {m : Mem} {K : AV → Mem → Prop} {x y : Fp} (h : ∀ z : Fp, z = x * y → K (numA z.val) m) : ACall Pg F_witanref01_mul [numA x.val, numA y.val] m K := by
  have h0 : ACall Pg F_witanref01_mul [numA x.val, numA y.val] [] (fun v _ => v = numA (x * y).val ∧ Flat true v) := by
    refine B_witanref01_mul ⟨rfl, ?_⟩
    conv => whnf
    refine S_RFMul_0 (fp_w x) (fp_w y) (fun r hr => ?_)
    conv => whnf
    rw [fp_mul, ← hr]
    exact ⟨rfl, flat_numA⟩
  refine lift_flat h0 (.cons _ _ _ _ lend_numA (.cons _ _ _ _ lend_numA .nil)) ?_
  rintro v rfl
  exact h _ rfl
theorem S_rsub {m : Mem} {K : AV → Mem → Prop} {x y : Fp} (h : ∀ z : Fp, z = x - y → K (numA z.val) m) : ACall Pg F_witanref01_sub [numA x.val, numA y.val] m K := by
  have h0 : ACall Pg F_witanref01_sub [numA x.val, numA y.val] [] (fun v _ => v = numA (x - y).val ∧ Flat true v) := by
    refine B_witanref01_sub ⟨rfl, ?_⟩
    conv => whnf
    refine S_RFSub_0 (fp_w x) (fp_w y) (fun r hr => ?_)
    conv => whnf
    rw [Nat.mod_eq_of_lt y.isLt, Nat.add_comm] at hr
    rw [fp_sub, ← hr]
    exact ⟨rfl, flat_numA⟩
  refine lift_flat h0 (.cons _ _ _ _ lend_numA (.cons _ _ _ _ lend_numA .nil)) ?_
  rintro v rfl
  exact h _ rfl

theorem S_rInf {m : Mem} {K : AV → Mem → Prop} (h : K (ptA .inf) m) : ACall Pg F_witanref01_Inf [] m K := by
  have h0 : ACall Pg F_witanref01_Inf [] [] (fun v _ => v = ptA .inf ∧ Flat true v) := by
    refine B_witanref01_Inf ⟨rfl, ?_⟩
    conv => whnf
    show rawA true 0 0 = _ ∧ Flat true (rawA true 0 0)
    exact ⟨rfl, flat_rawA⟩
  refine lift_flat h0 .nil ?_
  rintro v rfl
  exact h
theorem S_up0 (P : Pt Fp) : ACall Pg F_witanref01_up [ptA P] [] (fun v _ => v = jA (spr P) ∧ Flat true v) := by
  cases P with
  | inf =>
    refine B_witanref01_up ⟨rfl, ?_⟩
    conv => whnf
    show jA ⟨1, 1, 0⟩ = _ ∧ Flat true (jA ⟨1, 1, 0⟩)
    exact ⟨rfl, flat_jA⟩
  | aff x y =>
    refine B_witanref01_up ⟨rfl, ?_⟩
    conv => whnf
    have e : jA (spr (.aff x y)) = AV.agg [.int .u64 (lim x.val 0), .int .u64 (lim x.val 1), .int .u64 (lim x.val 2), .int .u64 (lim x.val 3), .int .u64 (lim y.val 0), .int .u64 (lim y.val 1), .int .u64 (lim y.val 2), .int .u64 (lim y.val 3), .int .u64 1, .int .u64 0, .int .u64 0, .int .u64 0] := by
      obtain ⟨h0, h1, h2, h3⟩ := lim1
      simp only [jA, jL, spr, h0, h1, h2, h3]
    exact ⟨by rw [e]; rfl, .agg _ (by repeat (first | exact .nil | refine .cons _ _ (.int _ _) ?_))⟩
theorem S_up {m : Mem} {K : AV → Mem → Prop} {P : Pt Fp} (h : ∀ r, r = spr P → K (jA r) m) : ACall Pg F_witanref01_up [ptA P] m K := by
  refine lift_flat (S_up0 P) (.cons _ _ _ _ (lend_flat flat_ptA) .nil) ?_
  rintro v rfl
  exact h _ rfl
theorem S_rfinv {m : Mem} {K : AV → Mem → Prop} {z : Fp} (h : ∀ i : Fp, i = fpow z (pP - 2) → K (numA i.val) m) : ACall Pg F_witanref01_Inv [.int .i64 0, numA z.val] m K := by
  refine S_RInv_0 (fp_w z) (fun r hr => ?_)
  obtain rfl : r = (fpow z (pP - 2)).val := hr
  exact h _ rfl
theorem S_down0 (a : J) (P : Pt Fp) (hr : JRel a P) : ACall Pg F_witanref01_down [jA a] [] (fun v _ => v = ptA P ∧ Flat true v) := by
  refine B_witanref01_down ⟨rfl, ?_⟩
  conv => whnf
  refine c_eqz (fp_w a.z) (fun n1 => ?_) (fun n1 => ?_)
  · conv => whnf
    refine S_rInf ?_
    conv => whnf
    rw [JRel.inf (fp_val0.1 n1) hr]
    exact ⟨rfl, flat_ptA⟩
  have n1 : a.z ≠ 0 := fun h => n1 (fp_val0.2 h)
  conv => whnf
  refine S_rfinv (z := a.z) (fun i hi => ?_)
  conv => whnf
  refine S_rmul (fun ii hii => ?_)
  conv => whnf
  refine S_rmul (fun X hX => ?_)
  conv => whnf
  repeat (refine ⟨⟨[], rfl⟩, ?_⟩; conv => whnf)
  refine S_rmul (fun t ht => ?_)
  conv => whnf
  repeat (refine ⟨⟨[], rfl⟩, ?_⟩; conv => whnf)
  refine S_rmul (fun Y hY => ?_)
  conv => whnf
  repeat (refine ⟨⟨[], rfl⟩, ?_⟩; conv => whnf)
  show rawA false X.val Y.val = _ ∧ Flat true (rawA false X.val Y.val)
  refine ⟨?_, flat_rawA⟩
  cases P with
  | inf => exact absurd hr n1
  | aff x y =>
    obtain ⟨rfl, rfl⟩ := point_xy hr hi hii hX ht hY
    rfl
theorem S_down {m : Mem} {K : AV → Mem → Prop} {a : J} {P : Pt Fp} (hr : JRel a P) (h : K (ptA P) m) : ACall Pg F_witanref01_down [jA a] m K := by
  refine lift_flat (S_down0 a P hr) (.cons _ _ _ _ (lend_flat flat_jA) .nil) ?_
  rintro v rfl
  exact h

theorem c_eqz_f {a : Nat} {p q : Prop} (ha : a < w256) (hp : a = 0 → p) (hq : a ≠ 0 → q) : condB ((bif false then !(eqZ a) else eqZ a) == false) q p := by
  rw [eqZ_iff ha]
  by_cases h : a = 0
  · rw [decide_eq_true h]; exact hp h
  · rw [decide_eq_false h]; exact hq h
theorem jrel_ne {a : J} {P : Pt Fp} (oP : On P) (hr : JRel a P) (hz : a.z ≠ 0) : a.y ≠ 0 := by
  cases P with
  | inf => exact absurd hr hz
  | aff x y =>
    obtain ⟨h1, h2, h3⟩ := hr
    rw [h3]
    exact crvP.mul_ne (On.y_ne crvP oP) (crvP.mul_ne h1 (crvP.mul_ne h1 h1))
theorem S_rtwice0 (a : J) (P : Pt Fp) (oP : On P) (hr : JRel a P) : ACall Pg F_witanref01_twice [jA a] [] (fun v _ => (∃ r, JRel r (padd P P) ∧ v = jA r) ∧ Flat true v) := by
  refine B_witanref01_twice ⟨rfl, ?_⟩
  conv => whnf
  refine c_eqz_f (fp_w a.z) (fun n1 => ?_) (fun n1 => ?_)
  · conv => whnf
    refine S_rInf ?_
    conv => whnf
    refine S_up (P := .inf) (fun q hq => ?_)
    conv => whnf
    refine ⟨⟨q, ?_, rfl⟩, flat_jA⟩
    rw [JRel.inf (fp_val0.1 n1) hr, hq]
    exact spr_rel .inf
  have n1 : a.z ≠ 0 := fun h => n1 (fp_val0.2 h)
  have n2 := jrel_ne oP hr n1
  conv => whnf
  refine c_eqz (fp_w a.y) (fun n3 => absurd (fp_val0.1 n3) n2) (fun n3 => ?_)
  conv => whnf
  refine S_rmul (fun aa e_aa => ?_)
  conv => whnf
  repeat (refine ⟨⟨[], rfl⟩, ?_⟩; conv => whnf)
  refine S_rmul (fun b e_b => ?_)
  conv => whnf
  repeat (refine ⟨⟨[], rfl⟩, ?_⟩; conv => whnf)
  refine S_rmul (fun c0 e_c0 => ?_)
  conv => whnf
  repeat (refine ⟨⟨[], rfl⟩, ?_⟩; conv => whnf)
  refine S_radd (fun d1 e_d1 => ?_)
  conv => whnf
  repeat (refine ⟨⟨[], rfl⟩, ?_⟩; conv => whnf)
  refine S_radd (fun d2 e_d2 => ?_)
  conv => whnf
  repeat (refine ⟨⟨[], rfl⟩, ?_⟩; conv => whnf)
  refine S_rmul (fun d3 e_d3 => ?_)
  conv => whnf
  repeat (refine ⟨⟨[], rfl⟩, ?_⟩; conv => whnf)
  refine S_rsub (fun d4 e_d4 => ?_)
  conv => whnf
  repeat (refine ⟨⟨[], rfl⟩, ?_⟩; conv => whnf)
  refine S_rsub (fun d5 e_d5 => ?_)
  conv => whnf
  repeat (refine ⟨⟨[], rfl⟩, ?_⟩; conv => whnf)
  refine S_radd (fun d e_d => ?_)
  conv => whnf
  repeat (refine ⟨⟨[], rfl⟩, ?_⟩; conv => whnf)
  refine S_radd (fun e1 e_e1 => ?_)
  conv => whnf
  repeat (refine ⟨⟨[], rfl⟩, ?_⟩; conv => whnf)
  refine S_radd (fun e e_e => ?_)
  conv => whnf
  repeat (refine ⟨⟨[], rfl⟩, ?_⟩; conv => whnf)
  refine S_rmul (fun x1 e_x1 => ?_)
  conv => whnf
  repeat (refine ⟨⟨[], rfl⟩, ?_⟩; conv => whnf)
  refine S_radd (fun x2 e_x2 => ?_)
  conv => whnf
  repeat (refine ⟨⟨[], rfl⟩, ?_⟩; conv => whnf)
  refine S_rsub (fun x e_x => ?_)
  conv => whnf
  repeat (refine ⟨⟨[], rfl⟩, ?_⟩; conv => whnf)
  refine S_radd (fun c1 e_c1 => ?_)
  conv => whnf
  repeat (refine ⟨⟨[], rfl⟩, ?_⟩; conv => whnf)
  refine S_radd (fun c2 e_c2 => ?_)
  conv => whnf
  repeat (refine ⟨⟨[], rfl⟩, ?_⟩; conv => whnf)
  refine S_radd (fun c3 e_c3 => ?_)
  conv => whnf
  repeat (refine ⟨⟨[], rfl⟩, ?_⟩; conv => whnf)
  refine S_rsub (fun y1 e_y1 => ?_)
  conv => whnf
  repeat (refine ⟨⟨[], rfl⟩, ?_⟩; conv => whnf)
  refine S_rmul (fun y2 e_y2 => ?_)
  conv => whnf
  repeat (refine ⟨⟨[], rfl⟩, ?_⟩; conv => whnf)
  refine S_rsub (fun y e_y => ?_)
  conv => whnf
  repeat (refine ⟨⟨[], rfl⟩, ?_⟩; conv => whnf)
  refine S_rmul (fun z1 e_z1 => ?_)
  conv => whnf
  repeat (refine ⟨⟨[], rfl⟩, ?_⟩; conv => whnf)
  refine S_radd (fun z e_z => ?_)
  conv => whnf
  repeat (refine ⟨⟨[], rfl⟩, ?_⟩; conv => whnf)
  show (∃ r, JRel r (padd P P) ∧ jA ⟨x, y, z⟩ = jA r) ∧ Flat true (jA ⟨x, y, z⟩)
  refine ⟨⟨⟨x, y, z⟩, ?_, rfl⟩, flat_jA⟩
  have ed : d = 4 * (a.x * (a.y * a.y)) := by subst e_d e_d5 e_d4 e_d3 e_d2 e_d1 e_c0 e_b e_aa; clear e_x e_y e_z e_x1 e_x2 e_y1 e_y2 e_z1 hr; grind
  have ee : e = 3 * (a.x * a.x) := by subst e_e e_e1 e_aa; clear ed e_x e_y e_z e_x1 e_x2 e_y1 e_y2 e_z1 hr; grind
  have ec : c3 = 8 * ((a.y * a.y) * (a.y * a.y)) := by subst e_c3 e_c2 e_c1 e_c0 e_b; clear ed ee e_x e_y e_z e_x1 e_x2 e_y1 e_y2 e_z1 hr; grind
  have ex : x = e * e - 2 * d := by subst e_x e_x2 e_x1; clear ed ee ec e_y e_z e_y1 e_y2 e_z1 hr; grind
  have ey : y = e * (d - x) - c3 := by subst e_y e_y2 e_y1; rfl
  have ez : z = 2 * (a.y * a.z) := by subst e_z e_z1; clear ed ee ec ex ey hr; grind
  have : (⟨x, y, z⟩ : J) = jdbl a := by
    unfold jdbl
    rw [ey, ex, ez, ee, ed, ec]
  rw [this]
  exact jdbl_rel oP hr
theorem S_rtwice {m : Mem} {K : AV → Mem → Prop} {a : J} {P : Pt Fp} (oP : On P) (hr : JRel a P) (h : ∀ r, JRel r (padd P P) → K (jA r) m) : ACall Pg F_witanref01_twice [jA a] m K := by
  refine lift_flat (S_rtwice0 a P oP hr) (.cons _ _ _ _ (lend_flat flat_jA) .nil) ?_
  rintro v ⟨r, h1, rfl⟩
  exact h r h1

theorem S_rplus0 (a b : J) (P Q : Pt Fp) (oP : On P) (oQ : On Q) (ha : JRel a P) (hb : JRel b Q) : ACall Pg F_witanref01_plus [jA a, jA b] [] (fun v _ => (∃ r, JRel r (padd P Q) ∧ v = jA r) ∧ Flat true v) := by
  have key := jadd_rel oP oQ ha hb
  refine B_witanref01_plus ⟨rfl, ?_⟩
  conv => whnf
  refine c_eqz (fp_w a.z) (fun n1 => ?_) (fun n1 => ?_)
  · conv => whnf
    rw [show jadd a b = b by unfold jadd; rw [if_pos (fp_val0.1 n1)]] at key
    exact ⟨⟨b, key, rfl⟩, flat_jA⟩
  have n1 : a.z ≠ 0 := fun h => n1 (fp_val0.2 h)
  conv => whnf
  refine c_eqz (fp_w b.z) (fun n2 => ?_) (fun n2 => ?_)
  · conv => whnf
    rw [show jadd a b = a by unfold jadd; rw [if_neg n1, if_pos (fp_val0.1 n2)]] at key
    exact ⟨⟨a, key, rfl⟩, flat_jA⟩
  have n2 : b.z ≠ 0 := fun h => n2 (fp_val0.2 h)
  conv => whnf
  refine S_rmul (fun za e_za => ?_)
  conv => whnf
  repeat (refine ⟨⟨[], rfl⟩, ?_⟩; conv => whnf)
  refine S_rmul (fun zb e_zb => ?_)
  conv => whnf
  repeat (refine ⟨⟨[], rfl⟩, ?_⟩; conv => whnf)
  refine S_rmul (fun ua e_ua => ?_)
  conv => whnf
  repeat (refine ⟨⟨[], rfl⟩, ?_⟩; conv => whnf)
  refine S_rmul (fun ub e_ub => ?_)
  conv => whnf
  repeat (refine ⟨⟨[], rfl⟩, ?_⟩; conv => whnf)
  refine S_rmul (fun t1 e_t1 => ?_)
  conv => whnf
  repeat (refine ⟨⟨[], rfl⟩, ?_⟩; conv => whnf)
  refine S_rmul (fun sa e_sa => ?_)
  conv => whnf
  repeat (refine ⟨⟨[], rfl⟩, ?_⟩; conv => whnf)
  refine S_rmul (fun t2 e_t2 => ?_)
  conv => whnf
  repeat (refine ⟨⟨[], rfl⟩, ?_⟩; conv => whnf)
  refine S_rmul (fun sb e_sb => ?_)
  conv => whnf
  repeat (refine ⟨⟨[], rfl⟩, ?_⟩; conv => whnf)
  refine S_rsub (fun h e_h => ?_)
  conv => whnf
  repeat (refine ⟨⟨[], rfl⟩, ?_⟩; conv => whnf)
  refine S_rsub (fun r e_r => ?_)
  conv => whnf
  repeat (refine ⟨⟨[], rfl⟩, ?_⟩; conv => whnf)
  have eh : b.x * (a.z * a.z) - a.x * (b.z * b.z) = h := by subst e_h e_ub e_ua e_zb e_za; rfl
  have er : b.y * (a.z * a.z * a.z) - a.y * (b.z * b.z * b.z) = r := by subst e_r e_sb e_sa e_t2 e_t1 e_zb e_za; rfl
  have J0 : jadd a b = if h = 0 then (if r = 0 then jdbl a else ⟨1, 1, 0⟩) else ⟨r * r - h * h * h - 2 * (ua * (h * h)), r * (ua * (h * h) - (r * r - h * h * h - 2 * (ua * (h * h)))) - sa * (h * h * h), h * (a.z * b.z)⟩ := by
    unfold jadd
    rw [if_neg n1, if_neg n2]
    subst e_h e_r e_ub e_sb e_ua e_sa e_t2 e_t1 e_zb e_za
    rfl
  rw [J0] at key
  clear J0
  refine c_eqz (a := h.val) (fp_w h) (fun h0 => ?_) (fun h0 => ?_)
  · have h0 := fp_val0.1 h0
    rw [if_pos h0] at key
    conv => whnf
    refine c_eqz (a := r.val) (fp_w r) (fun r0 => ?_) (fun r0 => ?_)
    · have r0 := fp_val0.1 r0
      have ePQ : P = Q := jr_same crvP ha hb n1 n2 eh.symm er.symm h0 r0
      conv => whnf
      refine S_rtwice oP ha (fun q hq => ?_)
      conv => whnf
      exact ⟨⟨q, ePQ ▸ hq, rfl⟩, flat_jA⟩
    · rw [if_neg (fun h => r0 (fp_val0.2 h))] at key
      conv => whnf
      refine S_rInf ?_
      conv => whnf
      refine S_up (P := .inf) (fun q hq => ?_)
      conv => whnf
      subst hq
      exact ⟨⟨_, key, rfl⟩, flat_jA⟩
  · rw [if_neg (fun h => h0 (fp_val0.2 h))] at key
    conv => whnf
    clear eh er
    refine S_rmul (fun hh e_hh => ?_)
    conv => whnf
    repeat (refine ⟨⟨[], rfl⟩, ?_⟩; conv => whnf)
    refine S_rmul (fun hhh e_hhh => ?_)
    conv => whnf
    repeat (refine ⟨⟨[], rfl⟩, ?_⟩; conv => whnf)
    refine S_rmul (fun v e_v => ?_)
    conv => whnf
    repeat (refine ⟨⟨[], rfl⟩, ?_⟩; conv => whnf)
    refine S_rmul (fun r2 e_r2 => ?_)
    conv => whnf
    repeat (refine ⟨⟨[], rfl⟩, ?_⟩; conv => whnf)
    refine S_rsub (fun x0 e_x0 => ?_)
    conv => whnf
    repeat (refine ⟨⟨[], rfl⟩, ?_⟩; conv => whnf)
    refine S_radd (fun v2 e_v2 => ?_)
    conv => whnf
    repeat (refine ⟨⟨[], rfl⟩, ?_⟩; conv => whnf)
    refine S_rsub (fun x e_x => ?_)
    conv => whnf
    repeat (refine ⟨⟨[], rfl⟩, ?_⟩; conv => whnf)
    refine S_rsub (fun d e_d => ?_)
    conv => whnf
    repeat (refine ⟨⟨[], rfl⟩, ?_⟩; conv => whnf)
    refine S_rmul (fun rd e_rd => ?_)
    conv => whnf
    repeat (refine ⟨⟨[], rfl⟩, ?_⟩; conv => whnf)
    refine S_rmul (fun sh e_sh => ?_)
    conv => whnf
    repeat (refine ⟨⟨[], rfl⟩, ?_⟩; conv => whnf)
    refine S_rsub (fun y e_y => ?_)
    conv => whnf
    repeat (refine ⟨⟨[], rfl⟩, ?_⟩; conv => whnf)
    refine S_rmul (fun zz e_zz => ?_)
    conv => whnf
    repeat (refine ⟨⟨[], rfl⟩, ?_⟩; conv => whnf)
    refine S_rmul (fun z e_z => ?_)
    conv => whnf
    repeat (refine ⟨⟨[], rfl⟩, ?_⟩; conv => whnf)
    show (∃ r, JRel r (padd P Q) ∧ jA ⟨x, y, z⟩ = jA r) ∧ Flat true (jA ⟨x, y, z⟩)
    refine ⟨⟨⟨x, y, z⟩, ?_, rfl⟩, flat_jA⟩
    have ex : x = r * r - h * h * h - 2 * (ua * (h * h)) := by subst e_x e_v2 e_x0 e_r2 e_v e_hhh e_hh; clear e_h e_r key ha hb; grind
    rw [← ex] at key
    subst e_y e_sh e_rd e_d e_z e_zz e_v e_hhh e_hh
    exact key
theorem S_rplus {m : Mem} {K : AV → Mem → Prop} {a b : J} {P Q : Pt Fp} (oP : On P) (oQ : On Q) (ha : JRel a P) (hb : JRel b Q) (h : ∀ r, JRel r (padd P Q) → K (jA r) m) : ACall Pg F_witanref01_plus [jA a, jA b] m K := by
  refine lift_flat (S_rplus0 a b P Q oP oQ ha hb) (.cons _ _ _ _ (lend_flat flat_jA) (.cons _ _ _ _ (lend_flat flat_jA) .nil)) ?_
  rintro v ⟨r, h1, rfl⟩
  exact h r h1

end Go.Proofs.Ytmngdaeogbjpiaa
end

section
/- The reference's multiples, sums, counterparts of points, and what is one; no condition. -/
set_option linter.unusedVariables false
set_option linter.unusedSimpArgs false
set_option maxRecDepth 100000
set_option pp.maxSteps 1500
namespace Go.Proofs.Ytmngdaeogbjpiaa
open Go Go.Wit

theorem flat_ptG {nv : Bool} {P : Pt Fp} {i : Nat} : Flat nv ((rawL (isI P) (xN P) (yN P)).getD i .un) := by
  unfold rawL
  match i with
  | 0 => exact .bool _
  | 1 => exact .int _ _
  | 2 => exact .int _ _
  | 3 => exact .int _ _
  | 4 => exact .int _ _
  | 5 => exact .int _ _
  | 6 => exact .int _ _
  | 7 => exact .int _ _
  | 8 => exact .int _ _
  | i + 9 => simp; exact .un
theorem S_rtimes0 (n : Nat) (P : Pt Fp) (hn : n < w256) (oP : On P) : ACall Pg F_witanref01_times [numA n, ptA P] [] (fun v _ => (∃ r, JRel r (nmul n P) ∧ v = jA r) ∧ Flat true v) := by
  refine B_witanref01_times ⟨rfl, ?_⟩
  conv => whnf
  refine S_rInf ?_
  conv => whnf
  refine S_up (P := .inf) (fun j0 hj0 => ?_)
  have hj1 : JRel j0 .inf := by rw [hj0]; exact spr_rel .inf
  clear hj0
  conv => whnf
  refine loop_wk mixed (I := fun q l m => ∃ (v : Int) (b : J), l = [(2, .ptr 0 0 0), (3, .ptr 1 0 0), (4, .ptr 2 0 0), (5, .ptr 3 0 0), (6, .int .i64 v)] ∧ m = [some ⟨1, 4, lstG 1 (numL n)⟩, some ⟨9, 1, lstG 9 (rawL (isI P) (xN P) (yN P))⟩, some ⟨12, 1, lstG 12 z12⟩, some ⟨12, 1, lstG 12 (jL b)⟩] ∧
      v = (q : Int) - 1 ∧ q ≤ 256 ∧ JRel b (nmul (n / 2 ^ q) P)) 256
    (l0 := [(2, .ptr 0 0 0), (3, .ptr 1 0 0), (4, .ptr 2 0 0), (5, .ptr 3 0 0), (6, .int .i64 255)]) (m0 := [some ⟨1, 4, lstG 1 (numL n)⟩, some ⟨9, 1, lstG 9 (rawL (isI P) (xN P) (yN P))⟩, some ⟨12, 1, lstG 12 z12⟩, some ⟨12, 1, lstG 12 (jL j0)⟩])
    [some 0, some 1, some 2, some 3] ⟨_, j0, rfl, rfl, rfl, Nat.le_refl _, by rw [Nat.div_eq_of_lt hn]; exact hj1⟩ ?_ ?_
  · refine .mk0 ⟨.ptr _ _ _ _ rfl, .ptr _ _ _ _ rfl, .ptr _ _ _ _ rfl, .ptr _ _ _ _ rfl, Flat.i rfl, trivial⟩ ⟨.old 0 0 _ _ rfl rfl ⟨rfl, Nat.le_refl _, fun i j hi hj => .eq _ _ rfl flat_numG⟩, .old 1 1 _ _ rfl rfl ⟨rfl, Nat.le_refl _, fun i j hi hj => .eq _ _ rfl flat_ptG⟩,
      .old 2 2 _ _ rfl rfl ⟨rfl, Nat.le_refl _, fun i j hi hj => ?_⟩, .old 3 3 _ _ rfl rfl ⟨rfl, Nat.le_refl _, fun i j hi hj => .eq _ _ rfl flat_jG⟩, trivial⟩ rfl rfl
    · have hj : j < 12 := hj
      have hi : i < 1 := hi
      obtain rfl : i = 0 := by omega
      have : j = 0 ∨ j = 1 ∨ j = 2 ∨ j = 3 ∨ j = 4 ∨ j = 5 ∨ j = 6 ∨ j = 7 ∨ j = 8 ∨ j = 9 ∨ j = 10 ∨ j = 11 := by omega
      rcases this with rfl | rfl | rfl | rfl | rfl | rfl | rfl | rfl | rfl | rfl | rfl | rfl <;> exact .eq _ _ rfl (.int _ _)
  · rintro q l m ⟨v, b, rfl, rfl, hv, hq, hb⟩
    conv => whnf
    refine condB_mk (fun hc => ?_) (fun hc => ?_)
    · have hc : v ≥ 0 := of_decide_eq_true hc
      obtain ⟨t, rfl⟩ : ∃ t, q = t + 1 := ⟨q - 1, by omega⟩
      obtain rfl : v = (t : Int) := by omega
      conv => whnf
      refine S_rtwice (a := b) (oP.nmul crvP _) hb (fun r hr0 => ?_)
      conv => whnf
      have hr2 : JRel r (nmul (2 * (n / 2 ^ (t + 1))) P) := by rw [Nat.two_mul, nmul_add crvP oP]; exact hr0
      refine S_RBit (by omega) (fun c hcc => ?_)
      conv => whnf
      have ee := half_bit n t
      have e5 : IntKind.i64.wrap ((t : Int) - 1) = (t : Int) - 1 := w64 (by omega) (by omega)
      rcases bit_lt (n / 2 ^ t) with hz | hz
      · obtain rfl : c = 0 := by omega
        conv => whnf
        refine ⟨t, _, _, [some 0, some 1, some 2, some 3], Nat.lt_succ_self _, ⟨(t : Int) - 1, r, rfl, rfl, rfl, by omega, by rw [ee, hz]; exact hr2⟩, ?_⟩
        refine .mk0 ⟨.ptr _ _ _ _ rfl, .ptr _ _ _ _ rfl, .ptr _ _ _ _ rfl, .ptr _ _ _ _ rfl, Flat.i e5, trivial⟩ ⟨.old 0 0 _ _ rfl rfl ⟨rfl, Nat.le_refl _, fun i j hi hj => .eq _ _ rfl flat_numG⟩, .old 1 1 _ _ rfl rfl ⟨rfl, Nat.le_refl _, fun i j hi hj => .eq _ _ rfl flat_ptG⟩,
          .old 2 2 _ _ rfl rfl ⟨rfl, Nat.le_refl _, fun i j hi hj => .eq _ _ rfl flat_z12⟩, .old 3 3 _ _ rfl rfl ⟨rfl, Nat.le_refl _, fun i j hi hj => .eq _ _ rfl flat_jG⟩, trivial⟩ rfl rfl
      · obtain rfl : c = 1 := by omega
        conv => whnf
        refine S_up (P := P) (fun a ha => ?_)
        conv => whnf
        repeat (refine ⟨⟨[], rfl⟩, ?_⟩; conv => whnf)
        subst ha
        refine S_rplus (oP.nmul crvP _) oP hr2 (spr_rel P) (fun s hs0 => ?_)
        conv => whnf
        repeat (refine ⟨⟨[], rfl⟩, ?_⟩; conv => whnf)
        refine ⟨t, _, _, [some 0, some 1, some 2, some 3], Nat.lt_succ_self _, ⟨(t : Int) - 1, s, rfl, rfl, rfl, by omega, by rw [ee, hz]; exact hs0⟩, ?_⟩
        refine .mk0 ⟨.ptr _ _ _ _ rfl, .ptr _ _ _ _ rfl, .ptr _ _ _ _ rfl, .ptr _ _ _ _ rfl, Flat.i e5, trivial⟩ ⟨.old 0 0 _ _ rfl rfl ⟨rfl, Nat.le_refl _, fun i j hi hj => .eq _ _ rfl flat_numG⟩, .old 1 1 _ _ rfl rfl ⟨rfl, Nat.le_refl _, fun i j hi hj => .eq _ _ rfl flat_ptG⟩,
          .old 2 2 _ _ rfl rfl ⟨rfl, Nat.le_refl _, fun i j hi hj => .eq _ _ rfl flat_z12⟩, .old 3 3 _ _ rfl rfl ⟨rfl, Nat.le_refl _, fun i j hi hj => .eq _ _ rfl flat_jG⟩, trivial⟩ rfl rfl
    · have hc : ¬ v ≥ 0 := of_decide_eq_false hc
      obtain rfl : q = 0 := by omega
      conv => whnf
      rw [Nat.pow_zero, Nat.div_one] at hb
      exact ⟨⟨b, hb, rfl⟩, flat_jA⟩
theorem S_rtimes {m : Mem} {K : AV → Mem → Prop} {P : Pt Fp} {n : Nat} (hn : n < w256) (oP : On P) (h : ∀ r, JRel r (nmul n P) → K (jA r) m) : ACall Pg F_witanref01_times [numA n, ptA P] m K := by
  refine lift_flat (S_rtimes0 n P hn oP) (.cons _ _ _ _ lend_numA (.cons _ _ _ _ (lend_flat flat_ptA) .nil)) ?_
  rintro v ⟨r, h1, rfl⟩
  exact h r h1
theorem S_rTimes {m : Mem} {K : AV → Mem → Prop} {n : Nat} {P : Pt Fp} (hn : n < w256) (oP : On P) (h : K (ptA (nmul n P)) m) : ACall Pg F_witanref01_Times [numA n, ptA P] m K := by
  have h0 : ACall Pg F_witanref01_Times [numA n, ptA P] [] (fun v _ => v = ptA (nmul n P) ∧ Flat true v) := by
    refine B_witanref01_Times ⟨rfl, ?_⟩
    conv => whnf
    refine S_rtimes (P := P) hn oP (fun r hr => ?_)
    conv => whnf
    refine S_down hr ?_
    conv => whnf
    exact ⟨rfl, flat_ptA⟩
  refine lift_flat h0 (.cons _ _ _ _ lend_numA (.cons _ _ _ _ (lend_flat flat_ptA) .nil)) ?_
  rintro v rfl
  exact h
theorem S_rG {m : Mem} {K : AV → Mem → Prop} (h : K (ptA gG) m) : ACall Pg F_witanref01_G [] m K := by
  have h0 : ACall Pg F_witanref01_G [] [] (fun v _ => v = ptA gG ∧ Flat true v) := by
    refine B_witanref01_G ⟨rfl, ?_⟩
    conv => whnf
    rw [G_lim]
    exact ⟨rfl, G_lim ▸ flat_ptA⟩
  refine lift_flat h0 .nil ?_
  rintro v rfl
  exact h
theorem S_rBase {m : Mem} {K : AV → Mem → Prop} {n : Nat} (hn : n < w256) (h : K (ptA (nmul n gG)) m) : ACall Pg F_witanref01_Base [numA n] m K := by
  have h0 : ACall Pg F_witanref01_Base [numA n] [] (fun v _ => v = ptA (nmul n gG) ∧ Flat true v) := by
    refine B_witanref01_Base ⟨rfl, ?_⟩
    conv => whnf
    refine S_rG ?_
    generalize hG : gG = G
    have oG : On G := hG ▸ on_G
    conv => whnf
    repeat (refine ⟨⟨[], rfl⟩, ?_⟩; conv => whnf)
    refine S_rTimes (P := G) hn oG ?_
    conv => whnf
    repeat (refine ⟨⟨[], rfl⟩, ?_⟩; conv => whnf)
    exact ⟨rfl, flat_ptA⟩
  refine lift_flat h0 (.cons _ _ _ _ lend_numA .nil) ?_
  rintro v rfl
  exact h
theorem S_rSum {m : Mem} {K : AV → Mem → Prop} {P Q : Pt Fp} (oP : On P) (oQ : On Q) (h : K (ptA (padd P Q)) m) : ACall Pg F_witanref01_Sum [ptA P, ptA Q] m K := by
  have h0 : ACall Pg F_witanref01_Sum [ptA P, ptA Q] [] (fun v _ => v = ptA (padd P Q) ∧ Flat true v) := by
    refine B_witanref01_Sum ⟨rfl, ?_⟩
    conv => whnf
    refine S_up (P := P) (fun p hp => ?_)
    conv => whnf
    repeat (refine ⟨⟨[], rfl⟩, ?_⟩; conv => whnf)
    refine S_up (P := Q) (fun q hq => ?_)
    conv => whnf
    repeat (refine ⟨⟨[], rfl⟩, ?_⟩; conv => whnf)
    subst hp hq
    refine S_rplus oP oQ (spr_rel P) (spr_rel Q) (fun r hr => ?_)
    conv => whnf
    repeat (refine ⟨⟨[], rfl⟩, ?_⟩; conv => whnf)
    refine S_down hr ?_
    conv => whnf
    repeat (refine ⟨⟨[], rfl⟩, ?_⟩; conv => whnf)
    exact ⟨rfl, flat_ptA⟩
  refine lift_flat h0 (.cons _ _ _ _ (lend_flat flat_ptA) (.cons _ _ _ _ (lend_flat flat_ptA) .nil)) ?_
  rintro v rfl
  exact h
theorem S_rTwo {m : Mem} {K : AV → Mem → Prop} {n k : Nat} {P Q : Pt Fp} (hn : n < w256) (hk : k < w256) (oP : On P) (oQ : On Q) (h : K (ptA (padd (nmul n P) (nmul k Q))) m) : ACall Pg F_witanref01_Two [numA n, ptA P, numA k, ptA Q] m K := by
  have h0 : ACall Pg F_witanref01_Two [numA n, ptA P, numA k, ptA Q] [] (fun v _ => v = ptA (padd (nmul n P) (nmul k Q)) ∧ Flat true v) := by
    refine B_witanref01_Two ⟨rfl, ?_⟩
    conv => whnf
    refine S_rtimes (P := P) hn oP (fun r hr => ?_)
    conv => whnf
    repeat (refine ⟨⟨[], rfl⟩, ?_⟩; conv => whnf)
    refine S_rtimes (P := Q) hk oQ (fun s hs => ?_)
    conv => whnf
    repeat (refine ⟨⟨[], rfl⟩, ?_⟩; conv => whnf)
    refine S_rplus (oP.nmul crvP n) (oQ.nmul crvP k) hr hs (fun t ht => ?_)
    conv => whnf
    repeat (refine ⟨⟨[], rfl⟩, ?_⟩; conv => whnf)
    refine S_down ht ?_
    conv => whnf
    repeat (refine ⟨⟨[], rfl⟩, ?_⟩; conv => whnf)
    exact ⟨rfl, flat_ptA⟩
  refine lift_flat h0 (.cons _ _ _ _ lend_numA (.cons _ _ _ _ (lend_flat flat_ptA) (.cons _ _ _ _ lend_numA (.cons _ _ _ _ (lend_flat flat_ptA) .nil)))) ?_
  rintro v rfl
  exact h
theorem S_rNeg {m : Mem} {K : AV → Mem → Prop} {P : Pt Fp} (h : K (ptA P.neg) m) : ACall Pg F_witanref01_Neg [ptA P] m K := by
  have h0 : ACall Pg F_witanref01_Neg [ptA P] [] (fun v _ => v = ptA P.neg ∧ Flat true v) := by
    cases P with
    | inf =>
      refine B_witanref01_Neg ⟨rfl, ?_⟩
      conv => whnf
      show rawA true 0 0 = _ ∧ Flat true (rawA true 0 0)
      exact ⟨rfl, flat_rawA⟩
    | aff x y =>
      refine B_witanref01_Neg ⟨rfl, ?_⟩
      conv => whnf
      refine S_rsub (x := 0) (y := y) (fun r hr => ?_)
      conv => whnf
      show rawA false x.val r.val = rawA false x.val (-y).val ∧ Flat true (rawA false x.val r.val)
      rw [hr, zero_sub_fp]
      exact ⟨rfl, flat_rawA⟩
  refine lift_flat h0 (.cons _ _ _ _ (lend_flat flat_ptA) .nil) ?_
  rintro v rfl
  exact h

theorem S_rCheck0 (i : Bool) (x y : Nat) (hx : x < w256) (hy : y < w256) : ACall Pg F_witanref01_Check [rawA i x y] [] (fun v _ => ((∃ P, On P ∧ rawA i x y = ptA P ∧ v = .bool true) ∨ (Bad i x y ∧ v = .bool false)) ∧ Flat true v) := by
  refine B_witanref01_Check ⟨rfl, ?_⟩
  cases i with
  | true =>
    conv => whnf
    refine c_eqz_t hx (fun h1 => ?_) (fun h1 => ?_)
    · conv => whnf
      by_cases h2 : y = 0
      · subst h1 h2
        exact ⟨.inl ⟨.inf, trivial, rfl, rfl⟩, .bool _⟩
      · refine ⟨.inr ⟨fun P oP e => ?_, ?_⟩, .bool _⟩
        · obtain ⟨e1, e2, e3⟩ := rawA_inj hx hy (xN_w P) (yN_w P) e
          cases P with
          | inf => exact h2 e3
          | aff u v => cases e1
        · show AV.bool (eqZ y) = .bool false
          rw [eqZ_iff hy, decide_eq_false h2]
    · conv => whnf
      refine ⟨.inr ⟨fun P oP e => ?_, rfl⟩, .bool _⟩
      obtain ⟨e1, e2, e3⟩ := rawA_inj hx hy (xN_w P) (yN_w P) e
      cases P with
      | inf => exact h1 e2
      | aff u v => cases e1
  | false =>
    have bad : ∀ {P}, On P → rawA false x y = ptA P → x < pP ∧ y < pP := fun {P} oP e => by
      obtain ⟨e1, e2, e3⟩ := rawA_inj hx hy (xN_w P) (yN_w P) e
      exact ⟨e2 ▸ xN_lt P, e3 ▸ yN_lt P⟩
    conv => whnf
    refine S_RPrime_0 (fun p hp => ?_)
    conv => whnf
    repeat (refine ⟨⟨[], rfl⟩, ?_⟩; conv => whnf)
    refine S_RCmp hx (by rw [hp]; decide) (fun r hr => ?_)
    conv => whnf
    repeat (refine ⟨⟨[], rfl⟩, ?_⟩; conv => whnf)
    rcases cmpZ_or hr with ⟨h1, rfl⟩ | ⟨h1, rfl | rfl⟩
    rotate_left
    · conv => whnf
      repeat (refine ⟨⟨[], rfl⟩, ?_⟩; conv => whnf)
      exact ⟨.inr ⟨fun P oP e => by have := (bad oP e).1; omega, rfl⟩, .bool _⟩
    · conv => whnf
      repeat (refine ⟨⟨[], rfl⟩, ?_⟩; conv => whnf)
      exact ⟨.inr ⟨fun P oP e => by have := (bad oP e).1; omega, rfl⟩, .bool _⟩
    conv => whnf
    refine S_RPrime_0 (fun p2 hp2 => ?_)
    obtain rfl : p2 = p := hp2.trans hp.symm
    conv => whnf
    repeat (refine ⟨⟨[], rfl⟩, ?_⟩; conv => whnf)
    refine S_RCmp hy (by rw [hp]; decide) (fun r hr => ?_)
    conv => whnf
    repeat (refine ⟨⟨[], rfl⟩, ?_⟩; conv => whnf)
    rcases cmpZ_or hr with ⟨h2, rfl⟩ | ⟨h2, rfl | rfl⟩
    rotate_left
    · conv => whnf
      repeat (refine ⟨⟨[], rfl⟩, ?_⟩; conv => whnf)
      exact ⟨.inr ⟨fun P oP e => by have := (bad oP e).2; omega, rfl⟩, .bool _⟩
    · conv => whnf
      repeat (refine ⟨⟨[], rfl⟩, ?_⟩; conv => whnf)
      exact ⟨.inr ⟨fun P oP e => by have := (bad oP e).2; omega, rfl⟩, .bool _⟩
    conv => whnf
    obtain ⟨X, rfl⟩ : ∃ X : Fp, x = X.val := ⟨⟨x, by omega⟩, rfl⟩
    obtain ⟨Y, rfl⟩ : ∃ Y : Fp, y = Y.val := ⟨⟨y, by omega⟩, rfl⟩
    refine S_rmul (x := Y) (y := Y) (fun yy hyy => ?_)
    conv => whnf
    repeat (refine ⟨⟨[], rfl⟩, ?_⟩; conv => whnf)
    refine S_rmul (x := X) (y := X) (fun xx hxx => ?_)
    conv => whnf
    repeat (refine ⟨⟨[], rfl⟩, ?_⟩; conv => whnf)
    refine S_rmul (x := xx) (y := X) (fun x3 hx3 => ?_)
    conv => whnf
    repeat (refine ⟨⟨[], rfl⟩, ?_⟩; conv => whnf)
    refine S_radd (x := x3) (y := 7) (fun rr hrr => ?_)
    conv => whnf
    repeat (refine ⟨⟨[], rfl⟩, ?_⟩; conv => whnf)
    subst hxx hx3
    show ((∃ P, On P ∧ rawA false X.val Y.val = ptA P ∧ AV.bool (eqX yy.val rr.val) = .bool true) ∨ (Bad false X.val Y.val ∧ AV.bool (eqX yy.val rr.val) = .bool false)) ∧ Flat true (AV.bool (eqX yy.val rr.val))
    refine ⟨?_, .bool _⟩
    rw [eqX_iff (fp_w yy) (fp_w rr)]
    by_cases e : yy.val = rr.val
    · have e' : yy = rr := Fin.ext e
      exact .inl ⟨.aff X Y, by show Y * Y = X * X * X + 7; rw [← hyy, ← hrr, e'], rfl, by rw [decide_eq_true e]⟩
    · refine .inr ⟨fun P oP e2 => ?_, by rw [decide_eq_false e]⟩
      obtain ⟨e3, e4, e5⟩ := rawA_inj hx hy (xN_w P) (yN_w P) e2
      cases P with
      | inf => cases e3
      | aff u v =>
        obtain rfl : X = u := Fin.ext e4
        obtain rfl : Y = v := Fin.ext e5
        exact e (congrArg Fin.val ((hyy.trans oP).trans hrr.symm))
theorem S_rCheck {m : Mem} {K : AV → Mem → Prop} {i : Bool} {x y : Nat} (hx : x < w256) (hy : y < w256) (h1 : ∀ P, On P → rawA i x y = ptA P → K (.bool true) m) (h2 : Bad i x y → K (.bool false) m) : ACall Pg F_witanref01_Check [rawA i x y] m K := by
  refine lift_flat (S_rCheck0 i x y hx hy) (.cons _ _ _ _ (lend_flat flat_rawA) .nil) ?_
  rintro v (⟨P, oP, e, rfl⟩ | ⟨hb, rfl⟩)
  · exact h1 P oP e
  · exact h2 hb
theorem S_rCheck_ok {m : Mem} {K : AV → Mem → Prop} {P : Pt Fp} (oP : On P) (h : K (.bool true) m) : ACall Pg F_witanref01_Check [ptA P] m K :=
  S_rCheck (xN_w P) (yN_w P) (fun _ _ _ => h) (fun hb => absurd rfl (hb P oP))
theorem S_rCheck_bad {m : Mem} {K : AV → Mem → Prop} {i : Bool} {x y : Nat} (hx : x < w256) (hy : y < w256) (hb : Bad i x y) (h : K (.bool false) m) : ACall Pg F_witanref01_Check [rawA i x y] m K :=
  S_rCheck hx hy (fun P oP e => absurd e (hb P oP)) (fun _ => h)
theorem raw_cases (i : Bool) (x y : Nat) : (∃ P, On P ∧ rawA i x y = ptA P) ∨ Bad i x y := by
  by_cases h : ∃ P, On P ∧ rawA i x y = ptA P
  · exact .inl h
  · exact .inr fun P oP e => h ⟨P, oP, e⟩

end Go.Proofs.Ytmngdaeogbjpiaa
end

section
/- What laws of points are handed; comparisons of points; no condition. -/
set_option linter.unusedVariables false
set_option linter.unusedSimpArgs false
set_option maxRecDepth 100000
set_option pp.maxSteps 1500
namespace Go.Proofs.Ytmngdaeogbjpiaa
open Go Go.Wit

abbrev tNum : Ty := .arr 4 (.int .u64)
abbrev tPoint : Ty := .st [.bool, .arr 4 (.int .u64), .arr 4 (.int .u64)]

theorem list4 {l : List AV} (h : l.length = 4) : ∃ a b c d, l = [a, b, c, d] := by
  match l, h with
  | [a, b, c, d], _ => exact ⟨a, b, c, d, rfl⟩
theorem ok_cells4 {cs : List AV} (h : okC tNum cs) : ∃ n, n < w256 ∧ cs = numL n := by
  unfold okC at h
  obtain ⟨h1, h2⟩ := h
  obtain ⟨a, b, c, d, rfl⟩ := list4 (by simpa [Ty.size] using h1)
  have e0 := h2 0 (by decide)
  have e1 := h2 1 (by decide)
  have e2 := h2 2 (by decide)
  have e3 := h2 3 (by decide)
  simp only [Ty.size, okC, List.drop, List.take] at e0 e1 e2 e3
  obtain ⟨n0, g0, k0, l0⟩ := e0
  obtain ⟨n1, g1, k1, l1⟩ := e1
  obtain ⟨n2, g2, k2, l2⟩ := e2
  obtain ⟨n3, g3, k3, l3⟩ := e3
  have mx : IntKind.u64.max = 18446744073709551615 := rfl
  have mn : IntKind.u64.min = 0 := rfl
  rw [mx] at l0 l1 l2 l3
  rw [mn] at k0 k1 k2 k3
  obtain ⟨x0, rfl⟩ := Int.eq_ofNat_of_zero_le k0
  obtain ⟨x1, rfl⟩ := Int.eq_ofNat_of_zero_le k1
  obtain ⟨x2, rfl⟩ := Int.eq_ofNat_of_zero_le k2
  obtain ⟨x3, rfl⟩ := Int.eq_ofNat_of_zero_le k3
  refine ⟨comb x0 x1 x2 x3, comb_lt (by omega) (by omega) (by omega) (by omega), ?_⟩
  rw [numL_comb (by omega) (by omega) (by omega) (by omega)]
  have g0 := List.head_eq_of_cons_eq g0
  have g1 := List.head_eq_of_cons_eq g1
  have g2 := List.head_eq_of_cons_eq g2
  have g3 := List.head_eq_of_cons_eq g3
  subst g0 g1 g2 g3
  rfl
theorem ok_num {av : AV} (h : okV tNum av) : ∃ n, n < w256 ∧ av = numA n := by
  obtain ⟨cs, rfl, h1⟩ := h
  obtain ⟨n, hn, rfl⟩ := ok_cells4 h1
  exact ⟨n, hn, rfl⟩
theorem ok_cells9 {cs : List AV} (h : okC tPoint cs) : ∃ i x y, x < w256 ∧ y < w256 ∧ cs = rawL i x y := by
  simp only [okC, okCs] at h
  obtain ⟨a, b, rfl, l1, ⟨i, rfl⟩, c, d, rfl, l2, h2, e, f, rfl, l3, h3, rfl⟩ := h
  obtain ⟨x, hx, rfl⟩ := ok_cells4 (by simpa only [okC] using h2)
  obtain ⟨y, hy, rfl⟩ := ok_cells4 (by simpa only [okC] using h3)
  exact ⟨i, x, y, hx, hy, rfl⟩
theorem ok_point {av : AV} (h : okV tPoint av) : ∃ i x y, x < w256 ∧ y < w256 ∧ av = rawA i x y := by
  obtain ⟨cs, rfl, h1⟩ := h
  obtain ⟨i, x, y, hx, hy, rfl⟩ := ok_cells9 h1
  exact ⟨i, x, y, hx, hy, rfl⟩

theorem c_eq_t {a b : Nat} {p q : Prop} (ha : a < w256) (hb : b < w256) (hp : a = b → p) (hq : a ≠ b → q) : condB ((bif false then !(eqX a b) else eqX a b) == true) p q := by
  rw [eqX_iff ha hb]
  by_cases h : a = b
  · rw [decide_eq_true h]; exact hp h
  · rw [decide_eq_false h]; exact hq h
theorem S_kPoint0 (i j : Bool) (x y u v : Nat) (hx : x < w256) (hy : y < w256) (hu : u < w256) (hv : v < w256) : ACall Pg F_witankeep_Point [rawA i x y, rawA j u v] [] (fun r _ => ((i = j ∧ x = u ∧ y = v ∧ r = .bool true) ∨ (¬ (i = j ∧ x = u ∧ y = v) ∧ r = .bool false)) ∧ Flat true r) := by
  refine B_witankeep_Point ⟨rfl, ?_⟩
  conv => whnf
  refine condB_mk (p := _) (q := _) (fun h => ?_) (fun h => ?_)
  · conv => whnf
    refine c_eq_t hx hu (fun h1 => ?_) (fun h1 => ?_)
    · conv => whnf
      have hij : i = j := by cases i <;> cases j <;> first | rfl | exact absurd h (by decide)
      show ((i = j ∧ x = u ∧ y = v ∧ AV.bool (eqX y v) = .bool true) ∨ (¬ (i = j ∧ x = u ∧ y = v) ∧ AV.bool (eqX y v) = .bool false)) ∧ Flat true (AV.bool (eqX y v))
      refine ⟨?_, .bool _⟩
      rw [eqX_iff hy hv]
      by_cases e : y = v
      · exact .inl ⟨hij, h1, e, by rw [decide_eq_true e]⟩
      · exact .inr ⟨fun h => e h.2.2, by rw [decide_eq_false e]⟩
    · conv => whnf
      exact ⟨.inr ⟨fun h => h1 h.2.1, rfl⟩, .bool _⟩
  · conv => whnf
    refine ⟨.inr ⟨fun h1 => ?_, rfl⟩, .bool _⟩
    obtain ⟨rfl, -, -⟩ := h1
    revert h
    cases i <;> decide
theorem S_kPoint {m : Mem} {K : AV → Mem → Prop} {i j : Bool} {x y u v : Nat} (hx : x < w256) (hy : y < w256) (hu : u < w256) (hv : v < w256) (h1 : i = j → x = u → y = v → K (.bool true) m) (h2 : ¬ (i = j ∧ x = u ∧ y = v) → K (.bool false) m) : ACall Pg F_witankeep_Point [rawA i x y, rawA j u v] m K := by
  refine lift_flat (S_kPoint0 i j x y u v hx hy hu hv) (.cons _ _ _ _ (lend_flat flat_rawA) (.cons _ _ _ _ (lend_flat flat_rawA) .nil)) ?_
  rintro r (⟨a, b, c, rfl⟩ | ⟨a, rfl⟩)
  · exact h1 a b c
  · exact h2 a
/-- One point twice. -/
theorem S_kPoint_eq {m : Mem} {K : AV → Mem → Prop} {i : Bool} {x y : Nat} (hx : x < w256) (hy : y < w256) (h : K (.bool true) m) : ACall Pg F_witankeep_Point [rawA i x y, rawA i x y] m K :=
  S_kPoint hx hy hx hy (fun _ _ _ => h) (fun hn => absurd ⟨rfl, rfl, rfl⟩ hn)
theorem S_kPt_eq {m : Mem} {K : AV → Mem → Prop} {P : Pt Fp} (h : K (.bool true) m) : ACall Pg F_witankeep_Point [ptA P, ptA P] m K := S_kPoint_eq (xN_w P) (yN_w P) h
theorem S_kPt {m : Mem} {K : AV → Mem → Prop} {P Q : Pt Fp} (h1 : P = Q → K (.bool true) m) (h2 : P ≠ Q → K (.bool false) m) : ACall Pg F_witankeep_Point [ptA P, ptA Q] m K :=
  S_kPoint (xN_w P) (yN_w P) (xN_w Q) (yN_w Q) (fun a b c => h1 (ptA_inj (by rw [ptA, ptA, a, b, c]))) (fun hn => h2 fun e => hn (by subst e; exact ⟨rfl, rfl, rfl⟩))

/-- The same calls, with what they make as a point of its own. -/
theorem T_Base {m : Mem} {K : AV → Mem → Prop} {n : Nat} (hn : n < w256) (h : ∀ P, On P → P = nmul n gG → K (ptA P) m) : ACall Pg F_curve_Base [numA n] m K :=
  S_Base hn (h _ (on_G.nmul crvP n) rfl)
theorem T_Add {m : Mem} {K : AV → Mem → Prop} {P Q : Pt Fp} (oP : On P) (oQ : On Q) (h : ∀ R, On R → R = padd P Q → K (.tup [ptA R, .int .i64 0]) m) : ACall Pg F_curve_Add [ptA P, ptA Q] m K :=
  S_Add oP oQ (h _ (oP.add crvP oQ) rfl)
theorem T_Neg {m : Mem} {K : AV → Mem → Prop} {P : Pt Fp} (oP : On P) (h : ∀ R, On R → R = P.neg → K (.tup [ptA R, .int .i64 0]) m) : ACall Pg F_curve_Neg [ptA P] m K :=
  S_Neg oP (h _ oP.neg rfl)
theorem T_Times {m : Mem} {K : AV → Mem → Prop} {n : Nat} {P : Pt Fp} (hn : n < w256) (oP : On P) (h : ∀ R, On R → R = nmul n P → K (.tup [ptA R, .int .i64 0]) m) : ACall Pg F_curve_Times [numA n, ptA P] m K :=
  S_Times hn oP (h _ (oP.nmul crvP n) rfl)
theorem T_Two {m : Mem} {K : AV → Mem → Prop} {n k : Nat} {P Q : Pt Fp} (hn : n < w256) (hk : k < w256) (oP : On P) (oQ : On Q) (h : ∀ R, On R → R = padd (nmul n P) (nmul k Q) → K (.tup [ptA R, .int .i64 0]) m) : ACall Pg F_curve_Two [numA n, ptA P, numA k, ptA Q] m K :=
  S_Two hn hk oP oQ (h _ ((oP.nmul crvP n).add crvP (oQ.nmul crvP k)) rfl)
theorem nmul_one' (P : Pt Fp) : nmul 1 P = P := by show padd .inf P = P; exact inf_padd P

theorem S_wakes03 {m : Mem} {K : AV → Mem → Prop} (h : K (.bool true) m) : ACall Pg F_witanlaw03_wakes [] m K := by
  have h0 : ACall Pg F_witanlaw03_wakes [] [] (fun v _ => v = .bool true ∧ Flat true v) := by
    refine B_witanlaw03_wakes ⟨rfl, ?_⟩
    conv => whnf
    refine T_Base (n := 1) (by decide) (fun P oP hP => ?_)
    rw [nmul_one'] at hP
    conv => whnf
    refine S_rG ?_
    rw [← hP]
    conv => whnf
    repeat (refine ⟨⟨[], rfl⟩, ?_⟩; conv => whnf)
    refine S_kPt_eq (P := P) ?_
    conv => whnf
    repeat (refine ⟨⟨[], rfl⟩, ?_⟩; conv => whnf)
    refine T_Base (n := 0) (by decide) (fun Q oQ hQ => ?_)
    obtain rfl : Q = .inf := hQ
    conv => whnf
    repeat (refine ⟨⟨[], rfl⟩, ?_⟩; conv => whnf)
    refine S_Check_ok oP ?_
    conv => whnf
    repeat (refine ⟨⟨[], rfl⟩, ?_⟩; conv => whnf)
    exact ⟨rfl, .bool _⟩
  refine lift_flat h0 .nil ?_
  rintro v rfl
  exact h
end Go.Proofs.Ytmngdaeogbjpiaa
end

