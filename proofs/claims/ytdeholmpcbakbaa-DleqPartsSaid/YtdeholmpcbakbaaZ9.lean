/- Texts of a proof, one behind the other; the last of these: Proofs compared, and that they hold; no condition. -/
import Derived.Test.YtdeholmpcbakbaaZ8
section
/- What is left of long numbers; scalars; no condition. -/
set_option linter.unusedVariables false
set_option linter.unusedSimpArgs false
set_option maxRecDepth 100000
set_option pp.maxSteps 3000
namespace Go.Proofs.Ytdeholmpcbakbaa
open Go Go.Wit

theorem S_LSubE {m : Mem} {x y : AV} {K : AV → Mem → Prop} {a b : Nat} (hx : x = numA a) (hy : y = numA b) (ha : a < w256) (hb : b < w256) (h : ∀ s c : Nat, a + c * w256 = b + s → s < w256 → c ≤ 1 → K (.tup [numA s, .int .u64 c]) m) : ACall Pg F_limb_Sub [x, y] m K := by
  subst hx hy; exact S_LSub ha hb h
theorem S_LCmpE {m : Mem} {x y : AV} {K : AV → Mem → Prop} {a b : Nat} (hx : x = numA a) (hy : y = numA b) (ha : a < w256) (hb : b < w256) (h : ∀ r, r = cmpZ a b → K (.int .i64 r) m) : ACall Pg F_limb_Cmp [x, y] m K := by
  subst hx hy; exact S_LCmp ha hb h
theorem pow64 : (18446744073709551616 : Nat) ^ 3 = 6277101735386680763835789423207666416102355444464034512896 ∧ (18446744073709551616 : Nat) ^ 2 = 340282366920938463463374607431768211456 := by decide
theorem top_eq {r s c : Nat} (hr : r < w256) (hs : s < w256) (hc : c ≤ 1) (e : r + r = s + c * w256) : (lim r 3).fdiv (2 ^ min (Int.toNat 63) IntKind.u64.bits) = (c : Int) := by
  have e1 : (2 : Int) ^ min (Int.toNat 63) IntKind.u64.bits = ((9223372036854775808 : Nat) : Int) := rfl
  rw [e1, Int.fdiv_eq_ediv_of_nonneg _ (by omega)]
  unfold lim
  rw [← Int.natCast_ediv, pow64.1]
  unfold w256 at *
  congr 1
  omega
theorem or_bit {x b : Nat} (hx : x < 18446744073709551616) (h2 : x % 2 = 0) (hb : b ≤ 1) : bitsV .or .u64 (x : Int) (b : Int) = ((x + b : Nat) : Int) := by
  have e : (BitVec.ofInt 64 (x : Int) ||| BitVec.ofInt 64 (b : Int)).toNat = x + b := by
    rw [BitVec.toNat_or, BitVec.toNat_ofInt, BitVec.toNat_ofInt]
    have h1 : ((x : Int) % ((2 ^ 64 : Nat) : Int)).toNat = x := by omega
    have h3 : ((b : Int) % ((2 ^ 64 : Nat) : Int)).toNat = b := by omega
    rw [h1, h3]
    obtain ⟨y, rfl⟩ : ∃ y, x = 2 ^ 1 * y := ⟨x / 2, by omega⟩
    rw [← Nat.two_pow_add_eq_or_of_lt (by omega)]
  show IntKind.u64.wrap ((BitVec.ofInt 64 (x : Int) ||| BitVec.ofInt 64 (b : Int)).toNat : Int) = _
  rw [e, wu64]
  omega
theorem or_lim {s b : Nat} (h2 : s % 2 = 0) (hb : b ≤ 1) : bitsV .or .u64 (lim s 0) (IntKind.u64.wrap (b : Int)) = lim (s + b) 0 := by
  have eb : IntKind.u64.wrap (b : Int) = (b : Int) := by rw [wu64]; omega
  rw [eb]
  unfold lim
  rw [Nat.pow_zero, Nat.div_one, Nat.div_one, or_bit (Nat.mod_lt _ (by decide)) (by omega) hb]
  congr 1
  omega
theorem lim_hi {s b j : Nat} (h2 : s % 2 = 0) (hb : b ≤ 1) : lim (s + b) (j + 1) = lim s (j + 1) := by
  unfold lim
  have e : (s + b) / 18446744073709551616 ^ (j + 1) = s / 18446744073709551616 ^ (j + 1) := by
    rw [Nat.pow_succ, Nat.mul_comm, ← Nat.div_div_eq_div_mul, ← Nat.div_div_eq_div_mul]
    congr 1
    omega
  rw [e]
theorem or_cells {s b : Nat} (h2 : s % 2 = 0) (hb : b ≤ 1) : AV.agg [.int .u64 (bitsV .or .u64 (lim s 0) (IntKind.u64.wrap (b : Int))), .int .u64 (lim s 1), .int .u64 (lim s 2), .int .u64 (lim s 3)] = numA (s + b) := by
  rw [or_lim h2 hb, ← lim_hi (j := 0) h2 hb, ← lim_hi (j := 1) h2 hb, ← lim_hi (j := 2) h2 hb]
  rfl
theorem cell4 {blk : Blk} {a b c d : AV} (h0 : cellG blk 0 0 0 = a) (h1 : cellG blk 0 0 1 = b) (h2 : cellG blk 0 0 2 = c) (h3 : cellG blk 0 0 3 = d) : AV.agg (List.map (cellG blk 0 0) (List.range 4)) = .agg [a, b, c, d] := by
  subst h0 h1 h2 h3; rfl
theorem upd_at {n : Nat} {g : Nat → Nat → AV} {v : AV} : cellG ⟨1, n, updG ⟨1, n, g⟩ 0 0 1 [v]⟩ 0 0 0 = v := by
  show updG ⟨1, n, g⟩ 0 0 1 [v] 0 0 = v
  rw [updG_one, if_pos rfl]
theorem upd_ne {n t : Nat} {g : Nat → Nat → AV} {v w : AV} (e : g (t + 1) 0 = w) : cellG ⟨1, n, updG ⟨1, n, g⟩ 0 0 1 [v]⟩ 0 0 (t + 1) = w := by
  rw [cellG_one, updG_one, if_neg (by omega), Nat.zero_add, e]
theorem or_blk {s b i j : Nat} {nv : Bool} {σ : Nat → Option Nat} {A : AV} (h2 : s % 2 = 0) (hb : b ≤ 1) (hi : i < 4) (hj : j < 1) (hA : A = updG ⟨1, 4, lstG 1 (numL s)⟩ 0 0 1 [.int .u64 (bitsV .or .u64 (lim s 0) (IntKind.u64.wrap (b : Int)))] i j) : RV nv σ A (lstG 1 (numL (s + b)) i j) := by
  subst hA
  obtain rfl : j = 0 := by omega
  have : i = 0 ∨ i = 1 ∨ i = 2 ∨ i = 3 := by omega
  rcases this with rfl | rfl | rfl | rfl
  · exact .eq _ _ (congrArg (AV.int .u64) (or_lim h2 hb)) (.int _ _)
  · exact .eq _ _ (congrArg (AV.int .u64) (lim_hi (j := 0) h2 hb).symm) (.int _ _)
  · exact .eq _ _ (congrArg (AV.int .u64) (lim_hi (j := 1) h2 hb).symm) (.int _ _)
  · exact .eq _ _ (congrArg (AV.int .u64) (lim_hi (j := 2) h2 hb).symm) (.int _ _)
theorem step_mod {V k m : Nat} : V / 2 ^ k % m = (2 * (V / 2 ^ (k + 1) % m) + V / 2 ^ k % 2) % m := by
  rw [Nat.pow_succ, ← Nat.div_div_eq_div_mul]
  generalize V / 2 ^ k = W
  have e : W = 2 * (W / 2) + W % 2 := (Nat.div_add_mod W 2).symm
  conv => lhs; rw [e]
  simp [Nat.add_mod, Nat.mul_mod]
theorem bit_hi {hi lo k : Nat} (h2 : lo < w256) (h : 256 ≤ k) (h5 : k < 512) : (hi * w256 + lo) / 2 ^ k % 2 = hi / 2 ^ (k % 256) % 2 := by
  have e : (2 : Nat) ^ k = w256 * 2 ^ (k % 256) := by
    rw [show w256 = 2 ^ 256 by decide, ← Nat.pow_add]; congr 1; omega
  rw [e, ← Nat.div_div_eq_div_mul]
  congr 2
  rw [Nat.mul_comm, Nat.mul_add_div (by decide), Nat.div_eq_of_lt h2]; rfl
theorem bit_lo {hi lo k : Nat} (h : k < 256) : (hi * w256 + lo) / 2 ^ k % 2 = lo / 2 ^ (k % 256) % 2 := by
  rw [Nat.mod_eq_of_lt h]
  obtain ⟨d, hd⟩ : ∃ d, 256 = k + (d + 1) := ⟨255 - k, by omega⟩
  have e : w256 = 2 ^ k * (2 ^ d * 2) := by rw [← Nat.pow_succ, ← Nat.pow_add, ← hd]
  rw [e, show hi * (2 ^ k * (2 ^ d * 2)) + lo = 2 ^ k * (hi * 2 ^ d * 2) + lo by rw [Nat.mul_left_comm, Nat.mul_assoc], Nat.mul_add_div (Nat.pow_pos (by decide)), Nat.add_comm, Nat.add_mul_mod_self_right]
theorem mod_wrap {r s b c m t d : Nat} (h3 : m < w256) (hr : r < m) (e1 : r + r = s + c * w256) (hs : s < w256) (hc : c = 1) (hb : b ≤ 1) (e2 : s + b + d * w256 = m + t) (ht : t < w256) (hd : d ≤ 1) : t = (2 * r + b) % m := by
  subst hc
  have e : 2 * r + b = t + m := by
    unfold w256 at *
    have : d = 0 ∨ d = 1 := by omega
    rcases this with rfl | rfl <;> omega
  rw [e, Nat.add_mod_right, Nat.mod_eq_of_lt (by unfold w256 at *; omega)]
theorem mod_sub {r s b c m t d : Nat} (hr : r < m) (e1 : r + r = s + c * w256) (hc : c = 0) (hb : b ≤ 1) (hge : m ≤ s + b) (e2 : s + b + d * w256 = m + t) (ht : t < w256) (hd : d ≤ 1) : t = (2 * r + b) % m := by
  subst hc
  have e : 2 * r + b = t + m := by
    unfold w256 at *
    have : d = 0 ∨ d = 1 := by omega
    rcases this with rfl | rfl <;> omega
  rw [e, Nat.add_mod_right, Nat.mod_eq_of_lt (by omega)]
theorem big_zero {hi lo e a b : Nat} (he : e = a + b) (ha : 2 ^ a = w256) (hb : 2 ^ b = w256) (h1 : hi < w256) (h2 : lo < w256) : (hi * w256 + lo) / 2 ^ e = 0 := by
  rw [he, Nat.pow_add, ha, hb]
  refine Nat.div_eq_of_lt ?_
  have h3 : hi * w256 ≤ (w256 - 1) * w256 := Nat.mul_le_mul_right _ (by omega)
  rw [Nat.sub_mul, Nat.one_mul] at h3
  have h4 : w256 ≤ w256 * w256 := Nat.le_mul_of_pos_right _ (by decide)
  omega
theorem S_LMod0 (hi lo m : Nat) (h1 : hi < w256) (h2 : lo < w256) (h3 : m < w256) (h0 : 0 < m) : ACall Pg F_limb_Mod [numA hi, numA lo, numA m] [] (fun v _ => v = .tup [numA ((hi * w256 + lo) % m), .int .i64 0] ∧ Flat true v) := by
  refine B_limb_Mod ⟨rfl, ?_⟩
  conv => whnf
  repeat (refine ⟨⟨[], rfl⟩, ?_⟩; conv => whnf)
  refine c_eqz h3 (fun h => by omega) (fun _ => ?_)
  conv => whnf
  repeat (refine ⟨⟨[], rfl⟩, ?_⟩; conv => whnf)
  obtain ⟨Q, hQ⟩ : ∃ Q : Nat, Q = 256 + 256 := ⟨_, rfl⟩
  refine loop_wk mixed (I := fun q l w => ∃ (r : Nat) (v : Int), l = [(3, .ptr 0 0 0), (4, .ptr 1 0 0), (5, .ptr 2 0 0), (6, .ptr 3 0 0), (8, .ptr 4 0 0), (9, .int .i64 v)] ∧ w = [some ⟨1, 4, lstG 1 (numL hi)⟩, some ⟨1, 4, lstG 1 (numL lo)⟩, some ⟨1, 4, lstG 1 (numL m)⟩, some ⟨1, 4, lstG 1 (numL 0)⟩, some ⟨1, 4, lstG 1 (numL r)⟩] ∧ v = (q : Int) - 1 ∧ q ≤ 512 ∧ r = (hi * w256 + lo) / 2 ^ q % m) Q
    (l0 := [(3, .ptr 0 0 0), (4, .ptr 1 0 0), (5, .ptr 2 0 0), (6, .ptr 3 0 0), (8, .ptr 4 0 0), (9, .int .i64 (511 : Int))]) (m0 := [some ⟨1, 4, lstG 1 (numL hi)⟩, some ⟨1, 4, lstG 1 (numL lo)⟩, some ⟨1, 4, lstG 1 (numL m)⟩, some ⟨1, 4, lstG 1 (numL 0)⟩, some ⟨1, 4, lstG 1 (numL 0)⟩]) [some 0, some 1, some 2, some 3, some 4] ⟨0, 511, rfl, rfl, by omega, by omega, ?_⟩ ?_ ?_
  · rw [big_zero hQ (by decide) (by decide) h1 h2, Nat.zero_mod]
  · refine .mk0 ⟨.ptr _ _ _ _ rfl, .ptr _ _ _ _ rfl, .ptr _ _ _ _ rfl, .ptr _ _ _ _ rfl, .ptr _ _ _ _ rfl, Flat.i rfl, trivial⟩ ⟨.old 0 0 _ _ rfl rfl ⟨rfl, Nat.le_refl _, fun i j hi hj => .eq _ _ rfl flat_numG⟩, .old 1 1 _ _ rfl rfl ⟨rfl, Nat.le_refl _, fun i j hi hj => .eq _ _ rfl flat_numG⟩, .old 2 2 _ _ rfl rfl ⟨rfl, Nat.le_refl _, fun i j hi hj => .eq _ _ rfl flat_numG⟩, .old 3 3 _ _ rfl rfl ⟨rfl, Nat.le_refl _, fun i j hi hj => ?_⟩, .old 4 4 _ _ rfl rfl ⟨rfl, Nat.le_refl _, fun i j hi hj => ?_⟩, trivial⟩ rfl rfl
    all_goals
      have hj : j < 1 := hj
      have hi : i < 4 := hi
      obtain rfl : j = 0 := by omega
      have : i = 0 ∨ i = 1 ∨ i = 2 ∨ i = 3 := by omega
      rcases this with rfl | rfl | rfl | rfl <;> exact .eq _ _ rfl (.int _ _)
  · rintro q l w ⟨r, v, rfl, rfl, hv, hq, hr⟩
    conv => whnf
    repeat (refine ⟨⟨[], rfl⟩, ?_⟩; conv => whnf)
    refine condB_mk (fun hb => ?_) (fun hb => ?_)
    · obtain ⟨k, rfl⟩ : ∃ k, q = k + 1 := ⟨q - 1, by simp at hb; omega⟩
      obtain rfl : v = (k : Int) := by omega
      have hrm : r < m := by rw [hr]; exact Nat.mod_lt _ h0
      have hr1 : r < w256 := by omega
      conv => whnf
      repeat (refine ⟨⟨[], rfl⟩, ?_⟩; conv => whnf)
      refine condB_mk (fun hk => ?_) (fun hk => ?_)
      · conv => whnf
        repeat (refine ⟨⟨[], rfl⟩, ?_⟩; conv => whnf)
        refine S_LAdd hr1 hr1 (fun s c e1 hs hc => ?_)
        conv => whnf
        repeat (refine ⟨⟨[], rfl⟩, ?_⟩; conv => whnf)
        refine S_LBit (a := hi) (i := k % 256) (by omega) (fun b hb2 => ?_)
        conv => whnf
        repeat (refine ⟨⟨[], rfl⟩, ?_⟩; conv => whnf)
        have hb3 : b = (hi * w256 + lo) / 2 ^ k % 2 := by rw [hb2]; exact (bit_hi h2 (by simp at hk; omega) (by omega)).symm
        have hb1 : b ≤ 1 := by omega
        have hs2 : s % 2 = 0 := by unfold w256 at e1; omega
        have hsb : s + b < w256 := by unfold w256 at hs ⊢; omega
        have et := top_eq hr1 hs hc e1
        have hx := or_cells (s := s) (b := b) hs2 hb1
        have hst : (hi * w256 + lo) / 2 ^ k % m = (2 * r + b) % m := by rw [hr, hb3]; exact step_mod
        by_cases hc1 : c = 1
        · refine condB_no (by rw [et, hc1]; rfl) ?_
          conv => whnf
          repeat (refine ⟨⟨[], rfl⟩, ?_⟩; conv => whnf)
          refine S_LSubE (a := s + b) (b := m) (Eq.trans (cell4 (a := .int .u64 (bitsV .or .u64 (lim s 0) (IntKind.u64.wrap (b : Int)))) (b := .int .u64 (lim s 1)) (c := .int .u64 (lim s 2)) (d := .int .u64 (lim s 3)) upd_at (upd_ne (t := 0) rfl) (upd_ne (t := 1) rfl) (upd_ne (t := 2) rfl)) hx) rfl hsb h3 (fun t d e2 ht hd => ?_)
          conv => whnf
          repeat (refine ⟨⟨[], rfl⟩, ?_⟩; conv => whnf)
          refine ⟨k, _, _, [some 0, some 1, some 2, some 3, some 4], Nat.lt_succ_self _, ⟨t, (k : Int) - 1, rfl, rfl, rfl, by omega, ?_⟩, ?_⟩
          · rw [hst]
            exact mod_wrap h3 hrm e1 hs hc1 hb1 e2 ht hd
          · exact .mk0 ⟨.ptr _ _ _ _ rfl, .ptr _ _ _ _ rfl, .ptr _ _ _ _ rfl, .ptr _ _ _ _ rfl, .ptr _ _ _ _ rfl, Flat.i (w64 (by omega) (by omega)), trivial⟩ ⟨.old 0 0 _ _ rfl rfl ⟨rfl, Nat.le_refl _, fun i j hi hj => .eq _ _ rfl flat_numG⟩, .old 1 1 _ _ rfl rfl ⟨rfl, Nat.le_refl _, fun i j hi hj => .eq _ _ rfl flat_numG⟩, .old 2 2 _ _ rfl rfl ⟨rfl, Nat.le_refl _, fun i j hi hj => .eq _ _ rfl flat_numG⟩, .old 3 3 _ _ rfl rfl ⟨rfl, Nat.le_refl _, fun i j hi hj => .eq _ _ rfl flat_numG⟩, .old 4 4 _ _ rfl rfl ⟨rfl, Nat.le_refl _, fun i j hi hj => .eq _ _ rfl flat_numG⟩, trivial⟩ rfl rfl
        · have hc0 : c = 0 := by omega
          refine condB_yes (by rw [et, hc0]; rfl) ?_
          conv => whnf
          repeat (refine ⟨⟨[], rfl⟩, ?_⟩; conv => whnf)
          refine S_LCmpE (a := s + b) (b := m) (Eq.trans (cell4 (a := .int .u64 (bitsV .or .u64 (lim s 0) (IntKind.u64.wrap (b : Int)))) (b := .int .u64 (lim s 1)) (c := .int .u64 (lim s 2)) (d := .int .u64 (lim s 3)) upd_at (upd_ne (t := 0) rfl) (upd_ne (t := 1) rfl) (upd_ne (t := 2) rfl)) hx) rfl hsb h3 (fun z hz => ?_)
          conv => whnf
          repeat (refine ⟨⟨[], rfl⟩, ?_⟩; conv => whnf)
          refine condB_mk (fun hz2 => ?_) (fun hz2 => ?_)
          · have hge : m ≤ s + b := by
              have hz2 : z ≥ 0 := of_decide_eq_true hz2
              rw [hz, cmpZ] at hz2
              split at hz2
              · omega
              · omega
            conv => whnf
            repeat (refine ⟨⟨[], rfl⟩, ?_⟩; conv => whnf)
            refine S_LSubE (a := s + b) (b := m) (Eq.trans (cell4 (a := .int .u64 (bitsV .or .u64 (lim s 0) (IntKind.u64.wrap (b : Int)))) (b := .int .u64 (lim s 1)) (c := .int .u64 (lim s 2)) (d := .int .u64 (lim s 3)) upd_at (upd_ne (t := 0) rfl) (upd_ne (t := 1) rfl) (upd_ne (t := 2) rfl)) hx) rfl hsb h3 (fun t d e2 ht hd => ?_)
            conv => whnf
            repeat (refine ⟨⟨[], rfl⟩, ?_⟩; conv => whnf)
            refine ⟨k, _, _, [some 0, some 1, some 2, some 3, some 4], Nat.lt_succ_self _, ⟨t, (k : Int) - 1, rfl, rfl, rfl, by omega, ?_⟩, ?_⟩
            · rw [hst]
              exact mod_sub hrm e1 hc0 hb1 hge e2 ht hd
            · exact .mk0 ⟨.ptr _ _ _ _ rfl, .ptr _ _ _ _ rfl, .ptr _ _ _ _ rfl, .ptr _ _ _ _ rfl, .ptr _ _ _ _ rfl, Flat.i (w64 (by omega) (by omega)), trivial⟩ ⟨.old 0 0 _ _ rfl rfl ⟨rfl, Nat.le_refl _, fun i j hi hj => .eq _ _ rfl flat_numG⟩, .old 1 1 _ _ rfl rfl ⟨rfl, Nat.le_refl _, fun i j hi hj => .eq _ _ rfl flat_numG⟩, .old 2 2 _ _ rfl rfl ⟨rfl, Nat.le_refl _, fun i j hi hj => .eq _ _ rfl flat_numG⟩, .old 3 3 _ _ rfl rfl ⟨rfl, Nat.le_refl _, fun i j hi hj => .eq _ _ rfl flat_numG⟩, .old 4 4 _ _ rfl rfl ⟨rfl, Nat.le_refl _, fun i j hi hj => .eq _ _ rfl flat_numG⟩, trivial⟩ rfl rfl
          · have hlt : s + b < m := by
              have hz2 : ¬ z ≥ 0 := of_decide_eq_false hz2
              rw [hz, cmpZ] at hz2
              split at hz2
              · omega
              · split at hz2 <;> omega
            conv => whnf
            repeat (refine ⟨⟨[], rfl⟩, ?_⟩; conv => whnf)
            refine ⟨k, _, _, [some 0, some 1, some 2, some 3, some 4], Nat.lt_succ_self _, ⟨s + b, (k : Int) - 1, rfl, rfl, rfl, by omega, ?_⟩, ?_⟩
            · have e3 : r + r = s := by rw [e1, hc0, Nat.zero_mul, Nat.add_zero]
              rw [hst, Nat.mod_eq_of_lt (by omega)]; omega
            · exact .mk0 ⟨.ptr _ _ _ _ rfl, .ptr _ _ _ _ rfl, .ptr _ _ _ _ rfl, .ptr _ _ _ _ rfl, .ptr _ _ _ _ rfl, Flat.i (w64 (by omega) (by omega)), trivial⟩ ⟨.old 0 0 _ _ rfl rfl ⟨rfl, Nat.le_refl _, fun i j hi hj => .eq _ _ rfl flat_numG⟩, .old 1 1 _ _ rfl rfl ⟨rfl, Nat.le_refl _, fun i j hi hj => .eq _ _ rfl flat_numG⟩, .old 2 2 _ _ rfl rfl ⟨rfl, Nat.le_refl _, fun i j hi hj => .eq _ _ rfl flat_numG⟩, .old 3 3 _ _ rfl rfl ⟨rfl, Nat.le_refl _, fun i j hi hj => .eq _ _ rfl flat_numG⟩, .old 4 4 _ _ rfl rfl ⟨rfl, Nat.le_refl _, fun i j hi hj => or_blk hs2 hb1 hi hj rfl⟩, trivial⟩ rfl rfl
      · conv => whnf
        repeat (refine ⟨⟨[], rfl⟩, ?_⟩; conv => whnf)
        refine S_LAdd hr1 hr1 (fun s c e1 hs hc => ?_)
        conv => whnf
        repeat (refine ⟨⟨[], rfl⟩, ?_⟩; conv => whnf)
        refine S_LBit (a := lo) (i := k % 256) (by omega) (fun b hb2 => ?_)
        conv => whnf
        repeat (refine ⟨⟨[], rfl⟩, ?_⟩; conv => whnf)
        have hb3 : b = (hi * w256 + lo) / 2 ^ k % 2 := by rw [hb2]; exact (bit_lo (by simp at hk; omega)).symm
        have hb1 : b ≤ 1 := by omega
        have hs2 : s % 2 = 0 := by unfold w256 at e1; omega
        have hsb : s + b < w256 := by unfold w256 at hs ⊢; omega
        have et := top_eq hr1 hs hc e1
        have hx := or_cells (s := s) (b := b) hs2 hb1
        have hst : (hi * w256 + lo) / 2 ^ k % m = (2 * r + b) % m := by rw [hr, hb3]; exact step_mod
        by_cases hc1 : c = 1
        · refine condB_no (by rw [et, hc1]; rfl) ?_
          conv => whnf
          repeat (refine ⟨⟨[], rfl⟩, ?_⟩; conv => whnf)
          refine S_LSubE (a := s + b) (b := m) (Eq.trans (cell4 (a := .int .u64 (bitsV .or .u64 (lim s 0) (IntKind.u64.wrap (b : Int)))) (b := .int .u64 (lim s 1)) (c := .int .u64 (lim s 2)) (d := .int .u64 (lim s 3)) upd_at (upd_ne (t := 0) rfl) (upd_ne (t := 1) rfl) (upd_ne (t := 2) rfl)) hx) rfl hsb h3 (fun t d e2 ht hd => ?_)
          conv => whnf
          repeat (refine ⟨⟨[], rfl⟩, ?_⟩; conv => whnf)
          refine ⟨k, _, _, [some 0, some 1, some 2, some 3, some 4], Nat.lt_succ_self _, ⟨t, (k : Int) - 1, rfl, rfl, rfl, by omega, ?_⟩, ?_⟩
          · rw [hst]
            exact mod_wrap h3 hrm e1 hs hc1 hb1 e2 ht hd
          · exact .mk0 ⟨.ptr _ _ _ _ rfl, .ptr _ _ _ _ rfl, .ptr _ _ _ _ rfl, .ptr _ _ _ _ rfl, .ptr _ _ _ _ rfl, Flat.i (w64 (by omega) (by omega)), trivial⟩ ⟨.old 0 0 _ _ rfl rfl ⟨rfl, Nat.le_refl _, fun i j hi hj => .eq _ _ rfl flat_numG⟩, .old 1 1 _ _ rfl rfl ⟨rfl, Nat.le_refl _, fun i j hi hj => .eq _ _ rfl flat_numG⟩, .old 2 2 _ _ rfl rfl ⟨rfl, Nat.le_refl _, fun i j hi hj => .eq _ _ rfl flat_numG⟩, .old 3 3 _ _ rfl rfl ⟨rfl, Nat.le_refl _, fun i j hi hj => .eq _ _ rfl flat_numG⟩, .old 4 4 _ _ rfl rfl ⟨rfl, Nat.le_refl _, fun i j hi hj => .eq _ _ rfl flat_numG⟩, trivial⟩ rfl rfl
        · have hc0 : c = 0 := by omega
          refine condB_yes (by rw [et, hc0]; rfl) ?_
          conv => whnf
          repeat (refine ⟨⟨[], rfl⟩, ?_⟩; conv => whnf)
          refine S_LCmpE (a := s + b) (b := m) (Eq.trans (cell4 (a := .int .u64 (bitsV .or .u64 (lim s 0) (IntKind.u64.wrap (b : Int)))) (b := .int .u64 (lim s 1)) (c := .int .u64 (lim s 2)) (d := .int .u64 (lim s 3)) upd_at (upd_ne (t := 0) rfl) (upd_ne (t := 1) rfl) (upd_ne (t := 2) rfl)) hx) rfl hsb h3 (fun z hz => ?_)
          conv => whnf
          repeat (refine ⟨⟨[], rfl⟩, ?_⟩; conv => whnf)
          refine condB_mk (fun hz2 => ?_) (fun hz2 => ?_)
          · have hge : m ≤ s + b := by
              have hz2 : z ≥ 0 := of_decide_eq_true hz2
              rw [hz, cmpZ] at hz2
              split at hz2
              · omega
              · omega
            conv => whnf
            repeat (refine ⟨⟨[], rfl⟩, ?_⟩; conv => whnf)
            refine S_LSubE (a := s + b) (b := m) (Eq.trans (cell4 (a := .int .u64 (bitsV .or .u64 (lim s 0) (IntKind.u64.wrap (b : Int)))) (b := .int .u64 (lim s 1)) (c := .int .u64 (lim s 2)) (d := .int .u64 (lim s 3)) upd_at (upd_ne (t := 0) rfl) (upd_ne (t := 1) rfl) (upd_ne (t := 2) rfl)) hx) rfl hsb h3 (fun t d e2 ht hd => ?_)
            conv => whnf
            repeat (refine ⟨⟨[], rfl⟩, ?_⟩; conv => whnf)
            refine ⟨k, _, _, [some 0, some 1, some 2, some 3, some 4], Nat.lt_succ_self _, ⟨t, (k : Int) - 1, rfl, rfl, rfl, by omega, ?_⟩, ?_⟩
            · rw [hst]
              exact mod_sub hrm e1 hc0 hb1 hge e2 ht hd
            · exact .mk0 ⟨.ptr _ _ _ _ rfl, .ptr _ _ _ _ rfl, .ptr _ _ _ _ rfl, .ptr _ _ _ _ rfl, .ptr _ _ _ _ rfl, Flat.i (w64 (by omega) (by omega)), trivial⟩ ⟨.old 0 0 _ _ rfl rfl ⟨rfl, Nat.le_refl _, fun i j hi hj => .eq _ _ rfl flat_numG⟩, .old 1 1 _ _ rfl rfl ⟨rfl, Nat.le_refl _, fun i j hi hj => .eq _ _ rfl flat_numG⟩, .old 2 2 _ _ rfl rfl ⟨rfl, Nat.le_refl _, fun i j hi hj => .eq _ _ rfl flat_numG⟩, .old 3 3 _ _ rfl rfl ⟨rfl, Nat.le_refl _, fun i j hi hj => .eq _ _ rfl flat_numG⟩, .old 4 4 _ _ rfl rfl ⟨rfl, Nat.le_refl _, fun i j hi hj => .eq _ _ rfl flat_numG⟩, trivial⟩ rfl rfl
          · have hlt : s + b < m := by
              have hz2 : ¬ z ≥ 0 := of_decide_eq_false hz2
              rw [hz, cmpZ] at hz2
              split at hz2
              · omega
              · split at hz2 <;> omega
            conv => whnf
            repeat (refine ⟨⟨[], rfl⟩, ?_⟩; conv => whnf)
            refine ⟨k, _, _, [some 0, some 1, some 2, some 3, some 4], Nat.lt_succ_self _, ⟨s + b, (k : Int) - 1, rfl, rfl, rfl, by omega, ?_⟩, ?_⟩
            · have e3 : r + r = s := by rw [e1, hc0, Nat.zero_mul, Nat.add_zero]
              rw [hst, Nat.mod_eq_of_lt (by omega)]; omega
            · exact .mk0 ⟨.ptr _ _ _ _ rfl, .ptr _ _ _ _ rfl, .ptr _ _ _ _ rfl, .ptr _ _ _ _ rfl, .ptr _ _ _ _ rfl, Flat.i (w64 (by omega) (by omega)), trivial⟩ ⟨.old 0 0 _ _ rfl rfl ⟨rfl, Nat.le_refl _, fun i j hi hj => .eq _ _ rfl flat_numG⟩, .old 1 1 _ _ rfl rfl ⟨rfl, Nat.le_refl _, fun i j hi hj => .eq _ _ rfl flat_numG⟩, .old 2 2 _ _ rfl rfl ⟨rfl, Nat.le_refl _, fun i j hi hj => .eq _ _ rfl flat_numG⟩, .old 3 3 _ _ rfl rfl ⟨rfl, Nat.le_refl _, fun i j hi hj => .eq _ _ rfl flat_numG⟩, .old 4 4 _ _ rfl rfl ⟨rfl, Nat.le_refl _, fun i j hi hj => or_blk hs2 hb1 hi hj rfl⟩, trivial⟩ rfl rfl
    · obtain rfl : q = 0 := by simp at hb; omega
      rw [Nat.pow_zero, Nat.div_one] at hr
      conv => whnf
      repeat (refine ⟨⟨[], rfl⟩, ?_⟩; conv => whnf)
      rw [← hr]
      exact ⟨rfl, .tup _ (.cons _ _ flat_numA (.cons _ _ (.int _ _) .nil))⟩
theorem S_LMod {m : Mem} {K : AV → Mem → Prop} {hi lo n : Nat} (h1 : hi < w256) (h2 : lo < w256) (h3 : n < w256) (h0 : 0 < n) (h : K (.tup [numA ((hi * w256 + lo) % n), .int .i64 0]) m) : ACall Pg F_limb_Mod [numA hi, numA lo, numA n] m K := by
  refine lift_flat (S_LMod0 hi lo n h1 h2 h3 h0) (.cons _ _ _ _ lend_numA (.cons _ _ _ _ lend_numA (.cons _ _ _ _ lend_numA .nil))) ?_
  rintro v rfl
  exact h
theorem S_Wide {m : Mem} {K : AV → Mem → Prop} {hi lo : Nat} (h1 : hi < w256) (h2 : lo < w256) (h : K (numA ((hi * w256 + lo) % nN)) m) : ACall Pg F_witanref01_Wide [.int .i64 1, numA hi, numA lo] m K := by
  have h0 : ACall Pg F_witanref01_Wide [.int .i64 1, numA hi, numA lo] [] (fun v _ => v = numA ((hi * w256 + lo) % nN) ∧ Flat true v) := by
    refine B_witanref01_Wide ⟨rfl, ?_⟩
    conv => whnf
    repeat (refine ⟨⟨[], rfl⟩, ?_⟩; conv => whnf)
    refine S_rfold_1 h2 h1 (fun r hr => ?_)
    obtain rfl : r = (hi * w256 + lo) % nN := by rw [hr, Nat.add_comm, Nat.mul_comm]
    generalize (hi * w256 + lo) % nN = r
    conv => whnf
    repeat (refine ⟨⟨[], rfl⟩, ?_⟩; conv => whnf)
    exact ⟨rfl, flat_numA⟩
  refine lift_flat h0 (.cons _ _ _ _ lend_int (.cons _ _ _ _ lend_numA (.cons _ _ _ _ lend_numA .nil))) ?_
  rintro v rfl
  exact h

/-- The number below n of two sums of joined bytes. -/
def scN (n : Nat) (f : Nat → Int) : Nat := (ofZ (sumB (n + 1) (catB n f fun _ => 0)) * w256 + ofZ (sumB (n + 1) (catB n f fun _ => 1))) % nN
theorem scN_lt {n : Nat} {f : Nat → Int} : scN n f < nN := Nat.mod_lt _ (by decide)
theorem S_Scalar0 (s : ByteArray) (r cap : Nat) (N C : Nat → Nat) (F : Nat → Nat → Int) (hs : s.size ≤ 1000000) (hr : r ≤ 1000000) (hN : ∀ i, i < r → N i ≤ 1000000) (hF : ∀ i, i < r → ∀ j, j < N i → 0 ≤ F i j ∧ F i j ≤ 255) :
    ACall Pg F_draw_Scalar [.str s, .vsl 1 r cap (rowsB N C F)] [] (fun v _ => v = (if nT s.size N r ≤ 65536 then .tup [numA (scN (nT s.size N r) (cT s.size (strF s) N F r)), .int .i64 0] else .tup [numA 0, .int .i64 4]) ∧ Flat true v) := by
  refine B_draw_Scalar ⟨rfl, ?_⟩
  conv => whnf
  repeat (refine ⟨⟨[], rfl⟩, ?_⟩; conv => whnf)
  refine S_joined (N := N) (F := F) ShowsB.vsl hs hr hN (fun h n f cap1 hn hf => ?_) (fun h f cap1 => ?_)
  · rw [if_pos h, ← hn, ← hf]
    have hf1 : ∀ i, i < n → 0 ≤ f i ∧ f i ≤ 255 := fun i hi => by rw [hf]; exact cT_in (fun _ _ => strF_lt) hF i (by omega)
    have g0 : ∀ x : Int, 0 ≤ x ∧ x ≤ 255 → ∀ i, i < n + 1 → 0 ≤ catB n f (fun _ => x) i ∧ catB n f (fun _ => x) i ≤ 255 := fun x hx i hi => catB_in (m := 1) hf1 (fun _ _ => hx) hi
    clear hf
    conv => whnf
    repeat (refine ⟨⟨[], rfl⟩, ?_⟩; conv => whnf)
    refine S_with (k := 1) (f := f) (g := fun _ => 0) (Shows.sl rfl (Nat.le_of_eq (Nat.zero_add _)) fun i hi => by rw [Nat.zero_add]) (Shows.one rfl rfl) (by omega) (by decide) (fun cap2 h0 hh0 => ?_)
    conv => whnf
    repeat (refine ⟨⟨[], rfl⟩, ?_⟩; conv => whnf)
    refine S_SumR (f := h0) (Shows.sl rfl (Nat.le_of_eq (Nat.zero_add _)) fun i hi => by rw [Nat.zero_add]) (by omega) (fun i hi => by rw [hh0]; exact g0 0 (by decide) i hi) (fun s0 hs0 hb0 => ?_)
    conv => whnf
    repeat (refine ⟨⟨[], rfl⟩, ?_⟩; conv => whnf)
    refine S_LOf (f := s0) (fun i _ => hb0 i) (fun a ha ha1 => ?_)
    conv => whnf
    repeat (refine ⟨⟨[], rfl⟩, ?_⟩; conv => whnf)
    refine S_with (k := 1) (f := f) (g := fun _ => 1) (Shows.sl rfl (Nat.le_of_eq (Nat.zero_add _)) fun i hi => by rw [Nat.zero_add]) (Shows.one rfl rfl) (by omega) (by decide) (fun cap3 h1 hh1 => ?_)
    conv => whnf
    repeat (refine ⟨⟨[], rfl⟩, ?_⟩; conv => whnf)
    refine S_SumR (f := h1) (Shows.sl rfl (Nat.le_of_eq (Nat.zero_add _)) fun i hi => by rw [Nat.zero_add]) (by omega) (fun i hi => by rw [hh1]; exact g0 1 (by decide) i hi) (fun s1 hs1 hb1 => ?_)
    conv => whnf
    repeat (refine ⟨⟨[], rfl⟩, ?_⟩; conv => whnf)
    refine S_LOf (f := s1) (fun i _ => hb1 i) (fun b hb hb2 => ?_)
    have e : scN n f = (a * w256 + b) % nN := by rw [ha, hb, hs0, hs1, hh0, hh1]; rfl
    rw [e]
    conv => whnf
    repeat (refine ⟨⟨[], rfl⟩, ?_⟩; conv => whnf)
    refine S_Prime_1 (fun p hp => ?_)
    conv => whnf
    repeat (refine ⟨⟨[], rfl⟩, ?_⟩; conv => whnf)
    refine S_LMod ha1 hb2 (by rw [hp]; decide) (by rw [hp]; decide) ?_
    rw [hp]
    generalize (a * w256 + b) % nN = z
    conv => whnf
    repeat (refine ⟨⟨[], rfl⟩, ?_⟩; conv => whnf)
    exact ⟨rfl, .tup _ (.cons _ _ flat_numA (.cons _ _ (.int _ _) .nil))⟩
  · rw [if_neg (by omega)]
    conv => whnf
    repeat (refine ⟨⟨[], rfl⟩, ?_⟩; conv => whnf)
    refine ⟨rfl, ?_⟩
    show Flat true (.tup [numA 0, .int .i64 4])
    exact .tup _ (.cons _ _ flat_numA (.cons _ _ (.int _ _) .nil))
theorem S_DScalar {m : Mem} {x : AV} {K : AV → Mem → Prop} {s : ByteArray} {r : Nat} {N : Nat → Nat} {F : Nat → Nat → Int} (hx : ShowsB m x r N F) (hs : s.size ≤ 1000000) (hr : r ≤ 1000000) (hN : ∀ i, i < r → N i ≤ 1000000) (hF : ∀ i, i < r → ∀ j, j < N i → 0 ≤ F i j ∧ F i j ≤ 255)
    (h1 : nT s.size N r ≤ 65536 → ∀ a, a = scN (nT s.size N r) (cT s.size (strF s) N F r) → a < nN → K (.tup [numA a, .int .i64 0]) m)
    (h2 : 65536 < nT s.size N r → K (.tup [numA 0, .int .i64 4]) m) : ACall Pg F_draw_Scalar [.str s, x] m K := by
  obtain ⟨cap, C, hl⟩ := hx
  refine lift_flat (S_Scalar0 s r cap N C F hs hr hN hF) (.cons _ _ _ _ (lend_flat (.str _)) (.cons _ _ _ _ hl .nil)) ?_
  rintro v rfl
  by_cases h : nT s.size N r ≤ 65536
  · rw [if_pos h]; exact h1 h _ rfl scN_lt
  · rw [if_neg h]; exact h2 (by omega)

theorem S_RScalar0 (s : ByteArray) (r cap : Nat) (N C : Nat → Nat) (F : Nat → Nat → Int) (hs : s.size ≤ 1000000) (hr : r ≤ 1000000) (hN : ∀ i, i < r → N i ≤ 1000000) (hF : ∀ i, i < r → ∀ j, j < N i → 0 ≤ F i j ∧ F i j ≤ 255) :
    ACall Pg F_witanref04_Scalar [.str s, .vsl 1 r cap (rowsB N C F)] [] (fun v _ => v = (if nT s.size N r ≤ 65536 then .tup [numA (scN (nT s.size N r) (cT s.size (strF s) N F r)), .bool true] else .tup [numA 0, .bool false]) ∧ Flat true v) := by
  refine B_witanref04_Scalar ⟨rfl, ?_⟩
  conv => whnf
  repeat (refine ⟨⟨[], rfl⟩, ?_⟩; conv => whnf)
  refine S_Joined (N := N) (F := F) ShowsB.vsl hs hr hN (fun h n f cap1 hn hf => ?_) (fun h f cap1 => ?_)
  · rw [if_pos h, ← hn, ← hf]
    have hf1 : ∀ i, i < n → 0 ≤ f i ∧ f i ≤ 255 := fun i hi => by rw [hf]; exact cT_in (fun _ _ => strF_lt) hF i (by omega)
    have g0 : ∀ x : Int, 0 ≤ x ∧ x ≤ 255 → ∀ i, i < n + 1 → 0 ≤ catB n f (fun _ => x) i ∧ catB n f (fun _ => x) i ≤ 255 := fun x hx i hi => catB_in (m := 1) hf1 (fun _ _ => hx) hi
    clear hf
    conv => whnf
    repeat (refine ⟨⟨[], rfl⟩, ?_⟩; conv => whnf)
    refine S_join2 (n := n) (k := 1) (f := f) (g := fun _ => 0) (ShowsB.sl rfl (Nat.le_refl 2) (fun i hi => ?_)) (by omega) (by decide) (fun cap2 h0 hh0 => ?_)
    · have : i = 0 ∨ i = 1 := by omega
      rcases this with rfl | rfl
      · exact Shows.sl rfl (Nat.le_of_eq (Nat.zero_add _)) fun i hi => by rw [Nat.zero_add]; rfl
      · exact Shows.one rfl rfl
    conv => whnf
    repeat (refine ⟨⟨[], rfl⟩, ?_⟩; conv => whnf)
    refine S_Sum256R (f := h0) (Shows.sl rfl (Nat.le_of_eq (Nat.zero_add _)) fun i hi => by rw [Nat.zero_add]) (by omega) (fun i hi => by rw [hh0]; exact g0 0 (by decide) i hi) (fun s0 hs0 hb0 => ?_)
    conv => whnf
    repeat (refine ⟨⟨[], rfl⟩, ?_⟩; conv => whnf)
    refine S_join2 (n := n) (k := 1) (f := f) (g := fun _ => 1) (ShowsB.sl rfl (Nat.le_refl 2) (fun i hi => ?_)) (by omega) (by decide) (fun cap3 h1 hh1 => ?_)
    · have : i = 0 ∨ i = 1 := by omega
      rcases this with rfl | rfl
      · exact Shows.sl rfl (Nat.le_of_eq (Nat.zero_add _)) fun i hi => by rw [Nat.zero_add]; rfl
      · exact Shows.one rfl rfl
    conv => whnf
    repeat (refine ⟨⟨[], rfl⟩, ?_⟩; conv => whnf)
    refine S_Sum256R (f := h1) (Shows.sl rfl (Nat.le_of_eq (Nat.zero_add _)) fun i hi => by rw [Nat.zero_add]) (by omega) (fun i hi => by rw [hh1]; exact g0 1 (by decide) i hi) (fun s1 hs1 hb1 => ?_)
    conv => whnf
    repeat (refine ⟨⟨[], rfl⟩, ?_⟩; conv => whnf)
    refine S_ROf (f := s0) (fun i _ => hb0 i) (fun a ha ha1 => ?_)
    conv => whnf
    repeat (refine ⟨⟨[], rfl⟩, ?_⟩; conv => whnf)
    refine S_ROf (f := s1) (fun i _ => hb1 i) (fun b hb hb2 => ?_)
    have e : scN n f = (a * w256 + b) % nN := by rw [ha, hb, hs0, hs1, hh0, hh1]; rfl
    rw [e]
    conv => whnf
    repeat (refine ⟨⟨[], rfl⟩, ?_⟩; conv => whnf)
    refine S_Wide ha1 hb2 ?_
    generalize (a * w256 + b) % nN = z
    conv => whnf
    repeat (refine ⟨⟨[], rfl⟩, ?_⟩; conv => whnf)
    exact ⟨rfl, .tup _ (.cons _ _ flat_numA (.cons _ _ (.bool _) .nil))⟩
  · rw [if_neg (by omega)]
    conv => whnf
    repeat (refine ⟨⟨[], rfl⟩, ?_⟩; conv => whnf)
    refine ⟨rfl, ?_⟩
    show Flat true (.tup [numA 0, .bool false])
    exact .tup _ (.cons _ _ flat_numA (.cons _ _ (.bool _) .nil))
theorem S_RScalar {m : Mem} {x : AV} {K : AV → Mem → Prop} {s : ByteArray} {r : Nat} {N : Nat → Nat} {F : Nat → Nat → Int} (hx : ShowsB m x r N F) (hs : s.size ≤ 1000000) (hr : r ≤ 1000000) (hN : ∀ i, i < r → N i ≤ 1000000) (hF : ∀ i, i < r → ∀ j, j < N i → 0 ≤ F i j ∧ F i j ≤ 255)
    (h1 : nT s.size N r ≤ 65536 → ∀ a, a = scN (nT s.size N r) (cT s.size (strF s) N F r) → a < nN → K (.tup [numA a, .bool true]) m)
    (h2 : 65536 < nT s.size N r → K (.tup [numA 0, .bool false]) m) : ACall Pg F_witanref04_Scalar [.str s, x] m K := by
  obtain ⟨cap, C, hl⟩ := hx
  refine lift_flat (S_RScalar0 s r cap N C F hs hr hN hF) (.cons _ _ _ _ (lend_flat (.str _)) (.cons _ _ _ _ hl .nil)) ?_
  rintro v rfl
  by_cases h : nT s.size N r ≤ 65536
  · rw [if_pos h]; exact h1 h _ rfl scN_lt
  · rw [if_neg h]; exact h2 (by omega)
end Go.Proofs.Ytdeholmpcbakbaa
end

section
/- Each point is a multiple of the one that all begins with: there is no room for three times as many, and none is its own counterpart; no condition. -/
set_option linter.unusedVariables false
set_option maxRecDepth 100000
namespace Go.Wit

theorem pigeon {N M : Nat} (f : Nat → Nat) (h1 : ∀ i, i < N → f i < M) (h2 : ∀ i j, i < N → j < N → f i = f j → i = j) : N ≤ M := by
  rcases Nat.lt_or_ge M N with h | h
  · exfalso
    have hn : ((List.range N).map f).Nodup := by
      show List.Pairwise _ _
      rw [List.pairwise_map]
      refine List.Pairwise.imp_of_mem ?_ (List.nodup_range (n := N))
      intro a b ha hb hab he
      exact hab (h2 a b (List.mem_range.1 ha) (List.mem_range.1 hb) he)
    have hs : ∀ x, x ∈ (List.range N).map f → x ∈ List.range M := by
      intro x hx
      obtain ⟨i, hi, rfl⟩ := List.mem_map.1 hx
      exact List.mem_range.2 (h1 i (List.mem_range.1 hi))
    have := (perm_of_sub hn hs (by rw [List.length_map, List.length_range, List.length_range]; omega)).length_eq
    rw [List.length_map, List.length_range, List.length_range] at this
    omega
  · exact h

/-- A number for each point. -/
def ptCode : Pt Fp → Nat
  | .inf => 0
  | .aff x y => 1 + 2 * x.val + y.val % 2
theorem ptCode_lt (P : Pt Fp) : ptCode P < 2 * pP + 1 := by
  cases P with
  | inf => show 0 < _; exact Nat.succ_pos _
  | aff x y =>
    have h := x.isLt
    show 1 + 2 * x.val + y.val % 2 < _
    generalize x.val = a at *
    generalize y.val = b at *
    generalize pP = p at *
    omega
theorem ptCode_inj {P Q : Pt Fp} (oP : On P) (oQ : On Q) (h : ptCode P = ptCode Q) : P = Q := by
  cases P with
  | inf =>
    cases Q with
    | inf => rfl
    | aff x y => exfalso; have : 0 = 1 + 2 * x.val + y.val % 2 := h; omega
  | aff x y =>
    cases Q with
    | inf => exfalso; have : 1 + 2 * x.val + y.val % 2 = 0 := h; omega
    | aff u v =>
      have h : 1 + 2 * x.val + y.val % 2 = 1 + 2 * u.val + v.val % 2 := h
      have hx : x.val = u.val := by omega
      have hy : y.val % 2 = v.val % 2 := by omega
      obtain rfl : x = u := Fin.ext hx
      have e : y * y = v * v := by rw [show y * y = x * x * x + 7 from oP, show v * v = x * x * x + 7 from oQ]
      have v0 : v ≠ 0 := On.y_ne crvP oQ
      rcases sq_eq e with rfl | rfl
      · rfl
      · exfalso
        have := neg_parity v0
        omega

theorem padd_swap {A B C : Pt Fp} (oA : On A) (oB : On B) (oC : On C) : padd (padd A B) C = padd (padd A C) B := by
  rw [padd_assoc crvP oA oB oC, padd_comm B C, ← padd_assoc crvP oA oC oB]
/-- From A + r G = B + s G: A is B and a multiple. -/
theorem coset {A B : Pt Fp} (oA : On A) (oB : On B) {r s N : Nat} (hN : nmul N gG = .inf) (hr : r ≤ N) (h : padd A (nmul r gG) = padd B (nmul s gG)) : A = padd B (nmul (s + (N - r)) gG) := by
  have e : padd (padd A (nmul r gG)) (nmul (N - r) gG) = A := by
    rw [padd_assoc crvP oA (on_G.nmul crvP r) (on_G.nmul crvP _), ← nmul_add crvP on_G, show r + (N - r) = N by omega, hN, padd_inf]
  rw [← e, h, padd_assoc crvP oB (on_G.nmul crvP s) (on_G.nmul crvP _), ← nmul_add crvP on_G]
/-- A summand more that a multiple of the point makes up for is one. -/
theorem coset1 {B P : Pt Fp} (oB : On B) (oP : On P) {k : Nat} (h : padd B P = padd B (nmul k gG)) : P = nmul k gG := by
  have h1 : padd B.neg (padd B P) = padd B.neg (padd B (nmul k gG)) := by rw [h]
  rwa [← padd_assoc crvP oB.neg oB oP, ← padd_assoc crvP oB.neg oB (on_G.nmul crvP k), padd_comm B.neg B, padd_neg, inf_padd, inf_padd] at h1

theorem self_neg {Q : Pt Fp} (oQ : On Q) (h : padd Q Q = .inf) : Q = .inf := by
  have h1 := neg_of_padd oQ oQ h
  cases Q with
  | inf => rfl
  | aff x y =>
    exfalso
    have hy : y = -y := by
      have : Pt.aff x y = Pt.aff x (-y) := h1
      injection this
    have y0 : y ≠ 0 := On.y_ne crvP oQ
    have := neg_parity y0
    rw [← hy] at this
    omega

theorem three_n : 2 * pP + 1 < 3 * nN := by decide
theorem n_odd : nN % 2 = 1 := by decide
theorem all_of {N p : Nat} (h3 : 2 * p + 1 < 3 * N) (hodd : N % 2 = 1) (hc : ∀ P : Pt Fp, ptCode P < 2 * p + 1) (hN : nmul N gG = .inf) (heq : ∀ {a b : Nat}, a < N → b < N → nmul a gG = nmul b gG → a = b) (hmod : ∀ m, nmul (m % N) gG = nmul m gG) {P : Pt Fp} (oP : On P) : ∃ k, P = nmul k gG := by
  have hpos : 0 < N := by omega
  by_cases h1 : ∃ k, P = nmul k gG
  · exact h1
  have o2 := oP.add crvP oP
  -- twice the point is a multiple
  have h2 : ∃ k, padd P P = nmul k gG := by
    by_cases h2 : ∃ k, padd P P = nmul k gG
    · exact h2
    exfalso
    let A : Nat → Pt Fp := fun q => if q = 0 then .inf else if q = 1 then P else padd P P
    have oA : ∀ q, On (A q) := fun q => by
      show On (if q = 0 then .inf else if q = 1 then P else padd P P)
      split
      · trivial
      · split
        · exact oP
        · exact o2
    have key : ∀ q q', q < 3 → q' < 3 → ∀ r s, r < N → s < N → padd (A q) (nmul r gG) = padd (A q') (nmul s gG) → q = q' := by
      intro q q' hq hq' r s hr hs h
      have c1 := coset (oA q) (oA q') hN (Nat.le_of_lt hr) h
      have c2 := coset (oA q') (oA q) hN (Nat.le_of_lt hs) h.symm
      have hh : q = 0 ∨ q = 1 ∨ q = 2 := by omega
      have hh' : q' = 0 ∨ q' = 1 ∨ q' = 2 := by omega
      rcases hh with rfl | rfl | rfl <;> rcases hh' with rfl | rfl | rfl
      · rfl
      · exact absurd ⟨_, c2.trans (inf_padd _)⟩ h1
      · exact absurd ⟨_, c2.trans (inf_padd _)⟩ h2
      · exact absurd ⟨_, c1.trans (inf_padd _)⟩ h1
      · rfl
      · exact absurd ⟨_, coset1 oP oP c2⟩ h1
      · exact absurd ⟨_, c1.trans (inf_padd _)⟩ h2
      · exact absurd ⟨_, coset1 oP oP c1⟩ h1
      · rfl
    have := pigeon (N := 3 * N) (M := 2 * p + 1) (fun i => ptCode (padd (A (i / N)) (nmul (i % N) gG))) (fun i _ => hc _) (fun i j hi hj h => by
      have e := ptCode_inj ((oA _).add crvP (on_G.nmul crvP _)) ((oA _).add crvP (on_G.nmul crvP _)) h
      have hi1 : i / N < 3 := (Nat.div_lt_iff_lt_mul hpos).2 hi
      have hj1 : j / N < 3 := (Nat.div_lt_iff_lt_mul hpos).2 hj
      have hq := key _ _ hi1 hj1 _ _ (Nat.mod_lt _ hpos) (Nat.mod_lt _ hpos) e
      rw [hq] at e
      have e2 : nmul (i % N) gG = nmul (j % N) gG := by
        have h5 : padd (A (j / N)).neg (padd (A (j / N)) (nmul (i % N) gG)) = padd (A (j / N)).neg (padd (A (j / N)) (nmul (j % N) gG)) := by rw [e]
        have oB := oA (j / N)
        rwa [← padd_assoc crvP oB.neg oB (on_G.nmul crvP _), ← padd_assoc crvP oB.neg oB (on_G.nmul crvP _), padd_comm (A (j / N)).neg, padd_neg, inf_padd, inf_padd] at h5
      have e3 := heq (Nat.mod_lt _ hpos) (Nat.mod_lt _ hpos) e2
      have d1 := Nat.div_add_mod i N
      have d2 := Nat.div_add_mod j N
      rw [hq] at d1
      omega)
    omega
  obtain ⟨k, hk⟩ := h2
  -- half of it
  obtain ⟨j, hj⟩ : ∃ j, nmul k gG = nmul (j + j) gG := by
    by_cases hk2 : k % 2 = 0
    · exact ⟨k / 2, by rw [show k / 2 + k / 2 = k by omega]⟩
    · refine ⟨(k + N) / 2, ?_⟩
      rw [show (k + N) / 2 + (k + N) / 2 = k + N by omega, nmul_add crvP on_G, hN, padd_inf]
  have oJ := on_G.nmul crvP j
  have oQ : On (padd P (nmul j gG).neg) := oP.add crvP oJ.neg
  have hQ : padd (padd P (nmul j gG).neg) (padd P (nmul j gG).neg) = .inf := by
    rw [← padd_assoc crvP oQ oP oJ.neg, padd_swap oP oJ.neg oP, padd_assoc crvP o2 oJ.neg oJ.neg, hk, hj, nmul_add crvP on_G, padd_assoc crvP oJ oJ (oJ.neg.add crvP oJ.neg), ← padd_assoc crvP oJ oJ.neg oJ.neg, padd_neg, inf_padd, padd_neg]
  have hz := self_neg oQ hQ
  refine ⟨j, ?_⟩
  have h5 : padd (padd P (nmul j gG).neg) (nmul j gG) = nmul j gG := by rw [hz, inf_padd]
  rwa [padd_assoc crvP oP oJ.neg oJ, padd_comm (nmul j gG).neg, padd_neg, padd_inf] at h5

/-- Each point is a multiple. -/
theorem all_G {P : Pt Fp} (oP : On P) : ∃ k, P = nmul k gG :=
  all_of three_n n_odd ptCode_lt nG (fun ha hb h => by have := nmul_G_eq h; rwa [Nat.mod_eq_of_lt ha, Nat.mod_eq_of_lt hb] at this) nmul_mod oP
/-- So often as numbers say, modulo the second prime. -/
theorem nmul_mod_all {P : Pt Fp} (oP : On P) (j : Nat) : nmul (j % nN) P = nmul j P := by
  obtain ⟨k, rfl⟩ := all_G oP
  rw [← nmul_mul crvP on_G, ← nmul_mul crvP on_G, ← nmul_mod (j % nN * k), ← nmul_mod (j * k), Nat.mod_mul_mod]
end Go.Wit
end

section
/- Rows of numbers and of points; the points of coefficients; no condition. -/
set_option linter.unusedVariables false
set_option linter.unusedSimpArgs false
set_option maxRecDepth 100000
set_option pp.maxSteps 3000
namespace Go.Proofs.Ytdeholmpcbakbaa
open Go Go.Wit

def rawsG (I : Nat → Bool) (X Y : Nat → Nat) : Nat → Nat → AV := fun i j => (rawL (I i) (X i) (Y i)).getD j .un
def ptsG (P : Nat → Pt Fp) : Nat → Nat → AV := rawsG (fun i => isI (P i)) (fun i => xN (P i)) (fun i => yN (P i))
theorem flat_rawG {nv : Bool} {i : Bool} {x y k : Nat} : Flat nv ((rawL i x y).getD k .un) := by
  unfold rawL
  match k with
  | 0 => exact .bool _
  | 1 => exact .int _ _
  | 2 => exact .int _ _
  | 3 => exact .int _ _
  | 4 => exact .int _ _
  | 5 => exact .int _ _
  | 6 => exact .int _ _
  | 7 => exact .int _ _
  | 8 => exact .int _ _
  | k + 9 => simp; exact .un
theorem flat_ptsG {nv : Bool} {P : Nat → Pt Fp} {i j : Nat} : Flat nv (ptsG P i j) := flat_rawG

/-- What stands in slot x shows the n rows G. -/
def ShowsG (m : Mem) (x : AV) (es n : Nat) (G : Nat → Nat → AV) : Prop := ∃ cap, Lend (fun _ => none) (List.range m.length) m x (.vsl es n cap G)
theorem ShowsG.vsl {m : Mem} {es n cap : Nat} {G : Nat → Nat → AV} (h : ∀ i j, i < n → j < es → Flat false (G i j)) : ShowsG m (.vsl es n cap G) es n G := ⟨cap, .vsl _ _ _ _ _ fun i j hi hj => ⟨rfl, h i j hi hj⟩⟩
theorem ShowsG.nils {m : Mem} {es : Nat} {G : Nat → Nat → AV} : ShowsG m .nils es 0 G := ⟨0, .nils _ _⟩
theorem ShowsG.sl {m : Mem} {l off es n cap N : Nat} {g G : Nat → Nat → AV} (h : m[l]? = some (some ⟨es, N, g⟩)) (hn : off + n ≤ N) (hG : ∀ i j, i < n → j < es → G i j = g (off + i) j ∧ Flat false (G i j)) : ShowsG m (.sl l off n cap) es n G :=
  ⟨cap, .sl l off n cap ⟨es, N, g⟩ _ (List.mem_range.2 (lt_of_get h)) h hn hG⟩
end Go.Proofs.Ytdeholmpcbakbaa
end

section
/- Challenges and proofs; no condition. -/
set_option linter.unusedVariables false
set_option linter.unusedSimpArgs false
set_option maxRecDepth 100000
set_option pp.maxSteps 3000
set_option pp.deepTerms false
set_option pp.deepTerms.threshold 7
namespace Go.Proofs.Ytdeholmpcbakbaa
open Go Go.Wit

abbrev dlB : ByteArray := ⟨#[100, 108, 101, 113]⟩
/-- What is challenged by points. -/
def chN (P : Nat → Pt Fp) : Nat := scN (nT dlB.size (fun i => pbN (P i)) 5) (cT dlB.size (strF dlB) (fun i => pbN (P i)) (fun i => pbF (P i)) 5)
theorem chN_lt {P : Nat → Pt Fp} : chN P < nN := scN_lt
theorem S_CBytesE {m : Mem} {x : AV} {K : AV → Mem → Prop} {P : Pt Fp} (hx : x = ptA P) (oP : On P) (h : ∀ cap, memK (m ++ [some ⟨1, pbN P, bytesG (pbF P)⟩]) (K (.tup [.sl m.length 0 (pbN P) cap, .int .i64 0]))) : ACall Pg F_curve_Bytes [x] m K := by
  subst hx; exact S_CBytes oP h
theorem S_PBytesE {m : Mem} {x : AV} {K : AV → Mem → Prop} {P : Pt Fp} (hx : x = ptA P) (h : ∀ cap, memK (m ++ [some ⟨1, pbN P, bytesG (pbF P)⟩]) (K (.sl m.length 0 (pbN P) cap))) : ACall Pg F_witanref01_PointBytes [x] m K := by
  subst hx; exact S_PBytes h
theorem nT5_le {t : Nat} {N : Nat → Nat} (ht : t ≤ 1000) (hN : ∀ i, N i ≤ 33) : ¬ 65536 < nT t N 5 := by
  have h0 := hN 0; have h1 := hN 1; have h2 := hN 2; have h3 := hN 3; have h4 := hN 4
  have e : nT t N 5 = 4 + t + (4 + N 0) + (4 + N 1) + (4 + N 2) + (4 + N 3) + (4 + N 4) := rfl
  omega
theorem flat_ne1 {n : Nat} {e : Int} : Flat true (.tup [numA n, .int .i64 e]) := .tup _ (.cons _ _ flat_numA (.cons _ _ (.int _ _) .nil))
theorem S_challenge0 (P : Nat → Pt Fp) (cap : Nat) (oP : ∀ i, i < 5 → On (P i)) : ACall Pg F_dleq_challenge [.vsl 9 5 cap (ptsG P)] [] (fun v _ => v = .tup [numA (chN P), .int .i64 0] ∧ Flat true v) := by
  refine B_dleq_challenge ⟨rfl, ?_⟩
  conv => whnf
  repeat (refine ⟨⟨_, rfl⟩, ?_⟩; conv => whnf)
  refine loop_rounds mixed 6 ?_
  conv => whnf
  repeat (refine ⟨⟨_, rfl⟩, ?_⟩; conv => whnf)
  refine S_CBytesE (P := P 0) rfl (oP 0 (by decide)) (fun c0 => ?_)
  conv => whnf
  repeat (refine ⟨⟨_, rfl⟩, ?_⟩; conv => whnf)
  refine fun d0 h0 => ?_
  conv => whnf
  repeat (refine ⟨⟨_, rfl⟩, ?_⟩; conv => whnf)
  refine S_CBytesE (P := P 1) rfl (oP 1 (by decide)) (fun c1 => ?_)
  conv => whnf
  repeat (refine ⟨⟨_, rfl⟩, ?_⟩; conv => whnf)
  refine fun d1 h1 => ?_
  conv => whnf
  repeat (refine ⟨⟨_, rfl⟩, ?_⟩; conv => whnf)
  refine S_CBytesE (P := P 2) rfl (oP 2 (by decide)) (fun c2 => ?_)
  conv => whnf
  repeat (refine ⟨⟨_, rfl⟩, ?_⟩; conv => whnf)
  refine fun d2 h2 => ?_
  conv => whnf
  repeat (refine ⟨⟨_, rfl⟩, ?_⟩; conv => whnf)
  refine S_CBytesE (P := P 3) rfl (oP 3 (by decide)) (fun c3 => ?_)
  conv => whnf
  repeat (refine ⟨⟨_, rfl⟩, ?_⟩; conv => whnf)
  refine fun d3 h3 => ?_
  conv => whnf
  repeat (refine ⟨⟨_, rfl⟩, ?_⟩; conv => whnf)
  refine S_CBytesE (P := P 4) rfl (oP 4 (by decide)) (fun c4 => ?_)
  conv => whnf
  repeat (refine ⟨⟨_, rfl⟩, ?_⟩; conv => whnf)
  refine fun d4 h4 => ?_
  conv => whnf
  repeat (refine ⟨⟨_, rfl⟩, ?_⟩; conv => whnf)
  have hN : ∀ i, i < 5 → pbN (P i) ≤ 1000000 := fun i _ => Nat.le_trans (pbN_le _) (by decide)
  refine S_DScalar (r := 5) (N := fun i => pbN (P i)) (F := fun i => pbF (P i)) (ShowsB.sl rfl (Nat.le_of_eq (Nat.zero_add _)) fun i hi => ?_) (by decide) (by decide) hN (fun i _ j _ => pbF_lt _ _) (fun _ a ha _ => ?_) (fun hn => absurd hn (nT5_le (by decide) (fun i => pbN_le _)))
  · have : i = 0 ∨ i = 1 ∨ i = 2 ∨ i = 3 ∨ i = 4 := by omega
    rcases this with rfl | rfl | rfl | rfl | rfl
    all_goals exact Shows.slG rfl (Nat.le_of_eq (Nat.zero_add _)) (fun j hj => by rw [Nat.zero_add]; rfl)
  obtain rfl : a = chN P := ha
  conv => whnf
  repeat (refine ⟨⟨_, rfl⟩, ?_⟩; conv => whnf)
  exact ⟨rfl, flat_ne1⟩
theorem S_rchallenge0 (P : Nat → Pt Fp) (cap : Nat) (oP : ∀ i, i < 5 → On (P i)) : ACall Pg F_witanref06_challenge [.vsl 9 5 cap (ptsG P)] [] (fun v _ => v = numA (chN P) ∧ Flat true v) := by
  refine B_witanref06_challenge ⟨rfl, ?_⟩
  conv => whnf
  repeat (refine ⟨⟨_, rfl⟩, ?_⟩; conv => whnf)
  refine loop_rounds mixed 6 ?_
  conv => whnf
  repeat (refine ⟨⟨_, rfl⟩, ?_⟩; conv => whnf)
  refine S_PBytesE (P := P 0) rfl (fun c0 => ?_)
  conv => whnf
  repeat (refine ⟨⟨_, rfl⟩, ?_⟩; conv => whnf)
  refine fun d0 h0 => ?_
  conv => whnf
  repeat (refine ⟨⟨_, rfl⟩, ?_⟩; conv => whnf)
  refine S_PBytesE (P := P 1) rfl (fun c1 => ?_)
  conv => whnf
  repeat (refine ⟨⟨_, rfl⟩, ?_⟩; conv => whnf)
  refine fun d1 h1 => ?_
  conv => whnf
  repeat (refine ⟨⟨_, rfl⟩, ?_⟩; conv => whnf)
  refine S_PBytesE (P := P 2) rfl (fun c2 => ?_)
  conv => whnf
  repeat (refine ⟨⟨_, rfl⟩, ?_⟩; conv => whnf)
  refine fun d2 h2 => ?_
  conv => whnf
  repeat (refine ⟨⟨_, rfl⟩, ?_⟩; conv => whnf)
  refine S_PBytesE (P := P 3) rfl (fun c3 => ?_)
  conv => whnf
  repeat (refine ⟨⟨_, rfl⟩, ?_⟩; conv => whnf)
  refine fun d3 h3 => ?_
  conv => whnf
  repeat (refine ⟨⟨_, rfl⟩, ?_⟩; conv => whnf)
  refine S_PBytesE (P := P 4) rfl (fun c4 => ?_)
  conv => whnf
  repeat (refine ⟨⟨_, rfl⟩, ?_⟩; conv => whnf)
  refine fun d4 h4 => ?_
  conv => whnf
  repeat (refine ⟨⟨_, rfl⟩, ?_⟩; conv => whnf)
  have hN : ∀ i, i < 5 → pbN (P i) ≤ 1000000 := fun i _ => Nat.le_trans (pbN_le _) (by decide)
  refine S_RScalar (r := 5) (N := fun i => pbN (P i)) (F := fun i => pbF (P i)) (ShowsB.sl rfl (Nat.le_of_eq (Nat.zero_add _)) fun i hi => ?_) (by decide) (by decide) hN (fun i _ j _ => pbF_lt _ _) (fun _ a ha _ => ?_) (fun hn => absurd hn (nT5_le (by decide) (fun i => pbN_le _)))
  · have : i = 0 ∨ i = 1 ∨ i = 2 ∨ i = 3 ∨ i = 4 := by omega
    rcases this with rfl | rfl | rfl | rfl | rfl
    all_goals exact Shows.slG rfl (Nat.le_of_eq (Nat.zero_add _)) (fun j hj => by rw [Nat.zero_add]; rfl)
  obtain rfl : a = chN P := ha
  conv => whnf
  repeat (refine ⟨⟨_, rfl⟩, ?_⟩; conv => whnf)
  exact ⟨rfl, flat_numA⟩

theorem S_challenge {m : Mem} {x : AV} {K : AV → Mem → Prop} {P : Nat → Pt Fp} (hx : ShowsG m x 9 5 (ptsG P)) (oP : ∀ i, i < 5 → On (P i)) (h : ∀ c, c = chN P → c < nN → K (.tup [numA c, .int .i64 0]) m) : ACall Pg F_dleq_challenge [x] m K := by
  obtain ⟨cap, hl⟩ := hx
  refine lift_flat (S_challenge0 P cap oP) (.cons _ _ _ _ hl .nil) ?_
  rintro v rfl
  exact h _ rfl chN_lt
theorem S_rchallenge {m : Mem} {x : AV} {K : AV → Mem → Prop} {P : Nat → Pt Fp} (hx : ShowsG m x 9 5 (ptsG P)) (oP : ∀ i, i < 5 → On (P i)) (h : ∀ c, c = chN P → c < nN → K (numA c) m) : ACall Pg F_witanref06_challenge [x] m K := by
  obtain ⟨cap, hl⟩ := hx
  refine lift_flat (S_rchallenge0 P cap oP) (.cons _ _ _ _ hl .nil) ?_
  rintro v rfl
  exact h _ rfl chN_lt
/-- Five points, in their order. -/
def pr5 (a b c d e : Pt Fp) : Nat → Pt Fp := fun i => if i = 0 then a else if i = 1 then b else if i = 2 then c else if i = 3 then d else e
theorem on_pr5 {a b c d e : Pt Fp} (ha : On a) (hb : On b) (hc : On c) (hd : On d) (he : On e) (i : Nat) (_ : i < 5) : On (pr5 a b c d e i) := by
  unfold pr5
  repeat (split; assumption)
  exact he
theorem Shows5 {m : Mem} {l cap : Nat} {a b c d e : Pt Fp} {g : Nat → Nat → AV} (h : m[l]? = some (some ⟨9, 5, g⟩)) (hg : ∀ i j, i < 5 → j < 9 → g i j = ptsG (pr5 a b c d e) i j) : ShowsG m (.sl l 0 5 cap) 9 5 (ptsG (pr5 a b c d e)) :=
  ShowsG.sl h (Nat.le_of_eq (Nat.zero_add _)) fun i j hi hj => ⟨by rw [Nat.zero_add, hg i j hi hj], flat_ptsG⟩
/-- A proof. -/
def prA (c r : Nat) : AV := .agg [.int .u64 (lim c 0), .int .u64 (lim c 1), .int .u64 (lim c 2), .int .u64 (lim c 3), .int .u64 (lim r 0), .int .u64 (lim r 1), .int .u64 (lim r 2), .int .u64 (lim r 3)]
theorem flat_prA {nv : Bool} {c r : Nat} : Flat nv (prA c r) := .agg _ (by repeat (first | exact .nil | refine .cons _ _ (.int _ _) ?_))
theorem flat_pre {c r : Nat} {e : Int} : Flat true (.tup [prA c r, .int .i64 e]) := .tup _ (.cons _ _ flat_prA (.cons _ _ (.int _ _) .nil))
noncomputable def prfC (s k : Nat) (b : Pt Fp) : Nat := chN (pr5 (nmul s gG) b (nmul s b) (nmul k gG) (nmul k b))
def prfR (s k c : Nat) : Nat := (k + (nN - c * s % nN % nN)) % nN
theorem S_Prove0 (s k : Nat) (b : Pt Fp) (hs : s < w256) (hk : k < w256) (ob : On b) : ACall Pg F_dleq_Prove [numA s, numA k, ptA b] [] (fun v _ => v = .tup [prA (prfC s k b) (prfR s k (prfC s k b)), .int .i64 0] ∧ Flat true v) := by
  refine B_dleq_Prove ⟨rfl, ?_⟩
  conv => whnf
  repeat (refine ⟨⟨_, rfl⟩, ?_⟩; conv => whnf)
  refine S_Check_ok (P := b) ob ?_
  conv => whnf
  repeat (refine ⟨⟨_, rfl⟩, ?_⟩; conv => whnf)
  refine T_Times (n := s) (P := b) hs ob (fun q oq hq => ?_)
  conv => whnf
  repeat (refine ⟨⟨_, rfl⟩, ?_⟩; conv => whnf)
  refine T_Times (n := k) (P := b) hk ob (fun v ov hv => ?_)
  conv => whnf
  repeat (refine ⟨⟨_, rfl⟩, ?_⟩; conv => whnf)
  refine T_Base (n := s) hs (fun a oa ha => ?_)
  conv => whnf
  repeat (refine ⟨⟨_, rfl⟩, ?_⟩; conv => whnf)
  refine T_Base (n := k) hk (fun u ou hu => ?_)
  conv => whnf
  repeat (refine ⟨⟨_, rfl⟩, ?_⟩; conv => whnf)
  refine S_challenge (P := pr5 a b q u v) (Shows5 rfl ?_) (on_pr5 oa ob oq ou ov) (fun c hc hc1 => ?_)
  · intro i j hi hj
    have h1 : i = 0 ∨ i = 1 ∨ i = 2 ∨ i = 3 ∨ i = 4 := by omega
    have h2 : j = 0 ∨ j = 1 ∨ j = 2 ∨ j = 3 ∨ j = 4 ∨ j = 5 ∨ j = 6 ∨ j = 7 ∨ j = 8 := by omega
    rcases h1 with rfl | rfl | rfl | rfl | rfl <;> rcases h2 with rfl | rfl | rfl | rfl | rfl | rfl | rfl | rfl | rfl <;> rfl
  conv => whnf
  repeat (refine ⟨⟨_, rfl⟩, ?_⟩; conv => whnf)
  refine S_FMul_1 (a := c) (b := s) (Nat.lt_trans hc1 (by decide)) hs (fun r1 hr1 => ?_)
  conv => whnf
  repeat (refine ⟨⟨_, rfl⟩, ?_⟩; conv => whnf)
  refine S_FSub_1 (a := k) (b := r1) hk (by rw [hr1]; exact Nat.lt_trans (Nat.mod_lt _ (by decide)) (by decide)) (fun r2 hr2 => ?_)
  conv => whnf
  repeat (refine ⟨⟨_, rfl⟩, ?_⟩; conv => whnf)
  have e1 : c = prfC s k b := by rw [hc, ha, hq, hu, hv]; rfl
  have e2 : r2 = prfR s k (prfC s k b) := by rw [hr2, hr1, e1]; rfl
  rw [← e2, ← e1]
  exact ⟨rfl, flat_pre⟩
theorem S_Prove {m : Mem} {K : AV → Mem → Prop} {s k : Nat} {b : Pt Fp} (hs : s < w256) (hk : k < w256) (ob : On b) (h : ∀ c r, c = prfC s k b → r = prfR s k c → c < nN → r < nN → K (.tup [prA c r, .int .i64 0]) m) : ACall Pg F_dleq_Prove [numA s, numA k, ptA b] m K := by
  refine lift_flat (S_Prove0 s k b hs hk ob) (.cons _ _ _ _ lend_numA (.cons _ _ _ _ lend_numA (.cons _ _ _ _ (lend_flat flat_ptA) .nil))) ?_
  rintro v rfl
  exact h _ _ rfl rfl chN_lt (Nat.mod_lt _ (by decide))
theorem S_Prove_bad {m : Mem} {K : AV → Mem → Prop} {s k : Nat} {i : Bool} {x y : Nat} (hx : x < w256) (hy : y < w256) (hb : Bad i x y) (h : K (.tup [prA 0 0, .int .i64 3]) m) : ACall Pg F_dleq_Prove [numA s, numA k, rawA i x y] m K := by
  have h0 : ACall Pg F_dleq_Prove [numA s, numA k, rawA i x y] [] (fun v _ => v = .tup [prA 0 0, .int .i64 3] ∧ Flat true v) := by
    refine B_dleq_Prove ⟨rfl, ?_⟩
    conv => whnf
    repeat (refine ⟨⟨_, rfl⟩, ?_⟩; conv => whnf)
    refine S_Check_bad (i := i) hx hy hb ?_
    conv => whnf
    repeat (refine ⟨⟨_, rfl⟩, ?_⟩; conv => whnf)
    refine ⟨rfl, ?_⟩
    show Flat true (.tup [prA 0 0, .int .i64 3])
    exact flat_pre
  refine lift_flat h0 (.cons _ _ _ _ lend_numA (.cons _ _ _ _ lend_numA (.cons _ _ _ _ (lend_flat flat_rawA) .nil))) ?_
  rintro v rfl
  exact h
theorem T_rBase {m : Mem} {K : AV → Mem → Prop} {n : Nat} (hn : n < w256) (h : ∀ P, On P → P = nmul n gG → K (ptA P) m) : ACall Pg F_witanref01_Base [numA n] m K := S_rBase hn (h _ (on_G.nmul crvP n) rfl)
theorem T_rTimes2 {m : Mem} {K : AV → Mem → Prop} {n : Nat} {P : Pt Fp} (hn : n < w256) (oP : On P) (h : ∀ Q, On Q → Q = nmul n P → K (ptA Q) m) : ACall Pg F_witanref01_Times [numA n, ptA P] m K := S_rTimes hn oP (h _ (oP.nmul crvP n) rfl)
theorem S_nmul {m : Mem} {K : AV → Mem → Prop} {a b : Nat} (ha : a < w256) (hb : b < w256) (h : ∀ r, r = a * b % nN → K (numA r) m) : ACall Pg F_witanref06_mul [numA a, numA b] m K := by
  have h0 : ACall Pg F_witanref06_mul [numA a, numA b] [] (fun v _ => v = numA (a * b % nN) ∧ Flat true v) := by
    refine B_witanref06_mul ⟨rfl, ?_⟩
    conv => whnf
    repeat (refine ⟨⟨_, rfl⟩, ?_⟩; conv => whnf)
    refine S_RFMul_1 (a := a) (b := b) ha hb (fun r hr => ?_)
    rw [← hr]
    conv => whnf
    repeat (refine ⟨⟨_, rfl⟩, ?_⟩; conv => whnf)
    exact ⟨rfl, flat_numA⟩
  refine lift_flat h0 (.cons _ _ _ _ lend_numA (.cons _ _ _ _ lend_numA .nil)) ?_
  rintro v rfl
  exact h _ rfl
theorem S_nsub {m : Mem} {K : AV → Mem → Prop} {a b : Nat} (ha : a < w256) (hb : b < w256) (h : ∀ r, r = (a + (nN - b % nN)) % nN → K (numA r) m) : ACall Pg F_witanref06_sub [numA a, numA b] m K := by
  have h0 : ACall Pg F_witanref06_sub [numA a, numA b] [] (fun v _ => v = numA ((a + (nN - b % nN)) % nN) ∧ Flat true v) := by
    refine B_witanref06_sub ⟨rfl, ?_⟩
    conv => whnf
    repeat (refine ⟨⟨_, rfl⟩, ?_⟩; conv => whnf)
    refine S_RFSub_1 (a := a) (b := b) ha hb (fun r hr => ?_)
    rw [← hr]
    conv => whnf
    repeat (refine ⟨⟨_, rfl⟩, ?_⟩; conv => whnf)
    exact ⟨rfl, flat_numA⟩
  refine lift_flat h0 (.cons _ _ _ _ lend_numA (.cons _ _ _ _ lend_numA .nil)) ?_
  rintro v rfl
  exact h _ rfl
theorem S_RProve0 (s k : Nat) (b : Pt Fp) (hs : s < w256) (hk : k < w256) (ob : On b) : ACall Pg F_witanref06_Prove [numA s, numA k, ptA b] [] (fun v _ => v = prA (prfC s k b) (prfR s k (prfC s k b)) ∧ Flat true v) := by
  refine B_witanref06_Prove ⟨rfl, ?_⟩
  conv => whnf
  repeat (refine ⟨⟨_, rfl⟩, ?_⟩; conv => whnf)
  refine T_rBase (n := s) hs (fun a oa ha => ?_)
  conv => whnf
  repeat (refine ⟨⟨_, rfl⟩, ?_⟩; conv => whnf)
  refine T_rTimes2 (n := s) (P := b) hs ob (fun q oq hq => ?_)
  conv => whnf
  repeat (refine ⟨⟨_, rfl⟩, ?_⟩; conv => whnf)
  refine T_rBase (n := k) hk (fun u ou hu => ?_)
  conv => whnf
  repeat (refine ⟨⟨_, rfl⟩, ?_⟩; conv => whnf)
  refine T_rTimes2 (n := k) (P := b) hk ob (fun v ov hv => ?_)
  conv => whnf
  repeat (refine ⟨⟨_, rfl⟩, ?_⟩; conv => whnf)
  refine S_rchallenge (P := pr5 a b q u v) (Shows5 rfl ?_) (on_pr5 oa ob oq ou ov) (fun c hc hc1 => ?_)
  · intro i j hi hj
    have h1 : i = 0 ∨ i = 1 ∨ i = 2 ∨ i = 3 ∨ i = 4 := by omega
    have h2 : j = 0 ∨ j = 1 ∨ j = 2 ∨ j = 3 ∨ j = 4 ∨ j = 5 ∨ j = 6 ∨ j = 7 ∨ j = 8 := by omega
    rcases h1 with rfl | rfl | rfl | rfl | rfl <;> rcases h2 with rfl | rfl | rfl | rfl | rfl | rfl | rfl | rfl | rfl <;> rfl
  conv => whnf
  repeat (refine ⟨⟨_, rfl⟩, ?_⟩; conv => whnf)
  refine S_nmul (a := c) (b := s) (Nat.lt_trans hc1 (by decide)) hs (fun r1 hr1 => ?_)
  conv => whnf
  repeat (refine ⟨⟨_, rfl⟩, ?_⟩; conv => whnf)
  refine S_nsub (a := k) (b := r1) hk (by rw [hr1]; exact Nat.lt_trans (Nat.mod_lt _ (by decide)) (by decide)) (fun r2 hr2 => ?_)
  conv => whnf
  repeat (refine ⟨⟨_, rfl⟩, ?_⟩; conv => whnf)
  have e1 : c = prfC s k b := by rw [hc, ha, hq, hu, hv]; rfl
  have e2 : r2 = prfR s k (prfC s k b) := by rw [hr2, hr1, e1]; rfl
  rw [← e2, ← e1]
  exact ⟨rfl, flat_prA⟩
theorem S_RProve {m : Mem} {K : AV → Mem → Prop} {s k : Nat} {b : Pt Fp} (hs : s < w256) (hk : k < w256) (ob : On b) (h : ∀ c r, c = prfC s k b → r = prfR s k c → c < nN → r < nN → K (prA c r) m) : ACall Pg F_witanref06_Prove [numA s, numA k, ptA b] m K := by
  refine lift_flat (S_RProve0 s k b hs hk ob) (.cons _ _ _ _ lend_numA (.cons _ _ _ _ lend_numA (.cons _ _ _ _ (lend_flat flat_ptA) .nil))) ?_
  rintro v rfl
  exact h _ _ rfl rfl chN_lt (Nat.mod_lt _ (by decide))
theorem S_dtimes {m : Mem} {K : AV → Mem → Prop} {n : Nat} {P : Pt Fp} (hn : n < w256) (oP : On P) (h : ∀ R, On R → R = nmul n P → K (ptA R) m) : ACall Pg F_dleq_times [numA n, ptA P] m K := by
  have h0 : ACall Pg F_dleq_times [numA n, ptA P] [] (fun v _ => v = ptA (nmul n P) ∧ Flat true v) := by
    refine B_dleq_times ⟨rfl, ?_⟩
    conv => whnf
    repeat (refine ⟨⟨_, rfl⟩, ?_⟩; conv => whnf)
    refine T_Times (n := n) (P := P) hn oP (fun Q oQ hQ => ?_)
    rw [← hQ]
    conv => whnf
    repeat (refine ⟨⟨_, rfl⟩, ?_⟩; conv => whnf)
    exact ⟨rfl, flat_ptA⟩
  refine lift_flat h0 (.cons _ _ _ _ lend_numA (.cons _ _ _ _ (lend_flat flat_ptA) .nil)) ?_
  rintro v rfl
  exact h _ (oP.nmul crvP n) rfl
/-- Whether a proof holds. -/
noncomputable def hoB (a b k : Pt Fp) (c r : Nat) : Bool := decide (c < nN) && (decide (r < nN) && decide (chN (pr5 a b k (padd (nmul r gG) (nmul c a)) (padd (nmul r b) (nmul c k))) = c))
theorem flat_be {x : Bool} {e : Int} : Flat true (.tup [.bool x, .int .i64 e]) := .tup _ (.cons _ _ (.bool _) (.cons _ _ (.int _ _) .nil))
theorem S_RCmpE {m : Mem} {x y : AV} {K : AV → Mem → Prop} {a b : Nat} (hx : x = numA a) (hy : y = numA b) (ha : a < w256) (hb : b < w256) (h : ∀ r, r = cmpZ a b → K (.int .i64 r) m) : ACall Pg F_witanref01_Cmp [x, y] m K := by
  subst hx hy; exact S_RCmp ha hb h
theorem S_Holds0 (a b k : Pt Fp) (c r : Nat) (hc : c < w256) (hr : r < w256) (oa : On a) (ob : On b) (ok : On k) : ACall Pg F_dleq_Holds [ptA a, ptA b, ptA k, prA c r] [] (fun v _ => v = .tup [.bool (hoB a b k c r), .int .i64 0] ∧ Flat true v) := by
  refine B_dleq_Holds ⟨rfl, ?_⟩
  conv => whnf
  repeat (refine ⟨⟨_, rfl⟩, ?_⟩; conv => whnf)
  refine S_Check_ok (P := a) oa ?_
  conv => whnf
  repeat (refine ⟨⟨_, rfl⟩, ?_⟩; conv => whnf)
  refine S_Check_ok (P := b) ob ?_
  conv => whnf
  repeat (refine ⟨⟨_, rfl⟩, ?_⟩; conv => whnf)
  refine S_Check_ok (P := k) ok ?_
  conv => whnf
  repeat (refine ⟨⟨_, rfl⟩, ?_⟩; conv => whnf)
  refine S_Prime_1 (fun p hp => ?_)
  conv => whnf
  repeat (refine ⟨⟨_, rfl⟩, ?_⟩; conv => whnf)
  refine S_LCmpE (a := c) (b := p) rfl rfl hc (by rw [hp]; decide) (fun z1 hz1 => ?_)
  conv => whnf
  repeat (refine ⟨⟨_, rfl⟩, ?_⟩; conv => whnf)
  refine condB_mk (fun h1 => ?_) (fun h1 => ?_)
  · conv => whnf
    repeat (refine ⟨⟨_, rfl⟩, ?_⟩; conv => whnf)
    refine S_LCmpE (a := r) (b := p) rfl rfl hr (by rw [hp]; decide) (fun z2 hz2 => ?_)
    conv => whnf
    repeat (refine ⟨⟨_, rfl⟩, ?_⟩; conv => whnf)
    refine condB_mk (fun h2 => ?_) (fun h2 => ?_)
    · conv => whnf
      repeat (refine ⟨⟨_, rfl⟩, ?_⟩; conv => whnf)
      have g : hoB a b k c r = false := by
        rcases cmpZ_or hz2 with ⟨_, h⟩ | ⟨h, _⟩
        · rw [h] at h2; exact absurd h2 (by decide)
        · unfold hoB; rw [decide_eq_false (p := r < nN) (by omega)]; simp
      rw [g]
      exact ⟨rfl, flat_be⟩
    · have h3 : c < nN := by
        rcases cmpZ_or hz1 with ⟨h, _⟩ | ⟨_, h | h⟩
        · omega
        · rw [h] at h1; exact absurd h1 (by decide)
        · rw [h] at h1; exact absurd h1 (by decide)
      have h4 : r < nN := by
        rcases cmpZ_or hz2 with ⟨h, _⟩ | ⟨_, h | h⟩
        · omega
        · rw [h] at h2; exact absurd h2 (by decide)
        · rw [h] at h2; exact absurd h2 (by decide)
      clear h1 h2 hz1 hz2
      conv => whnf
      repeat (refine ⟨⟨_, rfl⟩, ?_⟩; conv => whnf)
      refine T_Base (n := r) hr (fun g1 og1 hg1 => ?_)
      conv => whnf
      repeat (refine ⟨⟨_, rfl⟩, ?_⟩; conv => whnf)
      refine S_dtimes (n := c) (P := a) hc oa (fun g2 og2 hg2 => ?_)
      conv => whnf
      repeat (refine ⟨⟨_, rfl⟩, ?_⟩; conv => whnf)
      refine T_Add (P := g1) (Q := g2) og1 og2 (fun u ou hu => ?_)
      conv => whnf
      repeat (refine ⟨⟨_, rfl⟩, ?_⟩; conv => whnf)
      refine T_Two (n := r) (k := c) (P := b) (Q := k) hr hc ob ok (fun v ov hv => ?_)
      conv => whnf
      repeat (refine ⟨⟨_, rfl⟩, ?_⟩; conv => whnf)
      refine S_challenge (P := pr5 a b k u v) (Shows5 rfl ?_) (on_pr5 oa ob ok ou ov) (fun d hd hd1 => ?_)
      · intro i j hi hj
        have h1 : i = 0 ∨ i = 1 ∨ i = 2 ∨ i = 3 ∨ i = 4 := by omega
        have h2 : j = 0 ∨ j = 1 ∨ j = 2 ∨ j = 3 ∨ j = 4 ∨ j = 5 ∨ j = 6 ∨ j = 7 ∨ j = 8 := by omega
        rcases h1 with rfl | rfl | rfl | rfl | rfl <;> rcases h2 with rfl | rfl | rfl | rfl | rfl | rfl | rfl | rfl | rfl <;> rfl
      conv => whnf
      repeat (refine ⟨⟨_, rfl⟩, ?_⟩; conv => whnf)
      have g : eqX d c = hoB a b k c r := by
        rw [eqX_iff (Nat.lt_trans hd1 (by decide)) hc]
        unfold hoB
        rw [decide_eq_true h3, decide_eq_true h4, Bool.true_and, Bool.true_and, ← hg1, ← hg2, ← hu, ← hv, ← hd]
      rw [← g]
      exact ⟨rfl, flat_be⟩
  · conv => whnf
    repeat (refine ⟨⟨_, rfl⟩, ?_⟩; conv => whnf)
    have g : hoB a b k c r = false := by
      rcases cmpZ_or hz1 with ⟨_, h⟩ | ⟨h, _⟩
      · rw [h] at h1; exact absurd h1 (by decide)
      · unfold hoB; rw [decide_eq_false (p := c < nN) (by omega)]; simp
    rw [g]
    exact ⟨rfl, flat_be⟩
theorem S_Below0 (c r : Nat) (hc : c < w256) (hr : r < w256) : ACall Pg F_witanref06_Below [prA c r] [] (fun v _ => v = .bool (decide (c < nN) && decide (r < nN)) ∧ Flat true v) := by
  refine B_witanref06_Below ⟨rfl, ?_⟩
  conv => whnf
  repeat (refine ⟨⟨_, rfl⟩, ?_⟩; conv => whnf)
  refine S_RPrime_1 (fun p hp => ?_)
  conv => whnf
  repeat (refine ⟨⟨_, rfl⟩, ?_⟩; conv => whnf)
  refine S_RCmpE (a := c) (b := p) rfl rfl hc (by rw [hp]; decide) (fun z1 hz1 => ?_)
  conv => whnf
  repeat (refine ⟨⟨_, rfl⟩, ?_⟩; conv => whnf)
  refine condB_mk (fun h1 => ?_) (fun h1 => ?_)
  · conv => whnf
    repeat (refine ⟨⟨_, rfl⟩, ?_⟩; conv => whnf)
    refine S_RCmpE (a := r) (b := p) rfl rfl hr (by rw [hp]; decide) (fun z2 hz2 => ?_)
    conv => whnf
    repeat (refine ⟨⟨_, rfl⟩, ?_⟩; conv => whnf)
    have h3 : c < nN := by
      rcases cmpZ_or hz1 with ⟨h, _⟩ | ⟨_, h | h⟩
      · omega
      · rw [h] at h1; exact absurd h1 (by decide)
      · rw [h] at h1; exact absurd h1 (by decide)
    rw [decide_eq_true h3, Bool.true_and]
    have g : decide (z2 < 0) = decide (r < nN) := by
      rcases cmpZ_or hz2 with ⟨h, h5⟩ | ⟨h, h5 | h5⟩
      · rw [h5, decide_eq_true (p := r < nN) (by omega)]; rfl
      · rw [h5, decide_eq_false (p := r < nN) (by omega)]; rfl
      · rw [h5, decide_eq_false (p := r < nN) (by omega)]; rfl
    rw [g]
    exact ⟨rfl, .bool _⟩
  · conv => whnf
    repeat (refine ⟨⟨_, rfl⟩, ?_⟩; conv => whnf)
    have g : decide (c < nN) = false := by
      rcases cmpZ_or hz1 with ⟨_, h⟩ | ⟨h, _⟩
      · rw [h] at h1; exact absurd h1 (by decide)
      · exact decide_eq_false (by omega)
    rw [g, Bool.false_and]
    exact ⟨rfl, .bool _⟩
theorem S_Below {m : Mem} {K : AV → Mem → Prop} {c r : Nat} (hc : c < w256) (hr : r < w256) (h1 : c < nN → r < nN → K (.bool true) m) (h2 : ¬ (c < nN ∧ r < nN) → K (.bool false) m) : ACall Pg F_witanref06_Below [prA c r] m K := by
  refine lift_flat (S_Below0 c r hc hr) (.cons _ _ _ _ (lend_flat flat_prA) .nil) ?_
  rintro v rfl
  by_cases h3 : c < nN <;> by_cases h4 : r < nN
  · rw [decide_eq_true h3, decide_eq_true h4]; exact h1 h3 h4
  · rw [decide_eq_true h3, decide_eq_false h4]; exact h2 (by omega)
  · rw [decide_eq_false h3]; exact h2 (by omega)
  · rw [decide_eq_false h3]; exact h2 (by omega)
theorem T_rTwo {m : Mem} {K : AV → Mem → Prop} {n k : Nat} {P Q : Pt Fp} (hn : n < w256) (hk : k < w256) (oP : On P) (oQ : On Q) (h : ∀ R, On R → R = padd (nmul n P) (nmul k Q) → K (ptA R) m) : ACall Pg F_witanref01_Two [numA n, ptA P, numA k, ptA Q] m K := S_rTwo hn hk oP oQ (h _ ((oP.nmul crvP n).add crvP (oQ.nmul crvP k)) rfl)
theorem S_RHolds0 (a b k : Pt Fp) (c r : Nat) (hc : c < w256) (hr : r < w256) (oa : On a) (ob : On b) (ok : On k) : ACall Pg F_witanref06_Holds [ptA a, ptA b, ptA k, prA c r] [] (fun v _ => v = .bool (hoB a b k c r) ∧ Flat true v) := by
  refine B_witanref06_Holds ⟨rfl, ?_⟩
  conv => whnf
  repeat (refine ⟨⟨_, rfl⟩, ?_⟩; conv => whnf)
  refine S_Below (c := c) (r := r) hc hr (fun h3 h4 => ?_) (fun h3 => ?_)
  · conv => whnf
    repeat (refine ⟨⟨_, rfl⟩, ?_⟩; conv => whnf)
    refine S_rG ?_
    conv => whnf
    repeat (refine ⟨⟨_, rfl⟩, ?_⟩; conv => whnf)
    refine T_rTwo (n := r) (k := c) (P := gG) (Q := a) hr hc on_G oa (fun u ou hu => ?_)
    conv => whnf
    repeat (refine ⟨⟨_, rfl⟩, ?_⟩; conv => whnf)
    refine T_rTwo (n := r) (k := c) (P := b) (Q := k) hr hc ob ok (fun v ov hv => ?_)
    conv => whnf
    repeat (refine ⟨⟨_, rfl⟩, ?_⟩; conv => whnf)
    refine S_rchallenge (P := pr5 a b k u v) (Shows5 rfl ?_) (on_pr5 oa ob ok ou ov) (fun d hd hd1 => ?_)
    · intro i j hi hj
      have h1 : i = 0 ∨ i = 1 ∨ i = 2 ∨ i = 3 ∨ i = 4 := by omega
      have h2 : j = 0 ∨ j = 1 ∨ j = 2 ∨ j = 3 ∨ j = 4 ∨ j = 5 ∨ j = 6 ∨ j = 7 ∨ j = 8 := by omega
      rcases h1 with rfl | rfl | rfl | rfl | rfl <;> rcases h2 with rfl | rfl | rfl | rfl | rfl | rfl | rfl | rfl | rfl <;> rfl
    conv => whnf
    repeat (refine ⟨⟨_, rfl⟩, ?_⟩; conv => whnf)
    have g : eqX d c = hoB a b k c r := by
      rw [eqX_iff (Nat.lt_trans hd1 (by decide)) hc]
      unfold hoB
      rw [decide_eq_true h3, decide_eq_true h4, Bool.true_and, Bool.true_and, ← hu, ← hv, ← hd]
    rw [← g]
    exact ⟨rfl, .bool _⟩
  · conv => whnf
    repeat (refine ⟨⟨_, rfl⟩, ?_⟩; conv => whnf)
    have g : hoB a b k c r = false := by
      unfold hoB
      by_cases h5 : c < nN
      · rw [decide_eq_false (p := r < nN) (by omega)]; simp
      · rw [decide_eq_false h5]; simp
    rw [g]
    exact ⟨rfl, .bool _⟩
theorem S_RHolds {m : Mem} {K : AV → Mem → Prop} {a b k : Pt Fp} {c r : Nat} (hc : c < w256) (hr : r < w256) (oa : On a) (ob : On b) (ok : On k) (h : ∀ x, x = hoB a b k c r → K (.bool x) m) : ACall Pg F_witanref06_Holds [ptA a, ptA b, ptA k, prA c r] m K := by
  refine lift_flat (S_RHolds0 a b k c r hc hr oa ob ok) (.cons _ _ _ _ (lend_flat flat_ptA) (.cons _ _ _ _ (lend_flat flat_ptA) (.cons _ _ _ _ (lend_flat flat_ptA) (.cons _ _ _ _ (lend_flat flat_prA) .nil)))) ?_
  rintro v rfl
  exact h _ rfl
theorem S_Holds {m : Mem} {K : AV → Mem → Prop} {a b k : Pt Fp} {c r : Nat} (hc : c < w256) (hr : r < w256) (oa : On a) (ob : On b) (ok : On k) (h : ∀ x, x = hoB a b k c r → K (.tup [.bool x, .int .i64 0]) m) : ACall Pg F_dleq_Holds [ptA a, ptA b, ptA k, prA c r] m K := by
  refine lift_flat (S_Holds0 a b k c r hc hr oa ob ok) (.cons _ _ _ _ (lend_flat flat_ptA) (.cons _ _ _ _ (lend_flat flat_ptA) (.cons _ _ _ _ (lend_flat flat_ptA) (.cons _ _ _ _ (lend_flat flat_prA) .nil)))) ?_
  rintro v rfl
  exact h _ rfl
theorem S_Holds_bad {m : Mem} {K : AV → Mem → Prop} {i j l : Bool} {x1 y1 x2 y2 x3 y3 c r : Nat} (hx1 : x1 < w256) (hy1 : y1 < w256) (hx2 : x2 < w256) (hy2 : y2 < w256) (hx3 : x3 < w256) (hy3 : y3 < w256) (hb : Bad i x1 y1 ∨ Bad j x2 y2 ∨ Bad l x3 y3) (h : K (.tup [.bool false, .int .i64 3]) m) : ACall Pg F_dleq_Holds [rawA i x1 y1, rawA j x2 y2, rawA l x3 y3, prA c r] m K := by
  have h0 : ACall Pg F_dleq_Holds [rawA i x1 y1, rawA j x2 y2, rawA l x3 y3, prA c r] [] (fun v _ => v = .tup [.bool false, .int .i64 3] ∧ Flat true v) := by
    refine B_dleq_Holds ⟨rfl, ?_⟩
    conv => whnf
    repeat (refine ⟨⟨_, rfl⟩, ?_⟩; conv => whnf)
    refine S_Check (i := i) hx1 hy1 (fun P1 o1 e1 => ?_) (fun b1 => ?_)
    · conv => whnf
      repeat (refine ⟨⟨_, rfl⟩, ?_⟩; conv => whnf)
      refine S_Check (i := j) hx2 hy2 (fun P2 o2 e2 => ?_) (fun b2 => ?_)
      · conv => whnf
        repeat (refine ⟨⟨_, rfl⟩, ?_⟩; conv => whnf)
        refine S_Check (i := l) hx3 hy3 (fun P3 o3 e3 => ?_) (fun b3 => ?_)
        · exfalso
          rcases hb with hb | hb | hb
          · exact hb P1 o1 e1
          · exact hb P2 o2 e2
          · exact hb P3 o3 e3
        · conv => whnf
          repeat (refine ⟨⟨_, rfl⟩, ?_⟩; conv => whnf)
          exact ⟨rfl, flat_be⟩
      · conv => whnf
        repeat (refine ⟨⟨_, rfl⟩, ?_⟩; conv => whnf)
        exact ⟨rfl, flat_be⟩
    · conv => whnf
      repeat (refine ⟨⟨_, rfl⟩, ?_⟩; conv => whnf)
      exact ⟨rfl, flat_be⟩
  refine lift_flat h0 (.cons _ _ _ _ (lend_flat flat_rawA) (.cons _ _ _ _ (lend_flat flat_rawA) (.cons _ _ _ _ (lend_flat flat_rawA) (.cons _ _ _ _ (lend_flat flat_prA) .nil)))) ?_
  rintro v rfl
  exact h
end Go.Proofs.Ytdeholmpcbakbaa
end

section
/- Proofs compared, and that they hold; no condition. -/
set_option linter.unusedVariables false
set_option linter.unusedSimpArgs false
set_option maxRecDepth 100000
set_option pp.maxSteps 3000
set_option pp.deepTerms false
set_option pp.deepTerms.threshold 7
namespace Go.Proofs.Ytdeholmpcbakbaa
open Go Go.Wit

abbrev tProof : Ty := .st [.arr 4 (.int .u64), .arr 4 (.int .u64)]
theorem ok_proof {av : AV} (h : okV tProof av) : ∃ c r, c < w256 ∧ r < w256 ∧ av = prA c r := by
  obtain ⟨cs, rfl, h⟩ := h
  simp only [okC, okCs] at h
  obtain ⟨c, d, rfl, l2, h2, e, f, rfl, l3, h3, rfl⟩ := h
  obtain ⟨x, hx, rfl⟩ := ok_cells4 (by simpa only [okC] using h2)
  obtain ⟨y, hy, rfl⟩ := ok_cells4 (by simpa only [okC] using h3)
  exact ⟨x, y, hx, hy, rfl⟩
theorem eqX_refl9 {a : Nat} : eqX a a = true := by simp [eqX]
theorem S_kProof0 (c r : Nat) : ACall Pg F_witankeep_Proof [prA c r, prA c r] [] (fun v _ => v = .bool true ∧ Flat true v) := by
  refine B_witankeep_Proof ⟨rfl, ?_⟩
  conv => whnf
  repeat (refine ⟨⟨_, rfl⟩, ?_⟩; conv => whnf)
  refine condB_yes (by show (eqX c c == true) = true; rw [eqX_refl9]; rfl) ?_
  conv => whnf
  repeat (refine ⟨⟨_, rfl⟩, ?_⟩; conv => whnf)
  have e : eqX r r = true := eqX_refl9
  refine ⟨?_, .bool _⟩
  show AV.bool (eqX r r) = _
  rw [e]
theorem S_kProof {m : Mem} {K : AV → Mem → Prop} {x y : AV} {c r : Nat} (hx : x = prA c r) (hy : y = prA c r) (h : K (.bool true) m) : ACall Pg F_witankeep_Proof [x, y] m K := by
  subst hx hy
  refine lift_flat (S_kProof0 c r) (.cons _ _ _ _ (lend_flat flat_prA) (.cons _ _ _ _ (lend_flat flat_prA) .nil)) ?_
  rintro v rfl
  exact h
/-- Both sums of a proof that was made are the nonce's points. -/
theorem prf_sum {P : Pt Fp} (oP : On P) (s k c : Nat) : padd (nmul (prfR s k c) P) (nmul c (nmul s P)) = nmul k P := by
  rw [← nmul_mul crvP oP, ← nmul_add crvP oP, ← nmul_mod_all oP, ← nmul_mod_all oP k]
  congr 1
  unfold prfR
  have h : c * s % nN < nN := Nat.mod_lt _ (by decide)
  generalize hx : c * s % nN = x at *
  rw [Nat.mod_eq_of_lt h, Nat.add_mod, Nat.mod_mod, hx, ← Nat.add_mod_mod, Nat.mod_add_mod]
  have h2 := hx
  rw [Nat.add_mod_mod, Nat.add_assoc, show nN - x + x = nN by omega, Nat.add_mod_right]
theorem hoB_prf {s k : Nat} {b : Pt Fp} (ob : On b) : hoB (nmul s gG) b (nmul s b) (prfC s k b) (prfR s k (prfC s k b)) = true := by
  unfold hoB
  rw [prf_sum on_G, prf_sum ob, decide_eq_true (p := prfC s k b < nN) chN_lt, decide_eq_true (p := prfR s k (prfC s k b) < nN) (Nat.mod_lt _ (by decide))]
  simp [prfC]
end Go.Proofs.Ytdeholmpcbakbaa
end

