/- Texts of a proof, one behind the other; the last of these: What a dealer submits; acts that a call looks at; no condition. -/
import Derived.Test.YtfolpdmbpbbimaaZ7
import Derived.Laws.RangeString
import Derived.Test.YtfolpdmbpbbimaaProg
import Derived.Tactics
import Derived.Tactics2
import Derived.StillTactics
import Derived.Laws.AppendOwn
import Derived.Laws.Runes
import Derived.Laws.CopyRow
import Derived.Laws.Shifts
import Derived.Laws.Rows
import Derived.Laws.BitsLemmas
import Derived.Laws.Tables
import Derived.Laws.NewBlocks
import Derived.Laws.Unary
import Derived.Laws.Strings
import Derived.Laws.ShiftsVarLaws
import Derived.Laws.Bits
import Derived.Laws.Strings2
import Derived.Laws.Wrap64
import Derived.Laws.RangeAny
import Derived.Laws.Entries
import Derived.Laws.World
import Derived.Laws.Strings3
import Derived.Laws.Sem
import Derived.Laws.Small
import Derived.Scope
import Derived.FnLit
import Derived.LoopTactic
import Derived.Handy
section
/- What is left of long numbers; scalars; no condition. -/
set_option linter.unusedVariables false
set_option linter.unusedSimpArgs false
set_option maxRecDepth 100000
set_option pp.maxSteps 3000
namespace Go.Proofs.Ytfolpdmbpbbimaa
open Go Go.Wit

theorem S_LSubE {m : Mem} {x y : AV} {K : AV → Mem → Prop} {a b : Nat} (hx : x = numA a) (hy : y = numA b) (ha : a < w256) (hb : b < w256) (h : ∀ s c : Nat, a + c * w256 = b + s → s < w256 → c ≤ 1 → K (.tup [numA s, .int .u64 c]) m) : ACall Pg F_limb_Sub [x, y] m K := by
  subst hx hy; exact S_LSub ha hb h
theorem S_LCmpE {m : Mem} {x y : AV} {K : AV → Mem → Prop} {a b : Nat} (hx : x = numA a) (hy : y = numA b) (ha : a < w256) (hb : b < w256) (h : ∀ r, r = cmpZ a b → K (.int .i64 r) m) : ACall Pg F_limb_Cmp [x, y] m K := by
  subst hx hy; exact S_LCmp ha hb h
theorem pow64 : (18446744073709551616 : Nat) ^ 3 = 6277101735386680763835789423207666416102355444464034512896 ∧ (18446744073709551616 : Nat) ^ 2 = 340282366920938463463374607431768211456 := by decide
theorem top_eq {r s c : Nat} (hr : r < w256) (hs : s < w256) (hc : c ≤ 1) (e : r + r = s + c * w256) : (lim r 3).fdiv (2 ^ min (Int.toNat 63) IntKind.u64.bits) = (c : Int) := by
  have e1 : (2 : Int) ^ min (Int.toNat 63) IntKind.u64.bits = ((9223372036854775808 : Nat) : Int) := rfl
  rw [e1, Int.fdiv_eq_ediv_of_nonneg _ (by omega)]
  unfold lim
  rw [← Int.natCast_ediv, pow64.1]
  unfold w256 at *
  congr 1
  omega
theorem or_bit {x b : Nat} (hx : x < 18446744073709551616) (h2 : x % 2 = 0) (hb : b ≤ 1) : bitsV .or .u64 (x : Int) (b : Int) = ((x + b : Nat) : Int) := by
  have e : (BitVec.ofInt 64 (x : Int) ||| BitVec.ofInt 64 (b : Int)).toNat = x + b := by
    rw [BitVec.toNat_or, BitVec.toNat_ofInt, BitVec.toNat_ofInt]
    have h1 : ((x : Int) % ((2 ^ 64 : Nat) : Int)).toNat = x := by omega
    have h3 : ((b : Int) % ((2 ^ 64 : Nat) : Int)).toNat = b := by omega
    rw [h1, h3]
    obtain ⟨y, rfl⟩ : ∃ y, x = 2 ^ 1 * y := ⟨x / 2, by omega⟩
    rw [← Nat.two_pow_add_eq_or_of_lt (by omega)]
  show IntKind.u64.wrap ((BitVec.ofInt 64 (x : Int) ||| BitVec.ofInt 64 (b : Int)).toNat : Int) = _
  rw [e, wu64]
  omega
theorem or_lim {s b : Nat} (h2 : s % 2 = 0) (hb : b ≤ 1) : bitsV .or .u64 (lim s 0) (IntKind.u64.wrap (b : Int)) = lim (s + b) 0 := by
  have eb : IntKind.u64.wrap (b : Int) = (b : Int) := by rw [wu64]; omega
  rw [eb]
  unfold lim
  rw [Nat.pow_zero, Nat.div_one, Nat.div_one, or_bit (Nat.mod_lt _ (by decide)) (by omega) hb]
  congr 1
  omega
theorem lim_hi {s b j : Nat} (h2 : s % 2 = 0) (hb : b ≤ 1) : lim (s + b) (j + 1) = lim s (j + 1) := by
  unfold lim
  have e : (s + b) / 18446744073709551616 ^ (j + 1) = s / 18446744073709551616 ^ (j + 1) := by
    rw [Nat.pow_succ, Nat.mul_comm, ← Nat.div_div_eq_div_mul, ← Nat.div_div_eq_div_mul]
    congr 1
    omega
  rw [e]
theorem or_cells {s b : Nat} (h2 : s % 2 = 0) (hb : b ≤ 1) : AV.agg [.int .u64 (bitsV .or .u64 (lim s 0) (IntKind.u64.wrap (b : Int))), .int .u64 (lim s 1), .int .u64 (lim s 2), .int .u64 (lim s 3)] = numA (s + b) := by
  rw [or_lim h2 hb, ← lim_hi (j := 0) h2 hb, ← lim_hi (j := 1) h2 hb, ← lim_hi (j := 2) h2 hb]
  rfl
theorem cell4 {blk : Blk} {a b c d : AV} (h0 : cellG blk 0 0 0 = a) (h1 : cellG blk 0 0 1 = b) (h2 : cellG blk 0 0 2 = c) (h3 : cellG blk 0 0 3 = d) : AV.agg (List.map (cellG blk 0 0) (List.range 4)) = .agg [a, b, c, d] := by
  subst h0 h1 h2 h3; rfl
theorem upd_at {n : Nat} {g : Nat → Nat → AV} {v : AV} : cellG ⟨1, n, updG ⟨1, n, g⟩ 0 0 1 [v]⟩ 0 0 0 = v := by
  show updG ⟨1, n, g⟩ 0 0 1 [v] 0 0 = v
  rw [updG_one, if_pos rfl]
theorem upd_ne {n t : Nat} {g : Nat → Nat → AV} {v w : AV} (e : g (t + 1) 0 = w) : cellG ⟨1, n, updG ⟨1, n, g⟩ 0 0 1 [v]⟩ 0 0 (t + 1) = w := by
  rw [cellG_one, updG_one, if_neg (by omega), Nat.zero_add, e]
theorem or_blk {s b i j : Nat} {nv : Bool} {σ : Nat → Option Nat} {A : AV} (h2 : s % 2 = 0) (hb : b ≤ 1) (hi : i < 4) (hj : j < 1) (hA : A = updG ⟨1, 4, lstG 1 (numL s)⟩ 0 0 1 [.int .u64 (bitsV .or .u64 (lim s 0) (IntKind.u64.wrap (b : Int)))] i j) : RV nv σ A (lstG 1 (numL (s + b)) i j) := by
  subst hA
  obtain rfl : j = 0 := by omega
  have : i = 0 ∨ i = 1 ∨ i = 2 ∨ i = 3 := by omega
  rcases this with rfl | rfl | rfl | rfl
  · exact .eq _ _ (congrArg (AV.int .u64) (or_lim h2 hb)) (.int _ _)
  · exact .eq _ _ (congrArg (AV.int .u64) (lim_hi (j := 0) h2 hb).symm) (.int _ _)
  · exact .eq _ _ (congrArg (AV.int .u64) (lim_hi (j := 1) h2 hb).symm) (.int _ _)
  · exact .eq _ _ (congrArg (AV.int .u64) (lim_hi (j := 2) h2 hb).symm) (.int _ _)
theorem step_mod {V k m : Nat} : V / 2 ^ k % m = (2 * (V / 2 ^ (k + 1) % m) + V / 2 ^ k % 2) % m := by
  rw [Nat.pow_succ, ← Nat.div_div_eq_div_mul]
  generalize V / 2 ^ k = W
  have e : W = 2 * (W / 2) + W % 2 := (Nat.div_add_mod W 2).symm
  conv => lhs; rw [e]
  simp [Nat.add_mod, Nat.mul_mod]
theorem bit_hi {hi lo k : Nat} (h2 : lo < w256) (h : 256 ≤ k) (h5 : k < 512) : (hi * w256 + lo) / 2 ^ k % 2 = hi / 2 ^ (k % 256) % 2 := by
  have e : (2 : Nat) ^ k = w256 * 2 ^ (k % 256) := by
    rw [show w256 = 2 ^ 256 by decide, ← Nat.pow_add]; congr 1; omega
  rw [e, ← Nat.div_div_eq_div_mul]
  congr 2
  rw [Nat.mul_comm, Nat.mul_add_div (by decide), Nat.div_eq_of_lt h2]; rfl
theorem bit_lo {hi lo k : Nat} (h : k < 256) : (hi * w256 + lo) / 2 ^ k % 2 = lo / 2 ^ (k % 256) % 2 := by
  rw [Nat.mod_eq_of_lt h]
  obtain ⟨d, hd⟩ : ∃ d, 256 = k + (d + 1) := ⟨255 - k, by omega⟩
  have e : w256 = 2 ^ k * (2 ^ d * 2) := by rw [← Nat.pow_succ, ← Nat.pow_add, ← hd]
  rw [e, show hi * (2 ^ k * (2 ^ d * 2)) + lo = 2 ^ k * (hi * 2 ^ d * 2) + lo by rw [Nat.mul_left_comm, Nat.mul_assoc], Nat.mul_add_div (Nat.pow_pos (by decide)), Nat.add_comm, Nat.add_mul_mod_self_right]
theorem mod_wrap {r s b c m t d : Nat} (h3 : m < w256) (hr : r < m) (e1 : r + r = s + c * w256) (hs : s < w256) (hc : c = 1) (hb : b ≤ 1) (e2 : s + b + d * w256 = m + t) (ht : t < w256) (hd : d ≤ 1) : t = (2 * r + b) % m := by
  subst hc
  have e : 2 * r + b = t + m := by
    unfold w256 at *
    have : d = 0 ∨ d = 1 := by omega
    rcases this with rfl | rfl <;> omega
  rw [e, Nat.add_mod_right, Nat.mod_eq_of_lt (by unfold w256 at *; omega)]
theorem mod_sub {r s b c m t d : Nat} (hr : r < m) (e1 : r + r = s + c * w256) (hc : c = 0) (hb : b ≤ 1) (hge : m ≤ s + b) (e2 : s + b + d * w256 = m + t) (ht : t < w256) (hd : d ≤ 1) : t = (2 * r + b) % m := by
  subst hc
  have e : 2 * r + b = t + m := by
    unfold w256 at *
    have : d = 0 ∨ d = 1 := by omega
    rcases this with rfl | rfl <;> omega
  rw [e, Nat.add_mod_right, Nat.mod_eq_of_lt (by omega)]
theorem big_zero {hi lo e a b : Nat} (he : e = a + b) (ha : 2 ^ a = w256) (hb : 2 ^ b = w256) (h1 : hi < w256) (h2 : lo < w256) : (hi * w256 + lo) / 2 ^ e = 0 := by
  rw [he, Nat.pow_add, ha, hb]
  refine Nat.div_eq_of_lt ?_
  have h3 : hi * w256 ≤ (w256 - 1) * w256 := Nat.mul_le_mul_right _ (by omega)
  rw [Nat.sub_mul, Nat.one_mul] at h3
  have h4 : w256 ≤ w256 * w256 := Nat.le_mul_of_pos_right _ (by decide)
  omega
theorem S_LMod0 (hi lo m : Nat) (h1 : hi < w256) (h2 : lo < w256) (h3 : m < w256) (h0 : 0 < m) : ACall Pg F_limb_Mod [numA hi, numA lo, numA m] [] (fun v _ => v = .tup [numA ((hi * w256 + lo) % m), .int .i64 0] ∧ Flat true v) := by
  refine B_limb_Mod ⟨rfl, ?_⟩
  conv => whnf
  repeat (refine ⟨⟨[], rfl⟩, ?_⟩; conv => whnf)
  refine c_eqz h3 (fun h => by omega) (fun _ => ?_)
  conv => whnf
  repeat (refine ⟨⟨[], rfl⟩, ?_⟩; conv => whnf)
  obtain ⟨Q, hQ⟩ : ∃ Q : Nat, Q = 256 + 256 := ⟨_, rfl⟩
  refine loop_wk mixed (I := fun q l w => ∃ (r : Nat) (v : Int), l = [(3, .ptr 0 0 0), (4, .ptr 1 0 0), (5, .ptr 2 0 0), (6, .ptr 3 0 0), (8, .ptr 4 0 0), (9, .int .i64 v)] ∧ w = [some ⟨1, 4, lstG 1 (numL hi)⟩, some ⟨1, 4, lstG 1 (numL lo)⟩, some ⟨1, 4, lstG 1 (numL m)⟩, some ⟨1, 4, lstG 1 (numL 0)⟩, some ⟨1, 4, lstG 1 (numL r)⟩] ∧ v = (q : Int) - 1 ∧ q ≤ 512 ∧ r = (hi * w256 + lo) / 2 ^ q % m) Q
    (l0 := [(3, .ptr 0 0 0), (4, .ptr 1 0 0), (5, .ptr 2 0 0), (6, .ptr 3 0 0), (8, .ptr 4 0 0), (9, .int .i64 (511 : Int))]) (m0 := [some ⟨1, 4, lstG 1 (numL hi)⟩, some ⟨1, 4, lstG 1 (numL lo)⟩, some ⟨1, 4, lstG 1 (numL m)⟩, some ⟨1, 4, lstG 1 (numL 0)⟩, some ⟨1, 4, lstG 1 (numL 0)⟩]) [some 0, some 1, some 2, some 3, some 4] ⟨0, 511, rfl, rfl, by omega, by omega, ?_⟩ ?_ ?_
  · rw [big_zero hQ (by decide) (by decide) h1 h2, Nat.zero_mod]
  · refine .mk0 ⟨.ptr _ _ _ _ rfl, .ptr _ _ _ _ rfl, .ptr _ _ _ _ rfl, .ptr _ _ _ _ rfl, .ptr _ _ _ _ rfl, Flat.i rfl, trivial⟩ ⟨.old 0 0 _ _ rfl rfl ⟨rfl, Nat.le_refl _, fun i j hi hj => .eq _ _ rfl flat_numG⟩, .old 1 1 _ _ rfl rfl ⟨rfl, Nat.le_refl _, fun i j hi hj => .eq _ _ rfl flat_numG⟩, .old 2 2 _ _ rfl rfl ⟨rfl, Nat.le_refl _, fun i j hi hj => .eq _ _ rfl flat_numG⟩, .old 3 3 _ _ rfl rfl ⟨rfl, Nat.le_refl _, fun i j hi hj => ?_⟩, .old 4 4 _ _ rfl rfl ⟨rfl, Nat.le_refl _, fun i j hi hj => ?_⟩, trivial⟩ rfl rfl
    all_goals
      have hj : j < 1 := hj
      have hi : i < 4 := hi
      obtain rfl : j = 0 := by omega
      have : i = 0 ∨ i = 1 ∨ i = 2 ∨ i = 3 := by omega
      rcases this with rfl | rfl | rfl | rfl <;> exact .eq _ _ rfl (.int _ _)
  · rintro q l w ⟨r, v, rfl, rfl, hv, hq, hr⟩
    conv => whnf
    repeat (refine ⟨⟨[], rfl⟩, ?_⟩; conv => whnf)
    refine condB_mk (fun hb => ?_) (fun hb => ?_)
    · obtain ⟨k, rfl⟩ : ∃ k, q = k + 1 := ⟨q - 1, by simp at hb; omega⟩
      obtain rfl : v = (k : Int) := by omega
      have hrm : r < m := by rw [hr]; exact Nat.mod_lt _ h0
      have hr1 : r < w256 := by omega
      conv => whnf
      repeat (refine ⟨⟨[], rfl⟩, ?_⟩; conv => whnf)
      refine condB_mk (fun hk => ?_) (fun hk => ?_)
      · conv => whnf
        repeat (refine ⟨⟨[], rfl⟩, ?_⟩; conv => whnf)
        refine S_LAdd hr1 hr1 (fun s c e1 hs hc => ?_)
        conv => whnf
        repeat (refine ⟨⟨[], rfl⟩, ?_⟩; conv => whnf)
        refine S_LBit (a := hi) (i := k % 256) (by omega) (fun b hb2 => ?_)
        conv => whnf
        repeat (refine ⟨⟨[], rfl⟩, ?_⟩; conv => whnf)
        have hb3 : b = (hi * w256 + lo) / 2 ^ k % 2 := by rw [hb2]; exact (bit_hi h2 (by simp at hk; omega) (by omega)).symm
        have hb1 : b ≤ 1 := by omega
        have hs2 : s % 2 = 0 := by unfold w256 at e1; omega
        have hsb : s + b < w256 := by unfold w256 at hs ⊢; omega
        have et := top_eq hr1 hs hc e1
        have hx := or_cells (s := s) (b := b) hs2 hb1
        have hst : (hi * w256 + lo) / 2 ^ k % m = (2 * r + b) % m := by rw [hr, hb3]; exact step_mod
        by_cases hc1 : c = 1
        · refine condB_no (by rw [et, hc1]; rfl) ?_
          conv => whnf
          repeat (refine ⟨⟨[], rfl⟩, ?_⟩; conv => whnf)
          refine S_LSubE (a := s + b) (b := m) (Eq.trans (cell4 (a := .int .u64 (bitsV .or .u64 (lim s 0) (IntKind.u64.wrap (b : Int)))) (b := .int .u64 (lim s 1)) (c := .int .u64 (lim s 2)) (d := .int .u64 (lim s 3)) upd_at (upd_ne (t := 0) rfl) (upd_ne (t := 1) rfl) (upd_ne (t := 2) rfl)) hx) rfl hsb h3 (fun t d e2 ht hd => ?_)
          conv => whnf
          repeat (refine ⟨⟨[], rfl⟩, ?_⟩; conv => whnf)
          refine ⟨k, _, _, [some 0, some 1, some 2, some 3, some 4], Nat.lt_succ_self _, ⟨t, (k : Int) - 1, rfl, rfl, rfl, by omega, ?_⟩, ?_⟩
          · rw [hst]
            exact mod_wrap h3 hrm e1 hs hc1 hb1 e2 ht hd
          · exact .mk0 ⟨.ptr _ _ _ _ rfl, .ptr _ _ _ _ rfl, .ptr _ _ _ _ rfl, .ptr _ _ _ _ rfl, .ptr _ _ _ _ rfl, Flat.i (w64 (by omega) (by omega)), trivial⟩ ⟨.old 0 0 _ _ rfl rfl ⟨rfl, Nat.le_refl _, fun i j hi hj => .eq _ _ rfl flat_numG⟩, .old 1 1 _ _ rfl rfl ⟨rfl, Nat.le_refl _, fun i j hi hj => .eq _ _ rfl flat_numG⟩, .old 2 2 _ _ rfl rfl ⟨rfl, Nat.le_refl _, fun i j hi hj => .eq _ _ rfl flat_numG⟩, .old 3 3 _ _ rfl rfl ⟨rfl, Nat.le_refl _, fun i j hi hj => .eq _ _ rfl flat_numG⟩, .old 4 4 _ _ rfl rfl ⟨rfl, Nat.le_refl _, fun i j hi hj => .eq _ _ rfl flat_numG⟩, trivial⟩ rfl rfl
        · have hc0 : c = 0 := by omega
          refine condB_yes (by rw [et, hc0]; rfl) ?_
          conv => whnf
          repeat (refine ⟨⟨[], rfl⟩, ?_⟩; conv => whnf)
          refine S_LCmpE (a := s + b) (b := m) (Eq.trans (cell4 (a := .int .u64 (bitsV .or .u64 (lim s 0) (IntKind.u64.wrap (b : Int)))) (b := .int .u64 (lim s 1)) (c := .int .u64 (lim s 2)) (d := .int .u64 (lim s 3)) upd_at (upd_ne (t := 0) rfl) (upd_ne (t := 1) rfl) (upd_ne (t := 2) rfl)) hx) rfl hsb h3 (fun z hz => ?_)
          conv => whnf
          repeat (refine ⟨⟨[], rfl⟩, ?_⟩; conv => whnf)
          refine condB_mk (fun hz2 => ?_) (fun hz2 => ?_)
          · have hge : m ≤ s + b := by
              have hz2 : z ≥ 0 := of_decide_eq_true hz2
              rw [hz, cmpZ] at hz2
              split at hz2
              · omega
              · omega
            conv => whnf
            repeat (refine ⟨⟨[], rfl⟩, ?_⟩; conv => whnf)
            refine S_LSubE (a := s + b) (b := m) (Eq.trans (cell4 (a := .int .u64 (bitsV .or .u64 (lim s 0) (IntKind.u64.wrap (b : Int)))) (b := .int .u64 (lim s 1)) (c := .int .u64 (lim s 2)) (d := .int .u64 (lim s 3)) upd_at (upd_ne (t := 0) rfl) (upd_ne (t := 1) rfl) (upd_ne (t := 2) rfl)) hx) rfl hsb h3 (fun t d e2 ht hd => ?_)
            conv => whnf
            repeat (refine ⟨⟨[], rfl⟩, ?_⟩; conv => whnf)
            refine ⟨k, _, _, [some 0, some 1, some 2, some 3, some 4], Nat.lt_succ_self _, ⟨t, (k : Int) - 1, rfl, rfl, rfl, by omega, ?_⟩, ?_⟩
            · rw [hst]
              exact mod_sub hrm e1 hc0 hb1 hge e2 ht hd
            · exact .mk0 ⟨.ptr _ _ _ _ rfl, .ptr _ _ _ _ rfl, .ptr _ _ _ _ rfl, .ptr _ _ _ _ rfl, .ptr _ _ _ _ rfl, Flat.i (w64 (by omega) (by omega)), trivial⟩ ⟨.old 0 0 _ _ rfl rfl ⟨rfl, Nat.le_refl _, fun i j hi hj => .eq _ _ rfl flat_numG⟩, .old 1 1 _ _ rfl rfl ⟨rfl, Nat.le_refl _, fun i j hi hj => .eq _ _ rfl flat_numG⟩, .old 2 2 _ _ rfl rfl ⟨rfl, Nat.le_refl _, fun i j hi hj => .eq _ _ rfl flat_numG⟩, .old 3 3 _ _ rfl rfl ⟨rfl, Nat.le_refl _, fun i j hi hj => .eq _ _ rfl flat_numG⟩, .old 4 4 _ _ rfl rfl ⟨rfl, Nat.le_refl _, fun i j hi hj => .eq _ _ rfl flat_numG⟩, trivial⟩ rfl rfl
          · have hlt : s + b < m := by
              have hz2 : ¬ z ≥ 0 := of_decide_eq_false hz2
              rw [hz, cmpZ] at hz2
              split at hz2
              · omega
              · split at hz2 <;> omega
            conv => whnf
            repeat (refine ⟨⟨[], rfl⟩, ?_⟩; conv => whnf)
            refine ⟨k, _, _, [some 0, some 1, some 2, some 3, some 4], Nat.lt_succ_self _, ⟨s + b, (k : Int) - 1, rfl, rfl, rfl, by omega, ?_⟩, ?_⟩
            · have e3 : r + r = s := by rw [e1, hc0, Nat.zero_mul, Nat.add_zero]
              rw [hst, Nat.mod_eq_of_lt (by omega)]; omega
            · exact .mk0 ⟨.ptr _ _ _ _ rfl, .ptr _ _ _ _ rfl, .ptr _ _ _ _ rfl, .ptr _ _ _ _ rfl, .ptr _ _ _ _ rfl, Flat.i (w64 (by omega) (by omega)), trivial⟩ ⟨.old 0 0 _ _ rfl rfl ⟨rfl, Nat.le_refl _, fun i j hi hj => .eq _ _ rfl flat_numG⟩, .old 1 1 _ _ rfl rfl ⟨rfl, Nat.le_refl _, fun i j hi hj => .eq _ _ rfl flat_numG⟩, .old 2 2 _ _ rfl rfl ⟨rfl, Nat.le_refl _, fun i j hi hj => .eq _ _ rfl flat_numG⟩, .old 3 3 _ _ rfl rfl ⟨rfl, Nat.le_refl _, fun i j hi hj => .eq _ _ rfl flat_numG⟩, .old 4 4 _ _ rfl rfl ⟨rfl, Nat.le_refl _, fun i j hi hj => or_blk hs2 hb1 hi hj rfl⟩, trivial⟩ rfl rfl
      · conv => whnf
        repeat (refine ⟨⟨[], rfl⟩, ?_⟩; conv => whnf)
        refine S_LAdd hr1 hr1 (fun s c e1 hs hc => ?_)
        conv => whnf
        repeat (refine ⟨⟨[], rfl⟩, ?_⟩; conv => whnf)
        refine S_LBit (a := lo) (i := k % 256) (by omega) (fun b hb2 => ?_)
        conv => whnf
        repeat (refine ⟨⟨[], rfl⟩, ?_⟩; conv => whnf)
        have hb3 : b = (hi * w256 + lo) / 2 ^ k % 2 := by rw [hb2]; exact (bit_lo (by simp at hk; omega)).symm
        have hb1 : b ≤ 1 := by omega
        have hs2 : s % 2 = 0 := by unfold w256 at e1; omega
        have hsb : s + b < w256 := by unfold w256 at hs ⊢; omega
        have et := top_eq hr1 hs hc e1
        have hx := or_cells (s := s) (b := b) hs2 hb1
        have hst : (hi * w256 + lo) / 2 ^ k % m = (2 * r + b) % m := by rw [hr, hb3]; exact step_mod
        by_cases hc1 : c = 1
        · refine condB_no (by rw [et, hc1]; rfl) ?_
          conv => whnf
          repeat (refine ⟨⟨[], rfl⟩, ?_⟩; conv => whnf)
          refine S_LSubE (a := s + b) (b := m) (Eq.trans (cell4 (a := .int .u64 (bitsV .or .u64 (lim s 0) (IntKind.u64.wrap (b : Int)))) (b := .int .u64 (lim s 1)) (c := .int .u64 (lim s 2)) (d := .int .u64 (lim s 3)) upd_at (upd_ne (t := 0) rfl) (upd_ne (t := 1) rfl) (upd_ne (t := 2) rfl)) hx) rfl hsb h3 (fun t d e2 ht hd => ?_)
          conv => whnf
          repeat (refine ⟨⟨[], rfl⟩, ?_⟩; conv => whnf)
          refine ⟨k, _, _, [some 0, some 1, some 2, some 3, some 4], Nat.lt_succ_self _, ⟨t, (k : Int) - 1, rfl, rfl, rfl, by omega, ?_⟩, ?_⟩
          · rw [hst]
            exact mod_wrap h3 hrm e1 hs hc1 hb1 e2 ht hd
          · exact .mk0 ⟨.ptr _ _ _ _ rfl, .ptr _ _ _ _ rfl, .ptr _ _ _ _ rfl, .ptr _ _ _ _ rfl, .ptr _ _ _ _ rfl, Flat.i (w64 (by omega) (by omega)), trivial⟩ ⟨.old 0 0 _ _ rfl rfl ⟨rfl, Nat.le_refl _, fun i j hi hj => .eq _ _ rfl flat_numG⟩, .old 1 1 _ _ rfl rfl ⟨rfl, Nat.le_refl _, fun i j hi hj => .eq _ _ rfl flat_numG⟩, .old 2 2 _ _ rfl rfl ⟨rfl, Nat.le_refl _, fun i j hi hj => .eq _ _ rfl flat_numG⟩, .old 3 3 _ _ rfl rfl ⟨rfl, Nat.le_refl _, fun i j hi hj => .eq _ _ rfl flat_numG⟩, .old 4 4 _ _ rfl rfl ⟨rfl, Nat.le_refl _, fun i j hi hj => .eq _ _ rfl flat_numG⟩, trivial⟩ rfl rfl
        · have hc0 : c = 0 := by omega
          refine condB_yes (by rw [et, hc0]; rfl) ?_
          conv => whnf
          repeat (refine ⟨⟨[], rfl⟩, ?_⟩; conv => whnf)
          refine S_LCmpE (a := s + b) (b := m) (Eq.trans (cell4 (a := .int .u64 (bitsV .or .u64 (lim s 0) (IntKind.u64.wrap (b : Int)))) (b := .int .u64 (lim s 1)) (c := .int .u64 (lim s 2)) (d := .int .u64 (lim s 3)) upd_at (upd_ne (t := 0) rfl) (upd_ne (t := 1) rfl) (upd_ne (t := 2) rfl)) hx) rfl hsb h3 (fun z hz => ?_)
          conv => whnf
          repeat (refine ⟨⟨[], rfl⟩, ?_⟩; conv => whnf)
          refine condB_mk (fun hz2 => ?_) (fun hz2 => ?_)
          · have hge : m ≤ s + b := by
              have hz2 : z ≥ 0 := of_decide_eq_true hz2
              rw [hz, cmpZ] at hz2
              split at hz2
              · omega
              · omega
            conv => whnf
            repeat (refine ⟨⟨[], rfl⟩, ?_⟩; conv => whnf)
            refine S_LSubE (a := s + b) (b := m) (Eq.trans (cell4 (a := .int .u64 (bitsV .or .u64 (lim s 0) (IntKind.u64.wrap (b : Int)))) (b := .int .u64 (lim s 1)) (c := .int .u64 (lim s 2)) (d := .int .u64 (lim s 3)) upd_at (upd_ne (t := 0) rfl) (upd_ne (t := 1) rfl) (upd_ne (t := 2) rfl)) hx) rfl hsb h3 (fun t d e2 ht hd => ?_)
            conv => whnf
            repeat (refine ⟨⟨[], rfl⟩, ?_⟩; conv => whnf)
            refine ⟨k, _, _, [some 0, some 1, some 2, some 3, some 4], Nat.lt_succ_self _, ⟨t, (k : Int) - 1, rfl, rfl, rfl, by omega, ?_⟩, ?_⟩
            · rw [hst]
              exact mod_sub hrm e1 hc0 hb1 hge e2 ht hd
            · exact .mk0 ⟨.ptr _ _ _ _ rfl, .ptr _ _ _ _ rfl, .ptr _ _ _ _ rfl, .ptr _ _ _ _ rfl, .ptr _ _ _ _ rfl, Flat.i (w64 (by omega) (by omega)), trivial⟩ ⟨.old 0 0 _ _ rfl rfl ⟨rfl, Nat.le_refl _, fun i j hi hj => .eq _ _ rfl flat_numG⟩, .old 1 1 _ _ rfl rfl ⟨rfl, Nat.le_refl _, fun i j hi hj => .eq _ _ rfl flat_numG⟩, .old 2 2 _ _ rfl rfl ⟨rfl, Nat.le_refl _, fun i j hi hj => .eq _ _ rfl flat_numG⟩, .old 3 3 _ _ rfl rfl ⟨rfl, Nat.le_refl _, fun i j hi hj => .eq _ _ rfl flat_numG⟩, .old 4 4 _ _ rfl rfl ⟨rfl, Nat.le_refl _, fun i j hi hj => .eq _ _ rfl flat_numG⟩, trivial⟩ rfl rfl
          · have hlt : s + b < m := by
              have hz2 : ¬ z ≥ 0 := of_decide_eq_false hz2
              rw [hz, cmpZ] at hz2
              split at hz2
              · omega
              · split at hz2 <;> omega
            conv => whnf
            repeat (refine ⟨⟨[], rfl⟩, ?_⟩; conv => whnf)
            refine ⟨k, _, _, [some 0, some 1, some 2, some 3, some 4], Nat.lt_succ_self _, ⟨s + b, (k : Int) - 1, rfl, rfl, rfl, by omega, ?_⟩, ?_⟩
            · have e3 : r + r = s := by rw [e1, hc0, Nat.zero_mul, Nat.add_zero]
              rw [hst, Nat.mod_eq_of_lt (by omega)]; omega
            · exact .mk0 ⟨.ptr _ _ _ _ rfl, .ptr _ _ _ _ rfl, .ptr _ _ _ _ rfl, .ptr _ _ _ _ rfl, .ptr _ _ _ _ rfl, Flat.i (w64 (by omega) (by omega)), trivial⟩ ⟨.old 0 0 _ _ rfl rfl ⟨rfl, Nat.le_refl _, fun i j hi hj => .eq _ _ rfl flat_numG⟩, .old 1 1 _ _ rfl rfl ⟨rfl, Nat.le_refl _, fun i j hi hj => .eq _ _ rfl flat_numG⟩, .old 2 2 _ _ rfl rfl ⟨rfl, Nat.le_refl _, fun i j hi hj => .eq _ _ rfl flat_numG⟩, .old 3 3 _ _ rfl rfl ⟨rfl, Nat.le_refl _, fun i j hi hj => .eq _ _ rfl flat_numG⟩, .old 4 4 _ _ rfl rfl ⟨rfl, Nat.le_refl _, fun i j hi hj => or_blk hs2 hb1 hi hj rfl⟩, trivial⟩ rfl rfl
    · obtain rfl : q = 0 := by simp at hb; omega
      rw [Nat.pow_zero, Nat.div_one] at hr
      conv => whnf
      repeat (refine ⟨⟨[], rfl⟩, ?_⟩; conv => whnf)
      rw [← hr]
      exact ⟨rfl, .tup _ (.cons _ _ flat_numA (.cons _ _ (.int _ _) .nil))⟩
theorem S_LMod {m : Mem} {K : AV → Mem → Prop} {hi lo n : Nat} (h1 : hi < w256) (h2 : lo < w256) (h3 : n < w256) (h0 : 0 < n) (h : K (.tup [numA ((hi * w256 + lo) % n), .int .i64 0]) m) : ACall Pg F_limb_Mod [numA hi, numA lo, numA n] m K := by
  refine lift_flat (S_LMod0 hi lo n h1 h2 h3 h0) (.cons _ _ _ _ lend_numA (.cons _ _ _ _ lend_numA (.cons _ _ _ _ lend_numA .nil))) ?_
  rintro v rfl
  exact h
/-- The number below n of two sums of joined bytes. -/
def scN (n : Nat) (f : Nat → Int) : Nat := (ofZ (sumB (n + 1) (catB n f fun _ => 0)) * w256 + ofZ (sumB (n + 1) (catB n f fun _ => 1))) % nN
theorem scN_lt {n : Nat} {f : Nat → Int} : scN n f < nN := Nat.mod_lt _ (by decide)
theorem S_Scalar0 (s : ByteArray) (r cap : Nat) (N C : Nat → Nat) (F : Nat → Nat → Int) (hs : s.size ≤ 1000000) (hr : r ≤ 1000000) (hN : ∀ i, i < r → N i ≤ 1000000) (hF : ∀ i, i < r → ∀ j, j < N i → 0 ≤ F i j ∧ F i j ≤ 255) :
    ACall Pg F_draw_Scalar [.str s, .vsl 1 r cap (rowsB N C F)] [] (fun v _ => v = (if nT s.size N r ≤ 65536 then .tup [numA (scN (nT s.size N r) (cT s.size (strF s) N F r)), .int .i64 0] else .tup [numA 0, .int .i64 4]) ∧ Flat true v) := by
  refine B_draw_Scalar ⟨rfl, ?_⟩
  conv => whnf
  repeat (refine ⟨⟨[], rfl⟩, ?_⟩; conv => whnf)
  refine S_joined (N := N) (F := F) ShowsB.vsl hs hr hN (fun h n f cap1 hn hf => ?_) (fun h f cap1 => ?_)
  · rw [if_pos h, ← hn, ← hf]
    have hf1 : ∀ i, i < n → 0 ≤ f i ∧ f i ≤ 255 := fun i hi => by rw [hf]; exact cT_in (fun _ _ => strF_lt) hF i (by omega)
    have g0 : ∀ x : Int, 0 ≤ x ∧ x ≤ 255 → ∀ i, i < n + 1 → 0 ≤ catB n f (fun _ => x) i ∧ catB n f (fun _ => x) i ≤ 255 := fun x hx i hi => catB_in (m := 1) hf1 (fun _ _ => hx) hi
    clear hf
    conv => whnf
    repeat (refine ⟨⟨[], rfl⟩, ?_⟩; conv => whnf)
    refine S_with (k := 1) (f := f) (g := fun _ => 0) (Shows.sl rfl (Nat.le_of_eq (Nat.zero_add _)) fun i hi => by rw [Nat.zero_add]) (Shows.one rfl rfl) (by omega) (by decide) (fun cap2 h0 hh0 => ?_)
    conv => whnf
    repeat (refine ⟨⟨[], rfl⟩, ?_⟩; conv => whnf)
    refine S_SumR (f := h0) (Shows.sl rfl (Nat.le_of_eq (Nat.zero_add _)) fun i hi => by rw [Nat.zero_add]) (by omega) (fun i hi => by rw [hh0]; exact g0 0 (by decide) i hi) (fun s0 hs0 hb0 => ?_)
    conv => whnf
    repeat (refine ⟨⟨[], rfl⟩, ?_⟩; conv => whnf)
    refine S_LOf (f := s0) (fun i _ => hb0 i) (fun a ha ha1 => ?_)
    conv => whnf
    repeat (refine ⟨⟨[], rfl⟩, ?_⟩; conv => whnf)
    refine S_with (k := 1) (f := f) (g := fun _ => 1) (Shows.sl rfl (Nat.le_of_eq (Nat.zero_add _)) fun i hi => by rw [Nat.zero_add]) (Shows.one rfl rfl) (by omega) (by decide) (fun cap3 h1 hh1 => ?_)
    conv => whnf
    repeat (refine ⟨⟨[], rfl⟩, ?_⟩; conv => whnf)
    refine S_SumR (f := h1) (Shows.sl rfl (Nat.le_of_eq (Nat.zero_add _)) fun i hi => by rw [Nat.zero_add]) (by omega) (fun i hi => by rw [hh1]; exact g0 1 (by decide) i hi) (fun s1 hs1 hb1 => ?_)
    conv => whnf
    repeat (refine ⟨⟨[], rfl⟩, ?_⟩; conv => whnf)
    refine S_LOf (f := s1) (fun i _ => hb1 i) (fun b hb hb2 => ?_)
    have e : scN n f = (a * w256 + b) % nN := by rw [ha, hb, hs0, hs1, hh0, hh1]; rfl
    rw [e]
    conv => whnf
    repeat (refine ⟨⟨[], rfl⟩, ?_⟩; conv => whnf)
    refine S_Prime_1 (fun p hp => ?_)
    conv => whnf
    repeat (refine ⟨⟨[], rfl⟩, ?_⟩; conv => whnf)
    refine S_LMod ha1 hb2 (by rw [hp]; decide) (by rw [hp]; decide) ?_
    rw [hp]
    generalize (a * w256 + b) % nN = z
    conv => whnf
    repeat (refine ⟨⟨[], rfl⟩, ?_⟩; conv => whnf)
    exact ⟨rfl, .tup _ (.cons _ _ flat_numA (.cons _ _ (.int _ _) .nil))⟩
  · rw [if_neg (by omega)]
    conv => whnf
    repeat (refine ⟨⟨[], rfl⟩, ?_⟩; conv => whnf)
    refine ⟨rfl, ?_⟩
    show Flat true (.tup [numA 0, .int .i64 4])
    exact .tup _ (.cons _ _ flat_numA (.cons _ _ (.int _ _) .nil))
theorem S_DScalar {m : Mem} {x : AV} {K : AV → Mem → Prop} {s : ByteArray} {r : Nat} {N : Nat → Nat} {F : Nat → Nat → Int} (hx : ShowsB m x r N F) (hs : s.size ≤ 1000000) (hr : r ≤ 1000000) (hN : ∀ i, i < r → N i ≤ 1000000) (hF : ∀ i, i < r → ∀ j, j < N i → 0 ≤ F i j ∧ F i j ≤ 255)
    (h1 : nT s.size N r ≤ 65536 → ∀ a, a = scN (nT s.size N r) (cT s.size (strF s) N F r) → a < nN → K (.tup [numA a, .int .i64 0]) m)
    (h2 : 65536 < nT s.size N r → K (.tup [numA 0, .int .i64 4]) m) : ACall Pg F_draw_Scalar [.str s, x] m K := by
  obtain ⟨cap, C, hl⟩ := hx
  refine lift_flat (S_Scalar0 s r cap N C F hs hr hN hF) (.cons _ _ _ _ (lend_flat (.str _)) (.cons _ _ _ _ hl .nil)) ?_
  rintro v rfl
  by_cases h : nT s.size N r ≤ 65536
  · rw [if_pos h]; exact h1 h _ rfl scN_lt
  · rw [if_neg h]; exact h2 (by omega)

end Go.Proofs.Ytfolpdmbpbbimaa
end

section
/- Each point is a multiple of the one that all begins with: there is no room for three times as many, and none is its own counterpart; no condition. -/
set_option linter.unusedVariables false
set_option maxRecDepth 100000
namespace Go.Wit

theorem pigeon {N M : Nat} (f : Nat → Nat) (h1 : ∀ i, i < N → f i < M) (h2 : ∀ i j, i < N → j < N → f i = f j → i = j) : N ≤ M := by
  rcases Nat.lt_or_ge M N with h | h
  · exfalso
    have hn : ((List.range N).map f).Nodup := by
      show List.Pairwise _ _
      rw [List.pairwise_map]
      refine List.Pairwise.imp_of_mem ?_ (List.nodup_range (n := N))
      intro a b ha hb hab he
      exact hab (h2 a b (List.mem_range.1 ha) (List.mem_range.1 hb) he)
    have hs : ∀ x, x ∈ (List.range N).map f → x ∈ List.range M := by
      intro x hx
      obtain ⟨i, hi, rfl⟩ := List.mem_map.1 hx
      exact List.mem_range.2 (h1 i (List.mem_range.1 hi))
    have := (perm_of_sub hn hs (by rw [List.length_map, List.length_range, List.length_range]; omega)).length_eq
    rw [List.length_map, List.length_range, List.length_range] at this
    omega
  · exact h

/-- A number for each point. -/
def ptCode : Pt Fp → Nat
  | .inf => 0
  | .aff x y => 1 + 2 * x.val + y.val % 2
theorem ptCode_lt (P : Pt Fp) : ptCode P < 2 * pP + 1 := by
  cases P with
  | inf => show 0 < _; exact Nat.succ_pos _
  | aff x y =>
    have h := x.isLt
    show 1 + 2 * x.val + y.val % 2 < _
    generalize x.val = a at *
    generalize y.val = b at *
    generalize pP = p at *
    omega
theorem ptCode_inj {P Q : Pt Fp} (oP : On P) (oQ : On Q) (h : ptCode P = ptCode Q) : P = Q := by
  cases P with
  | inf =>
    cases Q with
    | inf => rfl
    | aff x y => exfalso; have : 0 = 1 + 2 * x.val + y.val % 2 := h; omega
  | aff x y =>
    cases Q with
    | inf => exfalso; have : 1 + 2 * x.val + y.val % 2 = 0 := h; omega
    | aff u v =>
      have h : 1 + 2 * x.val + y.val % 2 = 1 + 2 * u.val + v.val % 2 := h
      have hx : x.val = u.val := by omega
      have hy : y.val % 2 = v.val % 2 := by omega
      obtain rfl : x = u := Fin.ext hx
      have e : y * y = v * v := by rw [show y * y = x * x * x + 7 from oP, show v * v = x * x * x + 7 from oQ]
      have v0 : v ≠ 0 := On.y_ne crvP oQ
      rcases sq_eq e with rfl | rfl
      · rfl
      · exfalso
        have := neg_parity v0
        omega

theorem padd_swap {A B C : Pt Fp} (oA : On A) (oB : On B) (oC : On C) : padd (padd A B) C = padd (padd A C) B := by
  rw [padd_assoc crvP oA oB oC, padd_comm B C, ← padd_assoc crvP oA oC oB]
/-- From A + r G = B + s G: A is B and a multiple. -/
theorem coset {A B : Pt Fp} (oA : On A) (oB : On B) {r s N : Nat} (hN : nmul N gG = .inf) (hr : r ≤ N) (h : padd A (nmul r gG) = padd B (nmul s gG)) : A = padd B (nmul (s + (N - r)) gG) := by
  have e : padd (padd A (nmul r gG)) (nmul (N - r) gG) = A := by
    rw [padd_assoc crvP oA (on_G.nmul crvP r) (on_G.nmul crvP _), ← nmul_add crvP on_G, show r + (N - r) = N by omega, hN, padd_inf]
  rw [← e, h, padd_assoc crvP oB (on_G.nmul crvP s) (on_G.nmul crvP _), ← nmul_add crvP on_G]
/-- A summand more that a multiple of the point makes up for is one. -/
theorem coset1 {B P : Pt Fp} (oB : On B) (oP : On P) {k : Nat} (h : padd B P = padd B (nmul k gG)) : P = nmul k gG := by
  have h1 : padd B.neg (padd B P) = padd B.neg (padd B (nmul k gG)) := by rw [h]
  rwa [← padd_assoc crvP oB.neg oB oP, ← padd_assoc crvP oB.neg oB (on_G.nmul crvP k), padd_comm B.neg B, padd_neg, inf_padd, inf_padd] at h1

theorem self_neg {Q : Pt Fp} (oQ : On Q) (h : padd Q Q = .inf) : Q = .inf := by
  have h1 := neg_of_padd oQ oQ h
  cases Q with
  | inf => rfl
  | aff x y =>
    exfalso
    have hy : y = -y := by
      have : Pt.aff x y = Pt.aff x (-y) := h1
      injection this
    have y0 : y ≠ 0 := On.y_ne crvP oQ
    have := neg_parity y0
    rw [← hy] at this
    omega

theorem three_n : 2 * pP + 1 < 3 * nN := by decide
theorem n_odd : nN % 2 = 1 := by decide
theorem all_of {N p : Nat} (h3 : 2 * p + 1 < 3 * N) (hodd : N % 2 = 1) (hc : ∀ P : Pt Fp, ptCode P < 2 * p + 1) (hN : nmul N gG = .inf) (heq : ∀ {a b : Nat}, a < N → b < N → nmul a gG = nmul b gG → a = b) (hmod : ∀ m, nmul (m % N) gG = nmul m gG) {P : Pt Fp} (oP : On P) : ∃ k, P = nmul k gG := by
  have hpos : 0 < N := by omega
  by_cases h1 : ∃ k, P = nmul k gG
  · exact h1
  have o2 := oP.add crvP oP
  -- twice the point is a multiple
  have h2 : ∃ k, padd P P = nmul k gG := by
    by_cases h2 : ∃ k, padd P P = nmul k gG
    · exact h2
    exfalso
    let A : Nat → Pt Fp := fun q => if q = 0 then .inf else if q = 1 then P else padd P P
    have oA : ∀ q, On (A q) := fun q => by
      show On (if q = 0 then .inf else if q = 1 then P else padd P P)
      split
      · trivial
      · split
        · exact oP
        · exact o2
    have key : ∀ q q', q < 3 → q' < 3 → ∀ r s, r < N → s < N → padd (A q) (nmul r gG) = padd (A q') (nmul s gG) → q = q' := by
      intro q q' hq hq' r s hr hs h
      have c1 := coset (oA q) (oA q') hN (Nat.le_of_lt hr) h
      have c2 := coset (oA q') (oA q) hN (Nat.le_of_lt hs) h.symm
      have hh : q = 0 ∨ q = 1 ∨ q = 2 := by omega
      have hh' : q' = 0 ∨ q' = 1 ∨ q' = 2 := by omega
      rcases hh with rfl | rfl | rfl <;> rcases hh' with rfl | rfl | rfl
      · rfl
      · exact absurd ⟨_, c2.trans (inf_padd _)⟩ h1
      · exact absurd ⟨_, c2.trans (inf_padd _)⟩ h2
      · exact absurd ⟨_, c1.trans (inf_padd _)⟩ h1
      · rfl
      · exact absurd ⟨_, coset1 oP oP c2⟩ h1
      · exact absurd ⟨_, c1.trans (inf_padd _)⟩ h2
      · exact absurd ⟨_, coset1 oP oP c1⟩ h1
      · rfl
    have := pigeon (N := 3 * N) (M := 2 * p + 1) (fun i => ptCode (padd (A (i / N)) (nmul (i % N) gG))) (fun i _ => hc _) (fun i j hi hj h => by
      have e := ptCode_inj ((oA _).add crvP (on_G.nmul crvP _)) ((oA _).add crvP (on_G.nmul crvP _)) h
      have hi1 : i / N < 3 := (Nat.div_lt_iff_lt_mul hpos).2 hi
      have hj1 : j / N < 3 := (Nat.div_lt_iff_lt_mul hpos).2 hj
      have hq := key _ _ hi1 hj1 _ _ (Nat.mod_lt _ hpos) (Nat.mod_lt _ hpos) e
      rw [hq] at e
      have e2 : nmul (i % N) gG = nmul (j % N) gG := by
        have h5 : padd (A (j / N)).neg (padd (A (j / N)) (nmul (i % N) gG)) = padd (A (j / N)).neg (padd (A (j / N)) (nmul (j % N) gG)) := by rw [e]
        have oB := oA (j / N)
        rwa [← padd_assoc crvP oB.neg oB (on_G.nmul crvP _), ← padd_assoc crvP oB.neg oB (on_G.nmul crvP _), padd_comm (A (j / N)).neg, padd_neg, inf_padd, inf_padd] at h5
      have e3 := heq (Nat.mod_lt _ hpos) (Nat.mod_lt _ hpos) e2
      have d1 := Nat.div_add_mod i N
      have d2 := Nat.div_add_mod j N
      rw [hq] at d1
      omega)
    omega
  obtain ⟨k, hk⟩ := h2
  -- half of it
  obtain ⟨j, hj⟩ : ∃ j, nmul k gG = nmul (j + j) gG := by
    by_cases hk2 : k % 2 = 0
    · exact ⟨k / 2, by rw [show k / 2 + k / 2 = k by omega]⟩
    · refine ⟨(k + N) / 2, ?_⟩
      rw [show (k + N) / 2 + (k + N) / 2 = k + N by omega, nmul_add crvP on_G, hN, padd_inf]
  have oJ := on_G.nmul crvP j
  have oQ : On (padd P (nmul j gG).neg) := oP.add crvP oJ.neg
  have hQ : padd (padd P (nmul j gG).neg) (padd P (nmul j gG).neg) = .inf := by
    rw [← padd_assoc crvP oQ oP oJ.neg, padd_swap oP oJ.neg oP, padd_assoc crvP o2 oJ.neg oJ.neg, hk, hj, nmul_add crvP on_G, padd_assoc crvP oJ oJ (oJ.neg.add crvP oJ.neg), ← padd_assoc crvP oJ oJ.neg oJ.neg, padd_neg, inf_padd, padd_neg]
  have hz := self_neg oQ hQ
  refine ⟨j, ?_⟩
  have h5 : padd (padd P (nmul j gG).neg) (nmul j gG) = nmul j gG := by rw [hz, inf_padd]
  rwa [padd_assoc crvP oP oJ.neg oJ, padd_comm (nmul j gG).neg, padd_neg, padd_inf] at h5

/-- Each point is a multiple. -/
theorem all_G {P : Pt Fp} (oP : On P) : ∃ k, P = nmul k gG :=
  all_of three_n n_odd ptCode_lt nG (fun ha hb h => by have := nmul_G_eq h; rwa [Nat.mod_eq_of_lt ha, Nat.mod_eq_of_lt hb] at this) nmul_mod oP
/-- So often as numbers say, modulo the second prime. -/
theorem nmul_mod_all {P : Pt Fp} (oP : On P) (j : Nat) : nmul (j % nN) P = nmul j P := by
  obtain ⟨k, rfl⟩ := all_G oP
  rw [← nmul_mul crvP on_G, ← nmul_mul crvP on_G, ← nmul_mod (j % nN * k), ← nmul_mod (j * k), Nat.mod_mul_mod]
end Go.Wit
end

section
/- Rows of numbers and of points; the points of coefficients; no condition. -/
set_option linter.unusedVariables false
set_option linter.unusedSimpArgs false
set_option maxRecDepth 100000
set_option pp.maxSteps 3000
namespace Go.Proofs.Ytfolpdmbpbbimaa
open Go Go.Wit

def numsG (c : Nat → Nat) : Nat → Nat → AV := fun i j => (numL (c i)).getD j .un
def rawsG (I : Nat → Bool) (X Y : Nat → Nat) : Nat → Nat → AV := fun i j => (rawL (I i) (X i) (Y i)).getD j .un
def ptsG (P : Nat → Pt Fp) : Nat → Nat → AV := rawsG (fun i => isI (P i)) (fun i => xN (P i)) (fun i => yN (P i))
theorem flat_rawG {nv : Bool} {i : Bool} {x y k : Nat} : Flat nv ((rawL i x y).getD k .un) := by
  unfold rawL
  match k with
  | 0 => exact .bool _
  | 1 => exact .int _ _
  | 2 => exact .int _ _
  | 3 => exact .int _ _
  | 4 => exact .int _ _
  | 5 => exact .int _ _
  | 6 => exact .int _ _
  | 7 => exact .int _ _
  | 8 => exact .int _ _
  | k + 9 => simp; exact .un
theorem flat_numsG {nv : Bool} {c : Nat → Nat} {i j : Nat} : Flat nv (numsG c i j) := flat_numG
theorem flat_rawsG {nv : Bool} {I : Nat → Bool} {X Y : Nat → Nat} {i j : Nat} : Flat nv (rawsG I X Y i j) := flat_rawG
theorem flat_ptsG {nv : Bool} {P : Nat → Pt Fp} {i j : Nat} : Flat nv (ptsG P i j) := flat_rawG

/-- What stands in slot x shows the n rows G. -/
def ShowsG (m : Mem) (x : AV) (es n : Nat) (G : Nat → Nat → AV) : Prop := ∃ cap, Lend (fun _ => none) (List.range m.length) m x (.vsl es n cap G)
theorem ShowsG.vsl {m : Mem} {es n cap : Nat} {G : Nat → Nat → AV} (h : ∀ i j, i < n → j < es → Flat false (G i j)) : ShowsG m (.vsl es n cap G) es n G := ⟨cap, .vsl _ _ _ _ _ fun i j hi hj => ⟨rfl, h i j hi hj⟩⟩
theorem ShowsG.nils {m : Mem} {es : Nat} {G : Nat → Nat → AV} : ShowsG m .nils es 0 G := ⟨0, .nils _ _⟩
theorem ShowsG.sl {m : Mem} {l off es n cap N : Nat} {g G : Nat → Nat → AV} (h : m[l]? = some (some ⟨es, N, g⟩)) (hn : off + n ≤ N) (hG : ∀ i j, i < n → j < es → G i j = g (off + i) j ∧ Flat false (G i j)) : ShowsG m (.sl l off n cap) es n G :=
  ⟨cap, .sl l off n cap ⟨es, N, g⟩ _ (List.mem_range.2 (lt_of_get h)) h hn hG⟩
/-- What a call gives back shows the n rows G. -/
def RetG (es n : Nat) (G : Nat → Nat → AV) (v : AV) (m : Mem) : Prop :=
  (v = .nils ∧ n = 0) ∨ ∃ l cap N g, v = .sl l 0 n cap ∧ m[l]? = some (some ⟨es, N, g⟩) ∧ n ≤ N ∧ ∀ i j, i < n → j < es → g i j = G i j

theorem lift_tupG {P : Program} {fn : FuncId} {args args0 : List AV} {m : Mem} {K : AV → Mem → Prop} {es : Nat} {R : Nat → (Nat → Nat → AV) → List AV → Prop} (h : ACall P fn args0 [] (fun v m' => ∃ n G x vs, v = .tup (x :: vs) ∧ R n G vs ∧ RetG es n G x m' ∧ Flats true vs)) (hf : ∀ n G vs, R n G vs → ∀ i j, i < n → j < es → Flat true (G i j)) (ha : Lends (fun _ => none) (List.range m.length) m args args0)
    (hK : ∀ n G cap vs, R n G vs → K (.tup (.sl m.length 0 n cap :: vs)) (m ++ [some ⟨es, n, G⟩])) : ACall P fn args m K := by
  refine h.frame0 true (List.range m.length) (fun h => by cases h) ha (fun v m' hv => ?_)
  obtain ⟨n, G, x, vs, rfl, hR, hr, hfl⟩ := hv
  have hvs : ∀ σ, RVs true σ vs vs := fun σ => by
    clear hR hr
    induction vs with
    | nil => exact .nil
    | cons a r ih => cases hfl with | cons _ _ h1 h2 => exact .cons _ _ _ _ (.eq _ _ rfl h1) (ih h2)
  rcases hr with ⟨rfl, rfl⟩ | ⟨l, cap, N, g, rfl, h1, h2, h3⟩
  · exact ⟨.tup (.sl m.length 0 0 0 :: vs), [some ⟨es, 0, G⟩], [none], Nat.le_refl _, fun i j q hi => by cases i <;> simp at hi, .tup _ _ (.cons _ _ _ _ (.nils _ _) (hvs _)), ⟨.ph _ _ _ (by simp [shiftT]), trivial⟩, hK 0 G 0 vs hR⟩
  · refine ⟨.tup (.sl m.length 0 n cap :: vs), [some ⟨es, n, G⟩], [some l], Nat.le_refl _, fun i j q hi hj => ?_, .tup _ _ (.cons _ _ _ _ (.sl _ _ _ _ _ (by simp [shiftT])) (hvs _)), ⟨.old _ l _ _ (by simp [shiftT]) h1 ⟨rfl, h2, fun i j hi hj => ?_⟩, trivial⟩, hK n G cap vs hR⟩
    · cases i <;> cases j <;> simp at hi hj; rfl
    · exact .eq _ _ (h3 i j hi hj) (by rw [show (Blk.mk es N g).get i j = g i j from rfl, h3 i j hi hj]; exact hf n G vs hR i j hi hj)

/-- One row more behind rows of points. -/
theorem cat_pts {P : Nat → Pt Fp} {k i : Nat} {g : Nat → Nat → AV} (hi : i < k + 1) (hg : i = k → ∀ j, g (i - k) j = ptsG P k j) (j : Nat) : catG k (ptsG P) g i j = ptsG P i j := by
  by_cases h : i < k
  · rw [catG_lt h]
  · have h : i = k := by omega
    rw [catG_ge (by omega), hg h, h]

theorem S_Commit0 (n cap : Nat) (c : Nat → Nat) (hc : ∀ i, i < n → c i < w256) : ACall Pg F_feld_Commit [.vsl 4 n cap (numsG c)] []
    (fun v m' => ∃ n' G x vs, v = .tup (x :: vs) ∧ ((n ≤ 64 ∧ n' = n ∧ G = ptsG (fun i => nmul (c i) gG) ∧ vs = [.int .i64 0]) ∨ (64 < n ∧ n' = 0 ∧ (∃ P, G = ptsG P) ∧ vs = [.int .i64 4])) ∧ RetG 9 n' G x m' ∧ Flats true vs) := by
  obtain ⟨P, hP⟩ : ∃ P : Nat → Pt Fp, P = fun i => nmul (c i) gG := ⟨_, rfl⟩
  rw [← hP]
  refine B_feld_Commit ⟨rfl, ?_⟩
  conv => whnf
  repeat (refine ⟨⟨[], rfl⟩, ?_⟩; conv => whnf)
  refine condB_mk (fun h => ?_) (fun h => ?_)
  · conv => whnf
    repeat (refine ⟨⟨[], rfl⟩, ?_⟩; conv => whnf)
    have h : 64 < n := by simp at h; omega
    exact ⟨0, ptsG P, .nils, _, rfl, .inr ⟨h, rfl, ⟨_, rfl⟩, rfl⟩, .inl ⟨rfl, rfl⟩, .cons _ _ (.int _ _) .nil⟩
  have hn : n ≤ 64 := by simp at h; omega
  conv => whnf
  repeat (refine ⟨⟨[], rfl⟩, ?_⟩; conv => whnf)
  refine loop_wk mixed (I := fun q l m => ∃ (k c' : Nat), l = [(10, .vsl 4 n cap (numsG c)), (11, .int .i64 n), (12, .int .i64 k), (4, .sl 0 0 k c')] ∧ m = [some ⟨9, k, ptsG P⟩] ∧ q + k = n) n
    (l0 := [(10, .vsl 4 n cap (numsG c)), (11, .int .i64 n), (12, .int .i64 (0 : Nat)), (4, .sl 0 0 0 0)]) (m0 := [some ⟨9, 0, ptsG P⟩]) [none] ⟨0, 0, rfl, rfl, rfl⟩ ?_ ?_
  · refine .mk0 ⟨.eq _ _ rfl (.vsl _ _ _ _ rfl (fun _ _ _ _ => flat_numsG)), Flat.i rfl, Flat.i rfl, .nils _ _, trivial⟩ ⟨.ph _ _ _ rfl, trivial⟩ rfl rfl
  · rintro q l m ⟨k, c', rfl, rfl, hq⟩
    conv => whnf
    repeat (refine ⟨⟨[], rfl⟩, ?_⟩; conv => whnf)
    refine condB_mk (fun hb => ?_) (fun hb => ?_)
    · have hb : k < n := by simp at hb; omega
      conv => whnf
      repeat (refine ⟨⟨[], rfl⟩, ?_⟩; conv => whnf)
      refine condB_ok (by simp; omega) ?_
      conv => whnf
      repeat (refine ⟨⟨[], rfl⟩, ?_⟩; conv => whnf)
      refine T_Base (n := c k) (hc k hb) (fun Q oQ hQ => ?_)
      conv => whnf
      repeat (refine ⟨⟨[], rfl⟩, ?_⟩; conv => whnf)
      refine condB_ok (app_ok (decide_eq_true (Nat.le_refl _)) rfl rfl (by omega) (by omega)) (fun cap' hcap => ?_)
      conv => whnf
      repeat (refine ⟨⟨[], rfl⟩, ?_⟩; conv => whnf)
      have e5 : IntKind.i64.wrap ((k : Int) + 1) = ((k + 1 : Nat) : Int) := by rw [w64 (by omega) (by omega)]; omega
      refine ⟨q - 1, [(10, .vsl 4 n cap (numsG c)), (11, .int .i64 n), (12, .int .i64 ((k + 1 : Nat) : Int)), (4, .sl 0 0 (k + 1) cap')], [some ⟨9, k + 1, ptsG P⟩], [some 3], by omega, ⟨k + 1, cap', rfl, rfl, by omega⟩, ?_⟩
      refine .mk0 ⟨.eq _ _ rfl (.vsl _ _ _ _ rfl (fun _ _ _ _ => flat_numsG)), Flat.i rfl, Flat.i e5, .sl _ _ _ _ _ rfl, trivial⟩ ⟨.old 0 3 _ _ rfl rfl ⟨rfl, Nat.le_refl _, fun i j hi hj => ?_⟩, trivial⟩ rfl rfl
      have hPk : P k = Q := by rw [hP, hQ]
      have hi : i < k + 1 := hi
      have hj : j < 9 := hj
      have e := cat_pts (P := P) (k := k) (g := fun i j => (rawL (isI Q) (xN Q) (yN Q)).getD (i * 9 + j) .un) hi (fun h j => by subst h; rw [Nat.sub_self, Nat.zero_mul, Nat.zero_add, ← hPk]; rfl) j
      refine .eq _ _ ?_ ?_
      · refine Eq.trans ?_ e
        dsimp only
        by_cases hik : i < k
        · rw [catG_lt hik, catG_lt hik]
        · rw [catG_ge (by omega), catG_ge (by omega), Nat.zero_add]
          rfl
      · have : Flat false (ptsG P i j) := flat_ptsG
        rw [← e] at this
        dsimp only
        by_cases hik : i < k
        · rw [catG_lt hik]; exact flat_ptsG
        · rw [catG_ge (by omega)] at this ⊢
          rw [Nat.zero_add]
          exact this
    · have hb : k = n := by simp at hb; omega
      subst hb
      conv => whnf
      repeat (refine ⟨⟨[], rfl⟩, ?_⟩; conv => whnf)
      exact ⟨k, ptsG P, _, _, rfl, .inl ⟨hn, rfl, rfl, rfl⟩, .inr ⟨0, c', k, _, rfl, rfl, Nat.le_refl _, fun _ _ _ _ => rfl⟩, .cons _ _ (.int _ _) .nil⟩
end Go.Proofs.Ytfolpdmbpbbimaa
end

section
/- Challenges and proofs; no condition. -/
set_option linter.unusedVariables false
set_option linter.unusedSimpArgs false
set_option maxRecDepth 100000
set_option pp.maxSteps 3000
set_option pp.deepTerms false
set_option pp.deepTerms.threshold 7
namespace Go.Proofs.Ytfolpdmbpbbimaa
open Go Go.Wit

abbrev dlB : ByteArray := ⟨#[100, 108, 101, 113]⟩
/-- What is challenged by points. -/
def chN (P : Nat → Pt Fp) : Nat := scN (nT dlB.size (fun i => pbN (P i)) 5) (cT dlB.size (strF dlB) (fun i => pbN (P i)) (fun i => pbF (P i)) 5)
theorem chN_lt {P : Nat → Pt Fp} : chN P < nN := scN_lt
theorem S_CBytesE {m : Mem} {x : AV} {K : AV → Mem → Prop} {P : Pt Fp} (hx : x = ptA P) (oP : On P) (h : ∀ cap, memK (m ++ [some ⟨1, pbN P, bytesG (pbF P)⟩]) (K (.tup [.sl m.length 0 (pbN P) cap, .int .i64 0]))) : ACall Pg F_curve_Bytes [x] m K := by
  subst hx; exact S_CBytes oP h
theorem nT5_le {t : Nat} {N : Nat → Nat} (ht : t ≤ 1000) (hN : ∀ i, N i ≤ 33) : ¬ 65536 < nT t N 5 := by
  have h0 := hN 0; have h1 := hN 1; have h2 := hN 2; have h3 := hN 3; have h4 := hN 4
  have e : nT t N 5 = 4 + t + (4 + N 0) + (4 + N 1) + (4 + N 2) + (4 + N 3) + (4 + N 4) := rfl
  omega
theorem flat_ne1 {n : Nat} {e : Int} : Flat true (.tup [numA n, .int .i64 e]) := .tup _ (.cons _ _ flat_numA (.cons _ _ (.int _ _) .nil))
theorem S_challenge0 (P : Nat → Pt Fp) (cap : Nat) (oP : ∀ i, i < 5 → On (P i)) : ACall Pg F_dleq_challenge [.vsl 9 5 cap (ptsG P)] [] (fun v _ => v = .tup [numA (chN P), .int .i64 0] ∧ Flat true v) := by
  refine B_dleq_challenge ⟨rfl, ?_⟩
  conv => whnf
  repeat (refine ⟨⟨_, rfl⟩, ?_⟩; conv => whnf)
  refine loop_rounds mixed 6 ?_
  conv => whnf
  repeat (refine ⟨⟨_, rfl⟩, ?_⟩; conv => whnf)
  refine S_CBytesE (P := P 0) rfl (oP 0 (by decide)) (fun c0 => ?_)
  conv => whnf
  repeat (refine ⟨⟨_, rfl⟩, ?_⟩; conv => whnf)
  refine fun d0 h0 => ?_
  conv => whnf
  repeat (refine ⟨⟨_, rfl⟩, ?_⟩; conv => whnf)
  refine S_CBytesE (P := P 1) rfl (oP 1 (by decide)) (fun c1 => ?_)
  conv => whnf
  repeat (refine ⟨⟨_, rfl⟩, ?_⟩; conv => whnf)
  refine fun d1 h1 => ?_
  conv => whnf
  repeat (refine ⟨⟨_, rfl⟩, ?_⟩; conv => whnf)
  refine S_CBytesE (P := P 2) rfl (oP 2 (by decide)) (fun c2 => ?_)
  conv => whnf
  repeat (refine ⟨⟨_, rfl⟩, ?_⟩; conv => whnf)
  refine fun d2 h2 => ?_
  conv => whnf
  repeat (refine ⟨⟨_, rfl⟩, ?_⟩; conv => whnf)
  refine S_CBytesE (P := P 3) rfl (oP 3 (by decide)) (fun c3 => ?_)
  conv => whnf
  repeat (refine ⟨⟨_, rfl⟩, ?_⟩; conv => whnf)
  refine fun d3 h3 => ?_
  conv => whnf
  repeat (refine ⟨⟨_, rfl⟩, ?_⟩; conv => whnf)
  refine S_CBytesE (P := P 4) rfl (oP 4 (by decide)) (fun c4 => ?_)
  conv => whnf
  repeat (refine ⟨⟨_, rfl⟩, ?_⟩; conv => whnf)
  refine fun d4 h4 => ?_
  conv => whnf
  repeat (refine ⟨⟨_, rfl⟩, ?_⟩; conv => whnf)
  have hN : ∀ i, i < 5 → pbN (P i) ≤ 1000000 := fun i _ => Nat.le_trans (pbN_le _) (by decide)
  refine S_DScalar (r := 5) (N := fun i => pbN (P i)) (F := fun i => pbF (P i)) (ShowsB.sl rfl (Nat.le_of_eq (Nat.zero_add _)) fun i hi => ?_) (by decide) (by decide) hN (fun i _ j _ => pbF_lt _ _) (fun _ a ha _ => ?_) (fun hn => absurd hn (nT5_le (by decide) (fun i => pbN_le _)))
  · have : i = 0 ∨ i = 1 ∨ i = 2 ∨ i = 3 ∨ i = 4 := by omega
    rcases this with rfl | rfl | rfl | rfl | rfl
    all_goals exact Shows.slG rfl (Nat.le_of_eq (Nat.zero_add _)) (fun j hj => by rw [Nat.zero_add]; rfl)
  obtain rfl : a = chN P := ha
  conv => whnf
  repeat (refine ⟨⟨_, rfl⟩, ?_⟩; conv => whnf)
  exact ⟨rfl, flat_ne1⟩
theorem S_challenge {m : Mem} {x : AV} {K : AV → Mem → Prop} {P : Nat → Pt Fp} (hx : ShowsG m x 9 5 (ptsG P)) (oP : ∀ i, i < 5 → On (P i)) (h : ∀ c, c = chN P → c < nN → K (.tup [numA c, .int .i64 0]) m) : ACall Pg F_dleq_challenge [x] m K := by
  obtain ⟨cap, hl⟩ := hx
  refine lift_flat (S_challenge0 P cap oP) (.cons _ _ _ _ hl .nil) ?_
  rintro v rfl
  exact h _ rfl chN_lt
/-- Five points, in their order. -/
def pr5 (a b c d e : Pt Fp) : Nat → Pt Fp := fun i => if i = 0 then a else if i = 1 then b else if i = 2 then c else if i = 3 then d else e
theorem on_pr5 {a b c d e : Pt Fp} (ha : On a) (hb : On b) (hc : On c) (hd : On d) (he : On e) (i : Nat) (_ : i < 5) : On (pr5 a b c d e i) := by
  unfold pr5
  repeat (split; assumption)
  exact he
theorem Shows5 {m : Mem} {l cap : Nat} {a b c d e : Pt Fp} {g : Nat → Nat → AV} (h : m[l]? = some (some ⟨9, 5, g⟩)) (hg : ∀ i j, i < 5 → j < 9 → g i j = ptsG (pr5 a b c d e) i j) : ShowsG m (.sl l 0 5 cap) 9 5 (ptsG (pr5 a b c d e)) :=
  ShowsG.sl h (Nat.le_of_eq (Nat.zero_add _)) fun i j hi hj => ⟨by rw [Nat.zero_add, hg i j hi hj], flat_ptsG⟩
/-- A proof. -/
def prA (c r : Nat) : AV := .agg [.int .u64 (lim c 0), .int .u64 (lim c 1), .int .u64 (lim c 2), .int .u64 (lim c 3), .int .u64 (lim r 0), .int .u64 (lim r 1), .int .u64 (lim r 2), .int .u64 (lim r 3)]
theorem flat_prA {nv : Bool} {c r : Nat} : Flat nv (prA c r) := .agg _ (by repeat (first | exact .nil | refine .cons _ _ (.int _ _) ?_))
theorem flat_pre {c r : Nat} {e : Int} : Flat true (.tup [prA c r, .int .i64 e]) := .tup _ (.cons _ _ flat_prA (.cons _ _ (.int _ _) .nil))
noncomputable def prfC (s k : Nat) (b : Pt Fp) : Nat := chN (pr5 (nmul s gG) b (nmul s b) (nmul k gG) (nmul k b))
def prfR (s k c : Nat) : Nat := (k + (nN - c * s % nN % nN)) % nN
theorem S_Prove0 (s k : Nat) (b : Pt Fp) (hs : s < w256) (hk : k < w256) (ob : On b) : ACall Pg F_dleq_Prove [numA s, numA k, ptA b] [] (fun v _ => v = .tup [prA (prfC s k b) (prfR s k (prfC s k b)), .int .i64 0] ∧ Flat true v) := by
  refine B_dleq_Prove ⟨rfl, ?_⟩
  conv => whnf
  repeat (refine ⟨⟨_, rfl⟩, ?_⟩; conv => whnf)
  refine S_Check_ok (P := b) ob ?_
  conv => whnf
  repeat (refine ⟨⟨_, rfl⟩, ?_⟩; conv => whnf)
  refine T_Times (n := s) (P := b) hs ob (fun q oq hq => ?_)
  conv => whnf
  repeat (refine ⟨⟨_, rfl⟩, ?_⟩; conv => whnf)
  refine T_Times (n := k) (P := b) hk ob (fun v ov hv => ?_)
  conv => whnf
  repeat (refine ⟨⟨_, rfl⟩, ?_⟩; conv => whnf)
  refine T_Base (n := s) hs (fun a oa ha => ?_)
  conv => whnf
  repeat (refine ⟨⟨_, rfl⟩, ?_⟩; conv => whnf)
  refine T_Base (n := k) hk (fun u ou hu => ?_)
  conv => whnf
  repeat (refine ⟨⟨_, rfl⟩, ?_⟩; conv => whnf)
  refine S_challenge (P := pr5 a b q u v) (Shows5 rfl ?_) (on_pr5 oa ob oq ou ov) (fun c hc hc1 => ?_)
  · intro i j hi hj
    have h1 : i = 0 ∨ i = 1 ∨ i = 2 ∨ i = 3 ∨ i = 4 := by omega
    have h2 : j = 0 ∨ j = 1 ∨ j = 2 ∨ j = 3 ∨ j = 4 ∨ j = 5 ∨ j = 6 ∨ j = 7 ∨ j = 8 := by omega
    rcases h1 with rfl | rfl | rfl | rfl | rfl <;> rcases h2 with rfl | rfl | rfl | rfl | rfl | rfl | rfl | rfl | rfl <;> rfl
  conv => whnf
  repeat (refine ⟨⟨_, rfl⟩, ?_⟩; conv => whnf)
  refine S_FMul_1 (a := c) (b := s) (Nat.lt_trans hc1 (by decide)) hs (fun r1 hr1 => ?_)
  conv => whnf
  repeat (refine ⟨⟨_, rfl⟩, ?_⟩; conv => whnf)
  refine S_FSub_1 (a := k) (b := r1) hk (by rw [hr1]; exact Nat.lt_trans (Nat.mod_lt _ (by decide)) (by decide)) (fun r2 hr2 => ?_)
  conv => whnf
  repeat (refine ⟨⟨_, rfl⟩, ?_⟩; conv => whnf)
  have e1 : c = prfC s k b := by rw [hc, ha, hq, hu, hv]; rfl
  have e2 : r2 = prfR s k (prfC s k b) := by rw [hr2, hr1, e1]; rfl
  rw [← e2, ← e1]
  exact ⟨rfl, flat_pre⟩
theorem S_Prove {m : Mem} {K : AV → Mem → Prop} {s k : Nat} {b : Pt Fp} (hs : s < w256) (hk : k < w256) (ob : On b) (h : ∀ c r, c = prfC s k b → r = prfR s k c → c < nN → r < nN → K (.tup [prA c r, .int .i64 0]) m) : ACall Pg F_dleq_Prove [numA s, numA k, ptA b] m K := by
  refine lift_flat (S_Prove0 s k b hs hk ob) (.cons _ _ _ _ lend_numA (.cons _ _ _ _ lend_numA (.cons _ _ _ _ (lend_flat flat_ptA) .nil))) ?_
  rintro v rfl
  exact h _ _ rfl rfl chN_lt (Nat.mod_lt _ (by decide))
theorem S_dtimes {m : Mem} {K : AV → Mem → Prop} {n : Nat} {P : Pt Fp} (hn : n < w256) (oP : On P) (h : ∀ R, On R → R = nmul n P → K (ptA R) m) : ACall Pg F_dleq_times [numA n, ptA P] m K := by
  have h0 : ACall Pg F_dleq_times [numA n, ptA P] [] (fun v _ => v = ptA (nmul n P) ∧ Flat true v) := by
    refine B_dleq_times ⟨rfl, ?_⟩
    conv => whnf
    repeat (refine ⟨⟨_, rfl⟩, ?_⟩; conv => whnf)
    refine T_Times (n := n) (P := P) hn oP (fun Q oQ hQ => ?_)
    rw [← hQ]
    conv => whnf
    repeat (refine ⟨⟨_, rfl⟩, ?_⟩; conv => whnf)
    exact ⟨rfl, flat_ptA⟩
  refine lift_flat h0 (.cons _ _ _ _ lend_numA (.cons _ _ _ _ (lend_flat flat_ptA) .nil)) ?_
  rintro v rfl
  exact h _ (oP.nmul crvP n) rfl
/-- Whether a proof holds. -/
noncomputable def hoB (a b k : Pt Fp) (c r : Nat) : Bool := decide (c < nN) && (decide (r < nN) && decide (chN (pr5 a b k (padd (nmul r gG) (nmul c a)) (padd (nmul r b) (nmul c k))) = c))
theorem flat_bE {x : Bool} {e : Int} : Flat true (.tup [.bool x, .int .i64 e]) := .tup _ (.cons _ _ (.bool _) (.cons _ _ (.int _ _) .nil))
theorem S_Holds0 (a b k : Pt Fp) (c r : Nat) (hc : c < w256) (hr : r < w256) (oa : On a) (ob : On b) (ok : On k) : ACall Pg F_dleq_Holds [ptA a, ptA b, ptA k, prA c r] [] (fun v _ => v = .tup [.bool (hoB a b k c r), .int .i64 0] ∧ Flat true v) := by
  refine B_dleq_Holds ⟨rfl, ?_⟩
  conv => whnf
  repeat (refine ⟨⟨_, rfl⟩, ?_⟩; conv => whnf)
  refine S_Check_ok (P := a) oa ?_
  conv => whnf
  repeat (refine ⟨⟨_, rfl⟩, ?_⟩; conv => whnf)
  refine S_Check_ok (P := b) ob ?_
  conv => whnf
  repeat (refine ⟨⟨_, rfl⟩, ?_⟩; conv => whnf)
  refine S_Check_ok (P := k) ok ?_
  conv => whnf
  repeat (refine ⟨⟨_, rfl⟩, ?_⟩; conv => whnf)
  refine S_Prime_1 (fun p hp => ?_)
  conv => whnf
  repeat (refine ⟨⟨_, rfl⟩, ?_⟩; conv => whnf)
  refine S_LCmpE (a := c) (b := p) rfl rfl hc (by rw [hp]; decide) (fun z1 hz1 => ?_)
  conv => whnf
  repeat (refine ⟨⟨_, rfl⟩, ?_⟩; conv => whnf)
  refine condB_mk (fun h1 => ?_) (fun h1 => ?_)
  · conv => whnf
    repeat (refine ⟨⟨_, rfl⟩, ?_⟩; conv => whnf)
    refine S_LCmpE (a := r) (b := p) rfl rfl hr (by rw [hp]; decide) (fun z2 hz2 => ?_)
    conv => whnf
    repeat (refine ⟨⟨_, rfl⟩, ?_⟩; conv => whnf)
    refine condB_mk (fun h2 => ?_) (fun h2 => ?_)
    · conv => whnf
      repeat (refine ⟨⟨_, rfl⟩, ?_⟩; conv => whnf)
      have g : hoB a b k c r = false := by
        rcases cmpZ_or hz2 with ⟨_, h⟩ | ⟨h, _⟩
        · rw [h] at h2; exact absurd h2 (by decide)
        · unfold hoB; rw [decide_eq_false (p := r < nN) (by omega)]; simp
      rw [g]
      exact ⟨rfl, flat_bE⟩
    · have h3 : c < nN := by
        rcases cmpZ_or hz1 with ⟨h, _⟩ | ⟨_, h | h⟩
        · omega
        · rw [h] at h1; exact absurd h1 (by decide)
        · rw [h] at h1; exact absurd h1 (by decide)
      have h4 : r < nN := by
        rcases cmpZ_or hz2 with ⟨h, _⟩ | ⟨_, h | h⟩
        · omega
        · rw [h] at h2; exact absurd h2 (by decide)
        · rw [h] at h2; exact absurd h2 (by decide)
      clear h1 h2 hz1 hz2
      conv => whnf
      repeat (refine ⟨⟨_, rfl⟩, ?_⟩; conv => whnf)
      refine T_Base (n := r) hr (fun g1 og1 hg1 => ?_)
      conv => whnf
      repeat (refine ⟨⟨_, rfl⟩, ?_⟩; conv => whnf)
      refine S_dtimes (n := c) (P := a) hc oa (fun g2 og2 hg2 => ?_)
      conv => whnf
      repeat (refine ⟨⟨_, rfl⟩, ?_⟩; conv => whnf)
      refine T_Add (P := g1) (Q := g2) og1 og2 (fun u ou hu => ?_)
      conv => whnf
      repeat (refine ⟨⟨_, rfl⟩, ?_⟩; conv => whnf)
      refine T_Two (n := r) (k := c) (P := b) (Q := k) hr hc ob ok (fun v ov hv => ?_)
      conv => whnf
      repeat (refine ⟨⟨_, rfl⟩, ?_⟩; conv => whnf)
      refine S_challenge (P := pr5 a b k u v) (Shows5 rfl ?_) (on_pr5 oa ob ok ou ov) (fun d hd hd1 => ?_)
      · intro i j hi hj
        have h1 : i = 0 ∨ i = 1 ∨ i = 2 ∨ i = 3 ∨ i = 4 := by omega
        have h2 : j = 0 ∨ j = 1 ∨ j = 2 ∨ j = 3 ∨ j = 4 ∨ j = 5 ∨ j = 6 ∨ j = 7 ∨ j = 8 := by omega
        rcases h1 with rfl | rfl | rfl | rfl | rfl <;> rcases h2 with rfl | rfl | rfl | rfl | rfl | rfl | rfl | rfl | rfl <;> rfl
      conv => whnf
      repeat (refine ⟨⟨_, rfl⟩, ?_⟩; conv => whnf)
      have g : eqX d c = hoB a b k c r := by
        rw [eqX_iff (Nat.lt_trans hd1 (by decide)) hc]
        unfold hoB
        rw [decide_eq_true h3, decide_eq_true h4, Bool.true_and, Bool.true_and, ← hg1, ← hg2, ← hu, ← hv, ← hd]
      rw [← g]
      exact ⟨rfl, flat_bE⟩
  · conv => whnf
    repeat (refine ⟨⟨_, rfl⟩, ?_⟩; conv => whnf)
    have g : hoB a b k c r = false := by
      rcases cmpZ_or hz1 with ⟨_, h⟩ | ⟨h, _⟩
      · rw [h] at h1; exact absurd h1 (by decide)
      · unfold hoB; rw [decide_eq_false (p := c < nN) (by omega)]; simp
    rw [g]
    exact ⟨rfl, flat_bE⟩
theorem S_Holds {m : Mem} {K : AV → Mem → Prop} {a b k : Pt Fp} {c r : Nat} (hc : c < w256) (hr : r < w256) (oa : On a) (ob : On b) (ok : On k) (h : ∀ x, x = hoB a b k c r → K (.tup [.bool x, .int .i64 0]) m) : ACall Pg F_dleq_Holds [ptA a, ptA b, ptA k, prA c r] m K := by
  refine lift_flat (S_Holds0 a b k c r hc hr oa ob ok) (.cons _ _ _ _ (lend_flat flat_ptA) (.cons _ _ _ _ (lend_flat flat_ptA) (.cons _ _ _ _ (lend_flat flat_ptA) (.cons _ _ _ _ (lend_flat flat_prA) .nil)))) ?_
  rintro v rfl
  exact h _ rfl
end Go.Proofs.Ytfolpdmbpbbimaa
end

section
/- What a dealer draws of its seed; no condition. -/
set_option linter.unusedVariables false
set_option linter.unusedSimpArgs false
set_option maxRecDepth 100000
set_option pp.maxSteps 3000
set_option pp.deepTerms false
set_option pp.deepTerms.threshold 7
namespace Go.Proofs.Ytfolpdmbpbbimaa
open Go Go.Wit

abbrev seB : ByteArray := ⟨#[115, 101, 99, 114, 101, 116]⟩
abbrev plB : ByteArray := ⟨#[112, 111, 108, 121]⟩
abbrev noB : ByteArray := ⟨#[110, 111, 110, 99, 101]⟩
def someN (a : Nat) : Nat := if a = 0 then 1 else a
theorem someN_lt {a : Nat} (h : a < nN) : someN a < nN := by
  unfold someN; split
  · decide
  · exact h
theorem someN_ne {a : Nat} : someN a ≠ 0 := by
  unfold someN; split <;> omega
/-- The secret of a seed; what is drawn of it for a purpose and a number; the coefficients. -/
def secN (n : Nat) (f : Nat → Int) : Nat := someN (scN (nT seB.size (fun _ => n) 1) (cT seB.size (strF seB) (fun _ => n) (fun _ => f) 1))
def drwN (t : ByteArray) (n : Nat) (f : Nat → Int) (i : Nat) : Nat := scN (nT t.size (pr2 n 4) 2) (cT t.size (strF t) (pr2 n 4) (pr2 f (beF (i : Nat) 4)) 2)
def coN (n : Nat) (f : Nat → Int) (i : Nat) : Nat := if i = 0 then someN (drwN plB n f 0) else drwN plB n f i
theorem secN_lt {n : Nat} {f : Nat → Int} : secN n f < nN := someN_lt scN_lt
theorem secN_ne {n : Nat} {f : Nat → Int} : secN n f ≠ 0 := someN_ne
theorem drwN_lt {t : ByteArray} {n i : Nat} {f : Nat → Int} : drwN t n f i < nN := scN_lt
theorem coN_lt {n i : Nat} {f : Nat → Int} : coN n f i < nN := by
  unfold coN; split
  · exact someN_lt scN_lt
  · exact scN_lt
theorem coN_ne {n : Nat} {f : Nat → Int} : coN n f 0 ≠ 0 := by
  unfold coN; rw [if_pos rfl]; exact someN_ne
theorem nT1 {t n : Nat} : nT t (fun _ => n) 1 = 4 + t + (4 + n) := rfl
theorem nT2 {t n : Nat} : nT t (pr2 n 4) 2 = 4 + t + (4 + n) + (4 + 4) := rfl
theorem S_some0 (a : Nat) (ha : a < w256) : ACall Pg F_deal_some [numA a] [] (fun v _ => v = numA (someN a) ∧ Flat true v) := by
  refine B_deal_some ⟨rfl, ?_⟩
  conv => whnf
  repeat (refine ⟨⟨_, rfl⟩, ?_⟩; conv => whnf)
  refine c_eqz (a := a) ha (fun h => ?_) (fun h => ?_)
  · conv => whnf
    repeat (refine ⟨⟨_, rfl⟩, ?_⟩; conv => whnf)
    rw [show someN a = 1 by unfold someN; rw [if_pos h]]
    refine ⟨rfl, ?_⟩
    show Flat true (numA 1)
    exact flat_numA
  · conv => whnf
    repeat (refine ⟨⟨_, rfl⟩, ?_⟩; conv => whnf)
    rw [show someN a = a by unfold someN; rw [if_neg h]]
    exact ⟨rfl, flat_numA⟩
theorem S_some {m : Mem} {K : AV → Mem → Prop} {a : Nat} (ha : a < w256) (h : K (numA (someN a)) m) : ACall Pg F_deal_some [numA a] m K := by
  refine lift_flat (S_some0 a ha) (.cons _ _ _ _ lend_numA .nil) ?_
  rintro v rfl
  exact h
theorem S_long {m : Mem} {x : AV} {K : AV → Mem → Prop} {n : Nat} {f : Nat → Int} (hx : Shows m x n f) (h : K (.bool (decide (16384 < n))) m) : ACall Pg F_deal_long [x] m K := by
  have h0 : ∀ cap, ACall Pg F_deal_long [.vsl 1 n cap (bytesG f)] [] (fun v _ => v = .bool (decide (16384 < n)) ∧ Flat true v) := fun cap => by
    refine B_deal_long ⟨rfl, ?_⟩
    conv => whnf
    repeat (refine ⟨⟨_, rfl⟩, ?_⟩; conv => whnf)
    have e : decide ((n : Int) > 16384) = decide (16384 < n) := by
      by_cases h : 16384 < n
      · rw [decide_eq_true h, decide_eq_true (by omega)]
      · rw [decide_eq_false h, decide_eq_false (by omega)]
    rw [e]
    exact ⟨rfl, .bool _⟩
  obtain ⟨cap, hl⟩ := hx
  refine lift_flat (h0 cap) (.cons _ _ _ _ hl .nil) ?_
  rintro v rfl
  exact h
theorem put_be {i j : Nat} {f : Nat → Int} (hj : j < 4) : bytesG (putB 0 f (i : Nat) 4) j 0 = .int .u8 (beF (i : Nat) 4 j) := by
  show AV.int .u8 (putB 0 f (i : Nat) 4 j) = _
  unfold putB beF
  rw [if_neg (by omega), Nat.sub_zero]; rfl
theorem S_Secret0 (n cap : Nat) (f : Nat → Int) (hn : n ≤ 1000000) (hf : ∀ i, i < n → 0 ≤ f i ∧ f i ≤ 255) : ACall Pg F_deal_Secret [.vsl 1 n cap (bytesG f)] [] (fun v _ => v = (if n ≤ 16384 then .tup [numA (secN n f), .int .i64 0] else .tup [numA 0, .int .i64 4]) ∧ Flat true v) := by
  refine B_deal_Secret ⟨rfl, ?_⟩
  conv => whnf
  repeat (refine ⟨⟨_, rfl⟩, ?_⟩; conv => whnf)
  refine S_long (n := n) (f := f) Shows.vsl ?_
  by_cases h : n ≤ 16384
  · rw [decide_eq_false (by omega), if_pos h]
    conv => whnf
    repeat (refine ⟨⟨_, rfl⟩, ?_⟩; conv => whnf)
    refine S_DScalar (s := seB) (r := 1) (N := fun _ => n) (F := fun _ => f) (ShowsB.sl rfl (Nat.le_of_eq (Nat.zero_add _)) fun j hj => ?_) (by decide) (by decide) (fun j hj => by omega) (fun j hj k hk => hf k hk) (fun _ a ha ha1 => ?_) (fun h2 => ?_)
    rotate_left
    rotate_left
    · exfalso; rw [nT1] at h2; change 65536 < 4 + 6 + (4 + n) at h2; omega
    · obtain rfl : j = 0 := by omega
      exact Shows.vsl
    conv => whnf
    repeat (refine ⟨⟨_, rfl⟩, ?_⟩; conv => whnf)
    refine S_some (Nat.lt_trans ha1 (by decide)) ?_
    obtain rfl := ha
    conv => whnf
    repeat (refine ⟨⟨_, rfl⟩, ?_⟩; conv => whnf)
    exact ⟨rfl, flat_ne1⟩
  · rw [decide_eq_true (by omega), if_neg h]
    conv => whnf
    repeat (refine ⟨⟨_, rfl⟩, ?_⟩; conv => whnf)
    refine ⟨rfl, ?_⟩
    show Flat true (.tup [numA 0, .int .i64 4])
    exact flat_ne1
theorem S_Secret {m : Mem} {x : AV} {K : AV → Mem → Prop} {n : Nat} {f : Nat → Int} (hx : Shows m x n f) (hn : n ≤ 1000000) (hf : ∀ i, i < n → 0 ≤ f i ∧ f i ≤ 255)
    (h1 : n ≤ 16384 → ∀ s, s = secN n f → s < nN → s ≠ 0 → K (.tup [numA s, .int .i64 0]) m) (h2 : 16384 < n → K (.tup [numA 0, .int .i64 4]) m) : ACall Pg F_deal_Secret [x] m K := by
  obtain ⟨cap, hl⟩ := hx
  refine lift_flat (S_Secret0 n cap f hn hf) (.cons _ _ _ _ hl .nil) ?_
  rintro v rfl
  by_cases h : n ≤ 16384
  · rw [if_pos h]; exact h1 h _ rfl secN_lt secN_ne
  · rw [if_neg h]; exact h2 (by omega)
theorem S_scalar0 (t : ByteArray) (ht : t.size ≤ 100) (n cap i : Nat) (f : Nat → Int) (hn : n ≤ 16384) (hf : ∀ i, i < n → 0 ≤ f i ∧ f i ≤ 255) (hi : i < 4294967296) : ACall Pg F_deal_scalar [.str t, .vsl 1 n cap (bytesG f), .int .i64 i] [] (fun v _ => v = .tup [numA (drwN t n f i), .int .i64 0] ∧ Flat true v) := by
  refine B_deal_scalar ⟨rfl, ?_⟩
  conv => whnf
  repeat (refine ⟨⟨_, rfl⟩, ?_⟩; conv => whnf)
  refine S_Put (n := 0) (f := fun _ => 0) i 4 Shows.nils (by decide) (fun h => ?_) (fun _ c2 => ?_)
  · exfalso
    unfold putOk at h
    rw [decide_eq_true (by decide), decide_eq_true (by decide), decide_eq_true (by omega), decide_eq_true (by show (i : Int) < 4294967296; omega)] at h
    cases h
  conv => whnf
  repeat (refine ⟨⟨_, rfl⟩, ?_⟩; conv => whnf)
  refine S_DScalar (s := t) (r := 2) (N := pr2 n 4) (F := pr2 f (beF (i : Nat) 4)) (ShowsB.sl rfl (Nat.le_of_eq (Nat.zero_add _)) fun j hj => ?_) (by omega) (by decide) (fun j hj => ?_) (fun j hj k hk => ?_) (fun _ a ha _ => ?_) (fun h => ?_)
  · rcases (show j = 0 ∨ j = 1 by omega) with rfl | rfl
    · exact Shows.vsl
    · exact Shows.slG rfl (Nat.le_of_eq (Nat.zero_add _)) (fun j hj => by rw [Nat.zero_add]; exact put_be hj)
  · rcases (show j = 0 ∨ j = 1 by omega) with rfl | rfl
    · show n ≤ 1000000; omega
    · show 4 ≤ 1000000; omega
  · rcases (show j = 0 ∨ j = 1 by omega) with rfl | rfl
    · exact hf k hk
    · exact beF_lt
  · obtain rfl : a = drwN t n f i := ha
    conv => whnf
    repeat (refine ⟨⟨_, rfl⟩, ?_⟩; conv => whnf)
    exact ⟨rfl, flat_ne1⟩
  · exfalso
    rw [nT2] at h
    omega
theorem S_scalar {m : Mem} {x : AV} {K : AV → Mem → Prop} {t : ByteArray} (ht : t.size ≤ 100) {n i : Nat} {f : Nat → Int} (hx : Shows m x n f) (hn : n ≤ 16384) (hf : ∀ i, i < n → 0 ≤ f i ∧ f i ≤ 255) (hi : i < 4294967296) (h : ∀ a, a = drwN t n f i → a < nN → K (.tup [numA a, .int .i64 0]) m) : ACall Pg F_deal_scalar [.str t, x, .int .i64 i] m K := by
  obtain ⟨cap, hl⟩ := hx
  refine lift_flat (S_scalar0 t ht n cap i f hn hf hi) (.cons _ _ _ _ (lend_flat (.str _)) (.cons _ _ _ _ hl (.cons _ _ _ _ lend_int .nil))) ?_
  rintro v rfl
  exact h _ rfl drwN_lt
theorem cat_num {c : Nat → Nat} {k i j a : Nat} {g : Nat → Nat → AV} (hi : i < k + 1) (ha : a = c k) (hg : ∀ j, j < 4 → g 0 j = (numL a).getD j .un) (hj : j < 4) : catG k (numsG c) g i j = numsG c i j := by
  by_cases h : i < k
  · rw [catG_lt h]
  · have h : i = k := by omega
    subst h
    rw [catG_ge (Nat.le_refl _), Nat.sub_self, hg j hj, ha]; rfl
theorem num_row {nv : Bool} {σ : Nat → Option Nat} {A : AV} {c : Nat → Nat} {k i j a : Nat} {g : Nat → Nat → AV} (hi : i < k + 1) (hj : j < 4) (ha : a = c k) (hA : A = catG k (numsG c) g i j) (hg : ∀ j, j < 4 → g 0 j = (numL a).getD j .un) : RV nv σ A (numsG c i j) :=
  RV.of (hA.trans (cat_num hi ha hg hj)) flat_numsG
theorem S_someV {m : Mem} {K : AV → Mem → Prop} {a : Nat} (ha : a < w256) (h : ∀ b, b = someN a → K (numA b) m) : ACall Pg F_deal_some [numA a] m K := S_some ha (h _ rfl)
theorem S_Poly0 (n cap t : Nat) (f : Nat → Int) (hn : n ≤ 16384) (ht : t < 64) (hf : ∀ i, i < n → 0 ≤ f i ∧ f i ≤ 255) : ACall Pg F_deal_Poly [.vsl 1 n cap (bytesG f), .int .i64 t] []
    (fun v m' => ∃ n' G x vs, v = .tup (x :: vs) ∧ (n' = t + 1 ∧ G = numsG (coN n f) ∧ vs = [.int .i64 0]) ∧ RetG 4 n' G x m' ∧ Flats true vs) := by
  obtain ⟨c, hc⟩ : ∃ c : Nat → Nat, c = coN n f := ⟨_, rfl⟩
  rw [← hc]
  refine B_deal_Poly ⟨rfl, ?_⟩
  conv => whnf
  repeat (refine ⟨⟨_, rfl⟩, ?_⟩; conv => whnf)
  refine S_long (n := n) (f := f) Shows.vsl ?_
  rw [decide_eq_false (by omega)]
  conv => whnf
  repeat (refine ⟨⟨_, rfl⟩, ?_⟩; conv => whnf)
  refine condB_no (by simp; omega) ?_
  have e4 : IntKind.i64.wrap ((t : Int) + 1) = ((t + 1 : Nat) : Int) := by rw [w64 (by omega) (by omega)]; omega
  conv => whnf
  repeat (refine ⟨⟨_, rfl⟩, ?_⟩; conv => whnf)
  rw [e4]
  refine loop_wk mixed (I := fun q l m => ∃ (k c' : Nat), l = [(0, .vsl 1 n cap (bytesG f)), (6, .sl 0 0 k c'), (21, .int .i64 ((t + 1 : Nat) : Int)), (22, .int .i64 k)] ∧ m = [some ⟨4, k, numsG c⟩] ∧ q + k = t + 1) (t + 1)
    (l0 := [(0, .vsl 1 n cap (bytesG f)), (6, .sl 0 0 0 0), (21, .int .i64 ((t + 1 : Nat) : Int)), (22, .int .i64 (0 : Nat))]) (m0 := [some ⟨4, 0, numsG c⟩]) [none] ⟨0, 0, rfl, rfl, by omega⟩ ?_ ?_
  · exact .mk0 ⟨.eq _ _ rfl flat_bytesV, .nils _ _, Flat.i rfl, Flat.i rfl, trivial⟩ ⟨.ph _ _ _ rfl, trivial⟩ rfl rfl
  · rintro q l m ⟨k, c', rfl, rfl, hq⟩
    conv => whnf
    repeat (refine ⟨⟨_, rfl⟩, ?_⟩; conv => whnf)
    refine condB_mk (fun hb => ?_) (fun hb => ?_)
    · have hb : k < t + 1 := by simp at hb; omega
      have e5 : IntKind.i64.wrap ((k : Int) + 1) = ((k + 1 : Nat) : Int) := by rw [w64 (by omega) (by omega)]; omega
      conv => whnf
      repeat (refine ⟨⟨_, rfl⟩, ?_⟩; conv => whnf)
      refine S_scalar (t := plB) (by decide) (n := n) (i := k) (f := f) Shows.vsl hn hf (by omega) (fun a ha ha1 => ?_)
      conv => whnf
      repeat (refine ⟨⟨_, rfl⟩, ?_⟩; conv => whnf)
      refine condB_mk (fun h0 => ?_) (fun h0 => ?_)
      · have h0 : k = 0 := by simp at h0; omega
        conv => whnf
        repeat (refine ⟨⟨_, rfl⟩, ?_⟩; conv => whnf)
        refine S_someV (a := a) (Nat.lt_trans ha1 (by decide)) (fun b hb' => ?_)
        have hco : b = c k := by rw [hb', hc, ha, h0]; unfold coN; rw [if_pos rfl]
        conv => whnf
        repeat (refine ⟨⟨_, rfl⟩, ?_⟩; conv => whnf)
        refine condB_ok (app_ok (by first | rfl | simp) rfl rfl (by omega) (by omega)) (fun cap' hcap => ?_)
        conv => whnf
        repeat (refine ⟨⟨_, rfl⟩, ?_⟩; conv => whnf)
        refine ⟨q - 1, [(0, .vsl 1 n cap (bytesG f)), (6, .sl 0 0 (k + 1) cap'), (21, .int .i64 ((t + 1 : Nat) : Int)), (22, .int .i64 ((k + 1 : Nat) : Int))], [some ⟨4, k + 1, numsG c⟩], [some 3], by omega, ⟨k + 1, cap', rfl, rfl, by omega⟩, ?_⟩
        refine .mk0 ⟨.eq _ _ rfl flat_bytesV, .sl _ _ _ _ _ rfl, Flat.i rfl, Flat.i e5, trivial⟩ ⟨.old 0 3 _ _ rfl rfl ⟨rfl, Nat.le_refl _, fun i j hi hj => ?_⟩, trivial⟩ rfl rfl
        dsimp only at hi hj ⊢
        refine num_row hi hj hco rfl (fun j hj => ?_)
        rcases (show j = 0 ∨ j = 1 ∨ j = 2 ∨ j = 3 by omega) with rfl | rfl | rfl | rfl <;> rfl
      · have h0 : ¬ k = 0 := by simp at h0; omega
        have hco : a = c k := by rw [hc, ha]; unfold coN; rw [if_neg h0]
        conv => whnf
        repeat (refine ⟨⟨_, rfl⟩, ?_⟩; conv => whnf)
        refine condB_ok (app_ok (by first | rfl | simp) rfl rfl (by omega) (by omega)) (fun cap' hcap => ?_)
        conv => whnf
        repeat (refine ⟨⟨_, rfl⟩, ?_⟩; conv => whnf)
        refine ⟨q - 1, [(0, .vsl 1 n cap (bytesG f)), (6, .sl 0 0 (k + 1) cap'), (21, .int .i64 ((t + 1 : Nat) : Int)), (22, .int .i64 ((k + 1 : Nat) : Int))], [some ⟨4, k + 1, numsG c⟩], [some 3], by omega, ⟨k + 1, cap', rfl, rfl, by omega⟩, ?_⟩
        refine .mk0 ⟨.eq _ _ rfl flat_bytesV, .sl _ _ _ _ _ rfl, Flat.i rfl, Flat.i e5, trivial⟩ ⟨.old 0 3 _ _ rfl rfl ⟨rfl, Nat.le_refl _, fun i j hi hj => ?_⟩, trivial⟩ rfl rfl
        dsimp only at hi hj ⊢
        refine num_row hi hj hco rfl (fun j hj => ?_)
        rcases (show j = 0 ∨ j = 1 ∨ j = 2 ∨ j = 3 by omega) with rfl | rfl | rfl | rfl <;> rfl
    · have hb : k = t + 1 := by simp at hb; omega
      subst hb
      conv => whnf
      repeat (refine ⟨⟨_, rfl⟩, ?_⟩; conv => whnf)
      exact ⟨t + 1, numsG c, _, _, rfl, ⟨rfl, rfl, rfl⟩, .inr ⟨0, c', t + 1, _, rfl, rfl, Nat.le_refl _, fun _ _ _ _ => rfl⟩, .cons _ _ (.int _ _) .nil⟩
theorem S_Poly {m : Mem} {x : AV} {K : AV → Mem → Prop} {n t : Nat} {f : Nat → Int} (hx : Shows m x n f) (hn : n ≤ 16384) (ht : t < 64) (hf : ∀ i, i < n → 0 ≤ f i ∧ f i ≤ 255)
    (h : ∀ c cap, c = coN n f → (∀ i, c i < nN) → c 0 ≠ 0 → memK (m ++ [some ⟨4, t + 1, numsG c⟩]) (K (.tup [.sl m.length 0 (t + 1) cap, .int .i64 0]))) : ACall Pg F_deal_Poly [x, .int .i64 t] m K := by
  simp only [memK_eq] at h
  obtain ⟨cap, hl⟩ := hx
  refine lift_tupG (S_Poly0 n cap t f hn ht hf) (fun n' G vs hR i j _ _ => by rw [hR.2.1]; exact flat_numsG) (.cons _ _ _ _ hl (.cons _ _ _ _ lend_int .nil)) ?_
  rintro n' G cap' vs ⟨rfl, rfl, rfl⟩
  exact h _ cap' rfl (fun i => coN_lt) coN_ne
theorem S_Poly_long {m : Mem} {x : AV} {K : AV → Mem → Prop} {n : Nat} {f : Nat → Int} {t : Int} (hx : Shows m x n f) (hn : 16384 < n)
    (h : ∀ cap G, memK (m ++ [some ⟨4, 0, G⟩]) (K (.tup [.sl m.length 0 0 cap, .int .i64 4]))) : ACall Pg F_deal_Poly [x, .int .i64 t] m K := by
  simp only [memK_eq] at h
  have h0 : ∀ cap, ACall Pg F_deal_Poly [.vsl 1 n cap (bytesG f), .int .i64 t] [] (fun v m' => ∃ n' G x vs, v = .tup (x :: vs) ∧ (n' = 0 ∧ G = numsG (fun _ => 0) ∧ vs = [.int .i64 4]) ∧ RetG 4 n' G x m' ∧ Flats true vs) := fun cap => by
    refine B_deal_Poly ⟨rfl, ?_⟩
    conv => whnf
    repeat (refine ⟨⟨_, rfl⟩, ?_⟩; conv => whnf)
    refine S_long (n := n) (f := f) Shows.vsl ?_
    rw [decide_eq_true (by omega)]
    conv => whnf
    repeat (refine ⟨⟨_, rfl⟩, ?_⟩; conv => whnf)
    exact ⟨0, _, .nils, _, rfl, ⟨rfl, rfl, rfl⟩, .inl ⟨rfl, rfl⟩, .cons _ _ (.int _ _) .nil⟩
  obtain ⟨cap, hl⟩ := hx
  refine lift_tupG (h0 cap) (fun n' G vs hR i j _ _ => by rw [hR.2.1]; exact flat_numsG) (.cons _ _ _ _ hl (.cons _ _ _ _ lend_int .nil)) ?_
  rintro n' G cap' vs ⟨rfl, rfl, rfl⟩
  exact h cap' _
end Go.Proofs.Ytfolpdmbpbbimaa
end

section
/- Labels: what runes of a text may stand in one, told in two ways; no condition. -/
set_option linter.unusedVariables false
set_option linter.unusedSimpArgs false
namespace Go.Proofs.Ytfolpdmbpbbimaa
open Go

def plainN (c : Nat) : Bool := decide (32 ≤ c) && ((decide (c < 127) || decide (159 < c)) && !(c == 65533))
def labE (many f l : Int) : Int := if many < 1 ∨ many > 24 ∨ f = 32 ∨ l = 32 then 8 else 0
/-- As the program goes. -/
def labC (s : ByteArray) : Nat → Nat → Int → Int → Int → Int
  | 0, _, many, f, l => labE many f l
  | b + 1, pos, many, f, l =>
    if pos < s.size then
      if plainN (Utf8.decode s pos).1 then labC s b (pos + (Utf8.decode s pos).2) (many + 1) (if pos = 0 then ((Utf8.decode s pos).1 : Int) else f) ((Utf8.decode s pos).1 : Int) else 8
    else labE many f l
def byteN (s : ByteArray) (i : Nat) : Nat := (s.get! i).toNat
/-- As the page goes. -/
def labR (s : ByteArray) : Nat → Nat → Nat → Bool
  | 0, _, n => decide (0 < n) && (!(byteN s 0 == 32) && !(byteN s (s.size - 1) == 32))
  | b + 1, pos, n =>
    if pos < s.size then
      if plainN (Utf8.decode s pos).1 then (if 24 < n + 1 then false else labR s b (pos + (Utf8.decode s pos).2) (n + 1)) else false
    else decide (0 < n) && (!(byteN s 0 == 32) && !(byteN s (s.size - 1) == 32))
def labOK (s : ByteArray) : Bool := labR s s.size 0 0

/-- What a rune is made of. -/
theorem decode_cases (s : ByteArray) (pos : Nat) (h : pos < s.size) :
    (∃ c, Utf8.decode s pos = (c, 1) ∧ c < 128 ∧ c = byteN s pos) ∨ Utf8.decode s pos = (65533, 1) ∨
    ∃ c w, Utf8.decode s pos = (c, w) ∧ 128 ≤ c ∧ 2 ≤ w ∧ pos + w ≤ s.size ∧ 128 ≤ byteN s pos ∧ 128 ≤ byteN s (pos + w - 1) := by
  unfold Utf8.decode
  simp only [Nat.add_zero]
  split
  · rename_i h1
    exact .inl ⟨_, rfl, h1, rfl⟩
  split
  · rename_i h1 h2
    simp only [Bool.and_eq_true, beq_iff_eq, decide_eq_true_eq] at h2
    split
    · refine .inr (.inr ⟨_, _, rfl, by omega, by omega, by omega, ?_, ?_⟩)
      · unfold byteN; omega
      · unfold byteN; rw [show pos + 2 - 1 = pos + 1 by omega]; omega
    · exact .inr (.inl rfl)
  split
  · rename_i h1 h0 h2
    simp only [Bool.and_eq_true, beq_iff_eq, decide_eq_true_eq] at h2
    split
    · rename_i h3
      simp only [Bool.and_eq_true, decide_eq_true_eq] at h3
      refine .inr (.inr ⟨_, _, rfl, by omega, by omega, by omega, ?_, ?_⟩)
      · unfold byteN; omega
      · unfold byteN; rw [show pos + 3 - 1 = pos + 2 by omega]; omega
    · exact .inr (.inl rfl)
  split
  · rename_i h1 h0 h00 h2
    simp only [Bool.and_eq_true, beq_iff_eq, decide_eq_true_eq] at h2
    split
    · rename_i h3
      simp only [Bool.and_eq_true, decide_eq_true_eq] at h3
      refine .inr (.inr ⟨_, _, rfl, by omega, by omega, by omega, ?_, ?_⟩)
      · unfold byteN; omega
      · unfold byteN; rw [show pos + 4 - 1 = pos + 3 by omega]; omega
    · exact .inr (.inl rfl)
  · exact .inr (.inl rfl)

theorem labC_many (s : ByteArray) : ∀ b pos many f l, 24 < many → labC s b pos many f l = 8
  | 0, pos, many, f, l, h => by unfold labC labE; rw [if_pos (by omega)]
  | b + 1, pos, many, f, l, h => by
    unfold labC
    split
    · split
      · exact labC_many s b _ _ _ _ (by omega)
      · rfl
    · unfold labE; rw [if_pos (by omega)]

theorem lab_same (s : ByteArray) : ∀ (b pos n : Nat) (f l : Int), s.size ≤ pos + b → n ≤ 24 →
    ((pos = 0 ∧ n = 0 ∧ f = 32 ∧ l = 32) ∨ (0 < pos ∧ pos ≤ s.size ∧ 0 < n ∧ (f = 32 ↔ byteN s 0 = 32) ∧ (l = 32 ↔ byteN s (pos - 1) = 32))) →
    labC s b pos (n : Int) f l = if labR s b pos n then 0 else 8
  | 0, pos, n, f, l, hb, hn, hi => by
    unfold labC labR labE
    rcases hi with ⟨rfl, rfl, rfl, rfl⟩ | ⟨h1, h2, h3, h4, h5⟩
    · simp
    · have hp : pos = s.size := by omega
      subst hp
      by_cases ha : byteN s 0 = 32 <;> by_cases hz : byteN s (s.size - 1) = 32
      · rw [if_pos (by right; right; left; exact h4.2 ha)]; simp [ha]
      · rw [if_pos (by right; right; left; exact h4.2 ha)]; simp [ha]
      · rw [if_pos (by right; right; right; exact h5.2 hz)]; simp [hz]
      · have := mt h4.1 ha; have := mt h5.1 hz
        rw [if_neg (by omega)]; simp [ha, hz, h3]
  | b + 1, pos, n, f, l, hb, hn, hi => by
    unfold labC labR
    by_cases hp : pos < s.size
    · rw [if_pos hp, if_pos hp]
      by_cases hpl : plainN (Utf8.decode s pos).1 = true
      · rw [if_pos hpl, if_pos hpl]
        by_cases hm : 24 < n + 1
        · rw [if_pos hm, labC_many s b _ _ _ _ (by omega)]; rfl
        · rw [if_neg hm]
          have e : ((n : Int) + 1) = ((n + 1 : Nat) : Int) := by omega
          rw [e]
          rcases decode_cases s pos hp with ⟨c, e1, e2, e3⟩ | e1 | ⟨c, w, e1, e2, e3, e4, e5, e6⟩
          · rw [e1]
            refine lab_same s b _ (n + 1) _ _ (by dsimp only; omega) (by omega) (.inr ⟨by dsimp only; omega, by dsimp only; omega, by omega, ?_, ?_⟩)
            · by_cases h0 : pos = 0
              · rw [if_pos h0]; subst h0; dsimp only; omega
              · rw [if_neg h0]
                rcases hi with ⟨h, _⟩ | ⟨_, _, _, h4, _⟩
                · exact absurd h h0
                · exact h4
            · rw [show pos + (c, 1).2 - 1 = pos by dsimp only; omega]
              dsimp only; omega
          · rw [e1] at hpl; exact absurd hpl (by decide)
          · rw [e1]
            refine lab_same s b _ (n + 1) _ _ (by dsimp only; omega) (by omega) (.inr ⟨by dsimp only; omega, by dsimp only; omega, by omega, ?_, ?_⟩)
            · by_cases h0 : pos = 0
              · rw [if_pos h0]; subst h0; dsimp only; omega
              · rw [if_neg h0]
                rcases hi with ⟨h, _⟩ | ⟨_, _, _, h4, _⟩
                · exact absurd h h0
                · exact h4
            · show (c : Int) = 32 ↔ byteN s (pos + w - 1) = 32
              omega
      · rw [if_neg hpl, if_neg hpl]; rfl
    · rw [if_neg hp, if_neg hp]
      unfold labE
      rcases hi with ⟨rfl, rfl, rfl, rfl⟩ | ⟨h1, h2, h3, h4, h5⟩
      · simp
      · have hp : pos = s.size := by omega
        subst hp
        by_cases ha : byteN s 0 = 32 <;> by_cases hz : byteN s (s.size - 1) = 32
        · rw [if_pos (by right; right; left; exact h4.2 ha)]; simp [ha]
        · rw [if_pos (by right; right; left; exact h4.2 ha)]; simp [ha]
        · rw [if_pos (by right; right; right; exact h5.2 hz)]; simp [hz]
        · have := mt h4.1 ha; have := mt h5.1 hz
          rw [if_neg (by omega)]; simp [ha, hz, h3]
theorem lab_said (s : ByteArray) : labC s s.size 0 0 32 32 = if labOK s then 0 else 8 :=
  lab_same s s.size 0 0 32 32 (by omega) (by omega) (.inl ⟨rfl, rfl, rfl, rfl⟩)
end Go.Proofs.Ytfolpdmbpbbimaa
end

section
/- Labels, as the program tells them; no condition. -/
set_option linter.unusedVariables false
set_option linter.unusedSimpArgs false
set_option pp.maxSteps 600
set_option pp.deepTerms false
set_option pp.deepTerms.threshold 4
namespace Go.Proofs.Ytfolpdmbpbbimaa
open Go Go.Wit

theorem width_pos (s : ByteArray) (pos : Nat) (h : pos < s.size) : 1 ≤ (Utf8.decode s pos).2 ∧ pos + (Utf8.decode s pos).2 ≤ s.size := by
  rcases decode_cases s pos h with ⟨c, e, _⟩ | e | ⟨c, w, e, h1, h2, h3, _⟩
  · rw [e]; exact ⟨Nat.le_refl _, by omega⟩
  · rw [e]; exact ⟨Nat.le_refl _, by omega⟩
  · rw [e]; exact ⟨by show 1 ≤ w; omega, h3⟩
theorem labC_end (s : ByteArray) (b pos : Nat) (m f l : Int) (h : ¬ pos < s.size) : labC s b pos m f l = labE m f l := by
  cases b with
  | zero => rfl
  | succ b => unfold labC; rw [if_neg h]
set_option maxRecDepth 1000000 in
theorem walk_plain (c : Nat) (w : World) :
    Calls Pg 132 #[.int .i32 (c : Int)] w fun e w' => e = .returned (.bool (plainN c)) ∧ w' = w := by
  go_enter Try.func132, Try.ntmps132
  go_wp2
  all_goals go_ret
  all_goals refine ⟨?_, rfl⟩
  all_goals unfold plainN
  all_goals simp_all
  all_goals first
    | omega
    | (rw [Bool.eq_iff_iff]; simp; omega)
set_option maxRecDepth 1000000 in
theorem walk_label (s : ByteArray) (w : World) (hs : s.size ≤ 1000000000) (R : Int) (hR : labC s s.size 0 0 32 32 = R) :
    Calls Pg 93 #[.string s] w fun e w' => e = .returned (.int .i64 R) ∧ ∃ pos, w' = w.iter s pos := by
  go_enter Try.func93, Try.ntmps93
  go_wp2
  go_loopw [3, 4, 5] (fun n1 n2 n3 w' => ∃ (pos b : Nat) (m f l : Int), w' = w.iter s pos ∧ n1 = .int .i64 m ∧ n2 = .int .i32 f ∧ n3 = .int .i32 l ∧ labC s b pos m f l = R ∧ s.size ≤ pos + b ∧ 0 ≤ m ∧ m ≤ pos) (fun _ _ _ w' => s.size - w'.iterPos w.heap.size)
  case atStart => exact ⟨0, s.size, 0, 32, 32, rfl, rfl, rfl, rfl, hR, by omega, by omega, by omega⟩
  case round =>
    obtain ⟨pos, b, m, f, l, rfl, rfl, rfl, rfl, hc, hb, hm, hm2⟩ := hrel
    by_cases hp : pos < s.size
    · have hnx : ∀ ty, (Instr.next (.pointer (some ⟨w.heap.size, 0, none⟩)) true ty).run Pg (w.iter s pos) = _ := fun ty => run_next_any w s pos ty hp
      go_wp2
      refine (walk_plain (Utf8.decode s pos).1 _).mono ?_
      rintro e w' ⟨rfl, rfl⟩
      cases b with
      | zero => omega
      | succ b =>
      unfold labC at hc
      rw [if_pos hp] at hc
      have hw := width_pos s pos hp
      cases hpl : plainN (Utf8.decode s pos).1 with
      | true =>
        rw [hpl, if_pos rfl] at hc
        go_wp2
        all_goals go_roundw
        case rel =>
          rename_i h0
          have h1 : pos = 0 := by simpa using h0
          rw [if_pos h1] at hc
          refine ⟨_, b, m + 1, _, _, rfl, ?_, rfl, rfl, hc, by omega, by omega, by omega⟩
          go_unwrap
        case rel =>
          rename_i h0
          have h1 : ¬ pos = 0 := by simpa using h0
          rw [if_neg h1] at hc
          refine ⟨_, b, m + 1, _, _, rfl, ?_, rfl, rfl, hc, by omega, by omega, by omega⟩
          go_unwrap
        all_goals (simp; omega)
      | false =>
        rw [hpl, if_neg (by decide)] at hc
        go_wp2
        go_ret
        exact ⟨by rw [← hc]; rfl, _, rfl⟩
    · have hnx : ∀ ty, (Instr.next (.pointer (some ⟨w.heap.size, 0, none⟩)) true ty).run Pg (w.iter s pos) = _ := fun ty => run_next_end w s pos ty hp
      rw [labC_end s b pos m f l hp] at hc
      go_wp2
      all_goals go_ret
      all_goals refine ⟨?_, _, rfl⟩
      all_goals rw [← hc]
      all_goals unfold labE
      all_goals simp_all
      all_goals omega
theorem MRel.iter {C : Ctx} {m : Mem} {w : World} {L : Lay} (hR : MRel C m w L) (s : ByteArray) (pos : Nat) :
    MRel C m (w.iter s pos) L ∧ Ext w.heap L (OO C m L) (w.iter s pos).heap L (OO C m L) := by
  have hx : Ext w.heap L (OO C m L) (w.iter s pos).heap L (OO C m L) := ⟨fun _ _ e => e, fun b hb _ => by
    show (w.heap.push _)[b]? = _
    rw [Array.getElem?_push_lt hb, Array.getElem?_eq_getElem hb], fun _ _ e => e⟩
  have hpush : ∀ b o, w.heap[b]? = some o → (w.iter s pos).heap[b]? = some o := fun b o h => by
    have hb : b < w.heap.size := by
      rcases Nat.lt_or_ge b w.heap.size with h1 | h1
      · exact h1
      · rw [Array.getElem?_eq_none h1] at h; cases h
    show (w.heap.push _)[b]? = _
    rw [Array.getElem?_push_lt hb, ← h, Array.getElem?_eq_getElem hb]
  have hsz : (w.iter s pos).heap.size = w.heap.size + 1 := by
    show (w.heap.push _).size = _
    simp
  refine ⟨⟨hR.os, hR.tape, hR.output, by have := hR.size; omega, fun b hb hO => ?_, hR.lay, fun l blk hl => ?_, hR.inj, hR.base, hR.xlt, hR.notX⟩, hx⟩
  · rw [← hR.frame b hb hO]
    have hb2 : b < w.heap.size := Nat.lt_of_lt_of_le hb hR.size
    show (w.heap.push _)[b]? = _
    rw [Array.getElem?_push_lt hb2, Array.getElem?_eq_getElem hb2]
  · obtain ⟨e, h1, h2, h3, h0⟩ := hR.blk l blk hl
    refine ⟨e, h1, h2, h3, fun ht => ?_⟩
    obtain ⟨c, T, h4, h5, h6, h7⟩ := h0 ht
    refine ⟨c, T, hpush _ _ h4, h5, h6, fun i j hi hj => ?_⟩
    obtain ⟨v, g1, g2, g3⟩ := h7 i j hi hj
    exact ⟨v, g1, g2.ext hx, g3⟩
theorem S_label {m : Mem} {K : AV → Mem → Prop} {s : ByteArray} (hs : s.size ≤ 1000000000) (h : K (.int .i64 (if labOK s then 0 else 8)) m) : ACall Pg F_label_Check [.str s] m K := by
  refine ⟨⟨Try.f93, Try.func93, by kernel_rfl, rfl⟩, fun C w L cargs hR hv => ?_⟩
  obtain ⟨l⟩ := cargs
  cases hv with
  | cons _ d _ cs h1 h2 =>
    cases h2
    cases h1
    refine (walk_label s w hs _ (lab_said s)).mono fun en w' ⟨he, pos, hw⟩ => ?_
    subst hw
    exact ⟨_, m, _, L, he, h, (MRel.iter hR s pos).1, .int _ _, (MRel.iter hR s pos).2⟩
end Go.Proofs.Ytfolpdmbpbbimaa
end

section
/- Acts as values; what a dealer registers; no condition. -/
set_option linter.unusedVariables false
set_option linter.unusedSimpArgs false
set_option maxRecDepth 100000
set_option pp.maxSteps 3000
set_option pp.deepTerms false
set_option pp.deepTerms.threshold 7
namespace Go.Proofs.Ytfolpdmbpbbimaa
open Go Go.Wit

/-- An act. -/
def actL (k : Int) (i : Bool) (x y : Nat) (s : ByteArray) (sl co : AV) (ag : Int) (c r : Nat) : List AV := [.int .i64 k, .bool i, .int .u64 (lim x 0), .int .u64 (lim x 1), .int .u64 (lim x 2), .int .u64 (lim x 3), .int .u64 (lim y 0), .int .u64 (lim y 1), .int .u64 (lim y 2), .int .u64 (lim y 3), .str s, sl, co, .int .i64 ag,
  .int .u64 (lim c 0), .int .u64 (lim c 1), .int .u64 (lim c 2), .int .u64 (lim c 3), .int .u64 (lim r 0), .int .u64 (lim r 1), .int .u64 (lim r 2), .int .u64 (lim r 3)]
def actA (k : Int) (i : Bool) (x y : Nat) (s : ByteArray) (sl co : AV) (ag : Int) (c r : Nat) : AV := .agg (actL k i x y s sl co ag c r)
abbrev nB : ByteArray := ⟨#[]⟩
abbrev act0 : AV := actA 0 false 0 0 nB .nils .nils 0 0 0
theorem flat_actA {nv : Bool} {k : Int} {i : Bool} {x y : Nat} {s : ByteArray} {sl co : AV} {ag : Int} {c r : Nat} (h1 : Flat nv sl) (h2 : Flat nv co) : Flat nv (actA k i x y s sl co ag c r) := by
  unfold actA actL
  refine .agg _ ?_
  repeat (first | exact .nil | refine .cons _ _ (.int _ _) ?_ | refine .cons _ _ (.bool _) ?_ | refine .cons _ _ (.str _) ?_ | refine .cons _ _ h1 ?_ | refine .cons _ _ h2 ?_)
theorem flat_acte {k : Int} {i : Bool} {x y : Nat} {s : ByteArray} {ag : Int} {c r : Nat} {e : Int} : Flat true (.tup [actA k i x y s .nils .nils ag c r, .int .i64 e]) := .tup _ (.cons _ _ (flat_actA .nils .nils) (.cons _ _ (.int _ _) .nil))
theorem S_Register0 (n cap : Nat) (f : Nat → Int) (s : ByteArray) (hn : n ≤ 1000000) (hs : s.size ≤ 1000000000) (hf : ∀ i, i < n → 0 ≤ f i ∧ f i ≤ 255) : ACall Pg F_deal_Register [.vsl 1 n cap (bytesG f), .str s] []
    (fun v _ => v = (if n ≤ 16384 then (if labOK s then .tup [actA 1 (isI (nmul (secN n f) gG)) (xN (nmul (secN n f) gG)) (yN (nmul (secN n f) gG)) s .nils .nils 0 0 0, .int .i64 0] else .tup [act0, .int .i64 8]) else .tup [act0, .int .i64 4]) ∧ Flat true v) := by
  refine B_deal_Register ⟨rfl, ?_⟩
  conv => whnf
  repeat (refine ⟨⟨_, rfl⟩, ?_⟩; conv => whnf)
  refine S_Secret (n := n) (f := f) Shows.vsl hn hf (fun hn2 a ha ha1 ha0 => ?_) (fun hn2 => ?_)
  · rw [if_pos hn2]
    conv => whnf
    repeat (refine ⟨⟨_, rfl⟩, ?_⟩; conv => whnf)
    refine S_label hs ?_
    cases hl : labOK s with
    | true =>
      rw [if_pos rfl, if_pos rfl]
      conv => whnf
      repeat (refine ⟨⟨_, rfl⟩, ?_⟩; conv => whnf)
      refine T_Base (n := a) (Nat.lt_trans ha1 (by decide)) (fun P oP hP => ?_)
      rw [← ha, ← hP]
      conv => whnf
      repeat (refine ⟨⟨_, rfl⟩, ?_⟩; conv => whnf)
      refine ⟨rfl, ?_⟩
      show Flat true (.tup [actA 1 (isI P) (xN P) (yN P) s .nils .nils 0 0 0, .int .i64 0])
      exact flat_acte
    | false =>
      rw [if_neg (by decide), if_neg (by decide)]
      conv => whnf
      repeat (refine ⟨⟨_, rfl⟩, ?_⟩; conv => whnf)
      refine ⟨rfl, ?_⟩
      show Flat true (.tup [act0, .int .i64 8])
      exact flat_acte
  · rw [if_neg (by omega)]
    conv => whnf
    repeat (refine ⟨⟨_, rfl⟩, ?_⟩; conv => whnf)
    refine ⟨rfl, ?_⟩
    show Flat true (.tup [act0, .int .i64 4])
    exact flat_acte
theorem S_Register {m : Mem} {x : AV} {K : AV → Mem → Prop} {n : Nat} {f : Nat → Int} {s : ByteArray} (hx : Shows m x n f) (hn : n ≤ 1000000) (hs : s.size ≤ 1000000000) (hf : ∀ i, i < n → 0 ≤ f i ∧ f i ≤ 255)
    (h1 : n ≤ 16384 → labOK s = true → ∀ P t, t = s → On P → P = nmul (secN n f) gG → K (.tup [actA 1 (isI P) (xN P) (yN P) t .nils .nils 0 0 0, .int .i64 0]) m)
    (h2 : n ≤ 16384 → labOK s = false → K (.tup [act0, .int .i64 8]) m) (h3 : 16384 < n → K (.tup [act0, .int .i64 4]) m) : ACall Pg F_deal_Register [x, .str s] m K := by
  obtain ⟨cap, hl⟩ := hx
  refine lift_flat (S_Register0 n cap f s hn hs hf) (.cons _ _ _ _ hl (.cons _ _ _ _ (lend_flat (.str _)) .nil)) ?_
  rintro v rfl
  by_cases h : n ≤ 16384
  · rw [if_pos h]
    by_cases hl : labOK s = true
    · rw [if_pos hl]; exact h1 h hl _ _ rfl (on_G.nmul crvP _) rfl
    · rw [if_neg hl]; exact h2 h (by simpa using hl)
  · rw [if_neg h]; exact h3 (by omega)
theorem isI_inf {P : Pt Fp} (h : isI P = true) : P = .inf := by
  cases P with
  | inf => rfl
  | aff x y => cases h
theorem base_fin {a : Nat} (h0 : a ≠ 0) (h1 : a < nN) : isI (nmul a gG) = false := by
  cases h : isI (nmul a gG) with
  | false => rfl
  | true =>
    have := nmul_G_inf (isI_inf h)
    have := Nat.le_of_dvd (by omega) this
    omega
theorem lab_x : labOK ⟨#[120]⟩ = true := by decide +kernel
theorem lab_sx : labOK ⟨#[32, 120]⟩ = false := by decide +kernel
theorem S_wakes21 {m : Mem} {K : AV → Mem → Prop} (h : K (.bool true) m) : ACall Pg F_witanlaw21_wakes [] m K := by
  have h0 : ACall Pg F_witanlaw21_wakes [] [] (fun v _ => v = .bool true ∧ Flat true v) := by
    refine B_witanlaw21_wakes ⟨rfl, ?_⟩
    conv => whnf
    repeat (refine ⟨⟨_, rfl⟩, ?_⟩; conv => whnf)
    refine S_Register (n := 1) (f := fun _ => 1) (s := ⟨#[32, 120]⟩) (Shows.one rfl rfl) (by decide) (by decide) (fun _ _ => by decide) (fun _ h => absurd h (by rw [lab_sx]; decide)) (fun _ _ => ?_) (fun h => absurd h (by decide))
    conv => whnf
    repeat (refine ⟨⟨_, rfl⟩, ?_⟩; conv => whnf)
    refine S_Register (n := 1) (f := fun _ => 1) (s := ⟨#[120]⟩) (Shows.one rfl rfl) (by decide) (by decide) (fun _ _ => by decide) (fun _ _ P t ht oP hP => ?_) (fun _ h => absurd h (by rw [lab_x]; decide)) (fun h => absurd h (by decide))
    have hI : isI P = false := by rw [hP]; exact base_fin secN_ne secN_lt
    rw [hI]
    clear hP hI
    conv => whnf
    repeat (refine ⟨⟨_, rfl⟩, ?_⟩; conv => whnf)
    refine condB_yes (by rw [ht]; decide +kernel) ?_
    conv => whnf
    repeat (refine ⟨⟨_, rfl⟩, ?_⟩; conv => whnf)
    exact ⟨rfl, .bool _⟩
  refine lift_flat h0 .nil ?_
  rintro v rfl
  exact h
end Go.Proofs.Ytfolpdmbpbbimaa
end

section
/- What lists of points are worth somewhere; no condition. -/
set_option linter.unusedVariables false
set_option linter.unusedSimpArgs false
set_option maxRecDepth 100000
set_option pp.maxSteps 3000
namespace Go.Proofs.Ytfolpdmbpbbimaa
open Go Go.Wit

theorem S_Commit {m : Mem} {x : AV} {K : AV → Mem → Prop} {n : Nat} {c : Nat → Nat} (hx : ShowsG m x 4 n (numsG c)) (hc : ∀ i, i < n → c i < w256)
    (h1 : n ≤ 64 → ∀ P cap, P = (fun i => nmul (c i) gG) → memK (m ++ [some ⟨9, n, ptsG P⟩]) (K (.tup [.sl m.length 0 n cap, .int .i64 0])))
    (h2 : 64 < n → ∀ G cap, memK (m ++ [some ⟨9, 0, ptsG G⟩]) (K (.tup [.sl m.length 0 0 cap, .int .i64 4]))) : ACall Pg F_feld_Commit [x] m K := by
  simp only [memK_eq] at h1 h2
  obtain ⟨cap, hl⟩ := hx
  refine lift_tupG (S_Commit0 n cap c hc) (fun n G vs hR i j _ _ => ?_) (.cons _ _ _ _ hl .nil) ?_
  · rcases hR with ⟨_, _, rfl, _⟩ | ⟨_, _, ⟨P, rfl⟩, _⟩ <;> exact flat_ptsG
  rintro n' G cap' vs (⟨a, rfl, rfl, rfl⟩ | ⟨a, rfl, ⟨P, rfl⟩, rfl⟩)
  · exact h1 a _ cap' rfl
  · exact h2 a P cap'

theorem flat_numG1 {nv : Bool} {n i j : Nat} : Flat nv (lstG 1 (numL n) i j) := flat_numG
end Go.Proofs.Ytfolpdmbpbbimaa
end

section
/- What lists of points are worth somewhere: the rest of the calls; polynomials; no condition. -/
set_option linter.unusedVariables false
set_option linter.unusedSimpArgs false
set_option maxRecDepth 100000
set_option pp.maxSteps 3000
namespace Go.Proofs.Ytfolpdmbpbbimaa
open Go Go.Wit

/-- What a polynomial is worth, before it is cut. -/
def sumN (c : Nat → Nat) (x : Nat) : Nat → Nat := Nat.rec (motive := fun _ => Nat) 0 (fun k ih => ih + x ^ k * c k)
def horN (c : Nat → Nat) (x n : Nat) : Nat → Nat := Nat.rec (motive := fun _ => Nat) 0 (fun t ih => ih * x + c (n - 1 - t))
theorem sumN_succ {c : Nat → Nat} {x k : Nat} : sumN c x (k + 1) = sumN c x k + x ^ k * c k := rfl
theorem horN_succ {c : Nat → Nat} {x n t : Nat} : horN c x n (t + 1) = horN c x n t * x + c (n - 1 - t) := rfl
theorem horN_sum {c : Nat → Nat} {x n : Nat} : ∀ t, t ≤ n → sumN c x (n - t) + x ^ (n - t) * horN c x n t = sumN c x n
  | 0, _ => by show sumN c x n + _ * 0 = _; rw [Nat.mul_zero, Nat.add_zero]
  | t + 1, h => by
    have ih := horN_sum t (c := c) (x := x) (n := n) (by omega)
    have e : n - t = n - (t + 1) + 1 := by omega
    rw [e, sumN_succ, Nat.pow_succ] at ih
    rw [← ih, horN_succ, show n - 1 - t = n - (t + 1) by omega, Nat.mul_add, Nat.mul_assoc, Nat.mul_comm x (horN c x n t), Nat.add_assoc, Nat.add_comm (x ^ (n - (t + 1)) * c (n - (t + 1)))]
theorem horN_all {c : Nat → Nat} {x n : Nat} : horN c x n n = sumN c x n := by
  have := horN_sum (c := c) (x := x) (n := n) n (Nat.le_refl _)
  rw [Nat.sub_self, Nat.pow_zero, Nat.one_mul] at this
  rw [← this]; show _ = 0 + _; rw [Nat.zero_add]
theorem S_pmul {m : Mem} {K : AV → Mem → Prop} {a b : Nat} (ha : a < w256) (hb : b < w256) (h : ∀ r, r = a * b % nN → K (numA r) m) : ACall Pg F_poly_mul [numA a, numA b] m K := by
  have h0 : ACall Pg F_poly_mul [numA a, numA b] [] (fun v _ => v = numA (a * b % nN) ∧ Flat true v) := by
    refine B_poly_mul ⟨rfl, ?_⟩
    conv => whnf
    repeat (refine ⟨⟨[], rfl⟩, ?_⟩; conv => whnf)
    refine S_FMul_1 ha hb (fun r hr => ?_)
    conv => whnf
    repeat (refine ⟨⟨[], rfl⟩, ?_⟩; conv => whnf)
    rw [← hr]
    exact ⟨rfl, flat_numA⟩
  refine lift_flat h0 (.cons _ _ _ _ lend_numA (.cons _ _ _ _ lend_numA .nil)) ?_
  rintro v rfl
  exact h _ rfl
theorem S_polyadd {m : Mem} {K : AV → Mem → Prop} {a b : Nat} (ha : a < w256) (hb : b < w256) (h : ∀ r, r = (a + b) % nN → K (numA r) m) : ACall Pg F_poly_add [numA a, numA b] m K := by
  have h0 : ACall Pg F_poly_add [numA a, numA b] [] (fun v _ => v = numA ((a + b) % nN) ∧ Flat true v) := by
    refine B_poly_add ⟨rfl, ?_⟩
    conv => whnf
    repeat (refine ⟨⟨[], rfl⟩, ?_⟩; conv => whnf)
    refine S_FAdd_1 ha hb (fun r hr => ?_)
    conv => whnf
    repeat (refine ⟨⟨[], rfl⟩, ?_⟩; conv => whnf)
    rw [← hr]
    exact ⟨rfl, flat_numA⟩
  refine lift_flat h0 (.cons _ _ _ _ lend_numA (.cons _ _ _ _ lend_numA .nil)) ?_
  rintro v rfl
  exact h _ rfl

theorem mod_hor {a x c n : Nat} : (a % n * x % n + c) % n = (a * x + c) % n := by
  rw [Nat.mod_mul_mod, Nat.mod_add_mod]
theorem S_Eval0 (n cap : Nat) (c : Nat → Nat) (x : Nat) (hx : x < w256) (hc : ∀ i, i < n → c i < w256) (hn : n ≤ 140737488355328) : ACall Pg F_poly_Eval [.vsl 4 n cap (numsG c), numA x] [] (fun v _ => v = numA (sumN c x n % nN) ∧ Flat true v) := by
  refine B_poly_Eval ⟨rfl, ?_⟩
  conv => whnf
  repeat (refine ⟨⟨[], rfl⟩, ?_⟩; conv => whnf)
  have e10 : IntKind.i64.wrap ((n : Int) - 1) = (n : Int) - 1 := w64 (by omega) (by omega)
  refine loop_wk mixed (I := fun q l m => ∃ (v : Int) (t o : Nat), l = [(0, .vsl 4 n cap (numsG c)), (3, .ptr 0 0 0), (4, .ptr 1 0 0), (5, .ptr 2 0 0), (6, .int .i64 v)] ∧
      m = [some ⟨1, 4, lstG 1 (numL x)⟩, some ⟨1, 4, lstG 1 (numL 0)⟩, some ⟨1, 4, lstG 1 (numL o)⟩] ∧ q + t = n ∧ v = (q : Int) - 1 ∧ o = horN c x n t % nN) n
    (l0 := [(0, .vsl 4 n cap (numsG c)), (3, .ptr 0 0 0), (4, .ptr 1 0 0), (5, .ptr 2 0 0), (6, .int .i64 ((n : Int) - 1))])
    (m0 := [some ⟨1, 4, lstG 1 (numL x)⟩, some ⟨1, 4, lstG 1 (numL 0)⟩, some ⟨1, 4, lstG 1 (numL 0)⟩]) [some 0, some 1, some 2] ⟨_, 0, 0, rfl, rfl, rfl, rfl, rfl⟩ ?_ ?_
  · refine .mk0 ⟨.eq _ _ rfl (.vsl _ _ _ _ rfl (fun _ _ _ _ => flat_numsG)), .ptr _ _ _ _ rfl, .ptr _ _ _ _ rfl, .ptr _ _ _ _ rfl, Flat.i e10, trivial⟩ ⟨.old 0 0 _ _ rfl rfl ⟨rfl, Nat.le_refl _, fun i j hi hj => .eq _ _ rfl flat_numG⟩,
      .old 1 1 _ _ rfl rfl ⟨rfl, Nat.le_refl _, fun i j hi hj => ?_⟩, .old 2 2 _ _ rfl rfl ⟨rfl, Nat.le_refl _, fun i j hi hj => ?_⟩, trivial⟩ rfl rfl
    all_goals
      have hj : j < 1 := hj
      have hi : i < 4 := hi
      obtain rfl : j = 0 := by omega
      have : i = 0 ∨ i = 1 ∨ i = 2 ∨ i = 3 := by omega
      rcases this with rfl | rfl | rfl | rfl <;> exact .eq _ _ rfl (.int _ _)
  · rintro q l m ⟨v, t, o, rfl, rfl, hq, hv, ho⟩
    have ho1 : o < w256 := by rw [ho]; exact Nat.lt_trans (Nat.mod_lt _ (by decide)) (by decide)
    conv => whnf
    repeat (refine ⟨⟨[], rfl⟩, ?_⟩; conv => whnf)
    refine condB_mk (fun hb => ?_) (fun hb => ?_)
    · have hb : v ≥ 0 := of_decide_eq_true hb
      obtain ⟨k, rfl⟩ : ∃ k, q = k + 1 := ⟨q - 1, by omega⟩
      obtain rfl : v = (k : Int) := by omega
      conv => whnf
      repeat (refine ⟨⟨[], rfl⟩, ?_⟩; conv => whnf)
      refine condB_ok (by simp; omega) ?_
      conv => whnf
      repeat (refine ⟨⟨[], rfl⟩, ?_⟩; conv => whnf)
      refine S_pmul ho1 hx (fun r hr => ?_)
      have hr1 : r < w256 := by rw [hr]; exact Nat.lt_trans (Nat.mod_lt _ (by decide)) (by decide)
      conv => whnf
      repeat (refine ⟨⟨[], rfl⟩, ?_⟩; conv => whnf)
      refine S_polyadd (b := c k) hr1 (hc k (by omega)) (fun s hs => ?_)
      conv => whnf
      repeat (refine ⟨⟨[], rfl⟩, ?_⟩; conv => whnf)
      have hs2 : s = horN c x n (t + 1) % nN := by rw [hs, hr, ho, mod_hor, horN_succ, show n - 1 - t = k by omega]
      have e5 : IntKind.i64.wrap ((k : Int) - 1) = (k : Int) - 1 := w64 (by omega) (by omega)
      refine ⟨k, _, _, [some 0, some 1, some 2], Nat.lt_succ_self _, ⟨(k : Int) - 1, t + 1, s, rfl, rfl, by omega, rfl, hs2⟩, ?_⟩
      exact .mk0 ⟨.eq _ _ rfl (.vsl _ _ _ _ rfl (fun _ _ _ _ => flat_numsG)), .ptr _ _ _ _ rfl, .ptr _ _ _ _ rfl, .ptr _ _ _ _ rfl, Flat.i e5, trivial⟩ ⟨.old 0 0 _ _ rfl rfl ⟨rfl, Nat.le_refl _, fun i j hi hj => .eq _ _ rfl flat_numG1⟩,
        .old 1 1 _ _ rfl rfl ⟨rfl, Nat.le_refl _, fun i j hi hj => .eq _ _ rfl flat_numG1⟩, .old 2 2 _ _ rfl rfl ⟨rfl, Nat.le_refl _, fun i j hi hj => .eq _ _ rfl flat_numG1⟩, trivial⟩ rfl rfl
    · have hb : ¬ v ≥ 0 := of_decide_eq_false hb
      obtain rfl : q = 0 := by omega
      obtain rfl : t = n := by omega
      rw [horN_all] at ho
      conv => whnf
      repeat (refine ⟨⟨[], rfl⟩, ?_⟩; conv => whnf)
      rw [← ho]
      exact ⟨rfl, flat_numA⟩
theorem S_Eval {m : Mem} {a : AV} {K : AV → Mem → Prop} {n x : Nat} {c : Nat → Nat} (ha : ShowsG m a 4 n (numsG c)) (hx : x < w256) (hc : ∀ i, i < n → c i < w256) (hn : n ≤ 140737488355328) (h : ∀ r, r = sumN c x n % nN → r < w256 → K (numA r) m) : ACall Pg F_poly_Eval [a, numA x] m K := by
  obtain ⟨cap, hl⟩ := ha
  refine lift_flat (S_Eval0 n cap c x hx hc hn) (.cons _ _ _ _ hl (.cons _ _ _ _ lend_numA .nil)) ?_
  rintro v rfl
  exact h _ rfl (Nat.lt_trans (Nat.mod_lt _ (by decide)) (by decide))

end Go.Proofs.Ytfolpdmbpbbimaa
end

section
/- Lists of points: the reference's calls, twins, comparisons; no condition. -/
set_option linter.unusedVariables false
set_option linter.unusedSimpArgs false
set_option maxRecDepth 100000
set_option pp.maxSteps 3000
namespace Go.Proofs.Ytfolpdmbpbbimaa
open Go Go.Wit

theorem S_kNums0 (n c1 c2 : Nat) (c : Nat → Nat) (hc : ∀ i, i < n → c i < w256) (hn : n ≤ 140737488355328) : ACall Pg F_witankeep_Nums [.vsl 4 n c1 (numsG c), .vsl 4 n c2 (numsG c)] [] (fun v _ => v = .bool true ∧ Flat true v) := by
  refine B_witankeep_Nums ⟨rfl, ?_⟩
  conv => whnf
  repeat (refine ⟨⟨[], rfl⟩, ?_⟩; conv => whnf)
  refine condB_mk (fun h => by exfalso; simp at h) (fun h => ?_)
  conv => whnf
  repeat (refine ⟨⟨[], rfl⟩, ?_⟩; conv => whnf)
  refine loop_wk mixed (I := fun q l m => ∃ (k : Nat), l = [(0, .vsl 4 n c1 (numsG c)), (1, .vsl 4 n c2 (numsG c)), (5, .int .i64 k)] ∧ m = [] ∧ q + k = n) n
    (l0 := [(0, .vsl 4 n c1 (numsG c)), (1, .vsl 4 n c2 (numsG c)), (5, .int .i64 (0 : Nat))]) (m0 := []) [] ⟨0, rfl, rfl, rfl⟩ ?_ ?_
  · exact .mk0 ⟨.eq _ _ rfl (.vsl _ _ _ _ rfl (fun _ _ _ _ => flat_numsG)), .eq _ _ rfl (.vsl _ _ _ _ rfl (fun _ _ _ _ => flat_numsG)), Flat.i rfl, trivial⟩ trivial rfl rfl
  · rintro q l m ⟨k, rfl, rfl, hq⟩
    conv => whnf
    repeat (refine ⟨⟨[], rfl⟩, ?_⟩; conv => whnf)
    refine condB_mk (fun hb => ?_) (fun hb => ?_)
    · have hb : k < n := by simp at hb; omega
      conv => whnf
      repeat (refine ⟨⟨[], rfl⟩, ?_⟩; conv => whnf)
      refine condB_ok (by simp; omega) ?_
      conv => whnf
      repeat (refine ⟨⟨[], rfl⟩, ?_⟩; conv => whnf)
      refine condB_ok (by simp; omega) ?_
      conv => whnf
      repeat (refine ⟨⟨[], rfl⟩, ?_⟩; conv => whnf)
      refine c_ne (a := c k) (b := c k) (hc k hb) (hc k hb) (fun h => absurd rfl h) (fun _ => ?_)
      conv => whnf
      repeat (refine ⟨⟨[], rfl⟩, ?_⟩; conv => whnf)
      have e5 : IntKind.i64.wrap ((k : Int) + 1) = ((k + 1 : Nat) : Int) := by rw [w64 (by omega) (by omega)]; omega
      refine ⟨q - 1, [(0, .vsl 4 n c1 (numsG c)), (1, .vsl 4 n c2 (numsG c)), (5, .int .i64 ((k + 1 : Nat) : Int))], [], [], by omega, ⟨k + 1, rfl, rfl, by omega⟩, ?_⟩
      exact .mk0 ⟨.eq _ _ rfl (.vsl _ _ _ _ rfl (fun _ _ _ _ => flat_numsG)), .eq _ _ rfl (.vsl _ _ _ _ rfl (fun _ _ _ _ => flat_numsG)), Flat.i e5, trivial⟩ trivial rfl rfl
    · conv => whnf
      repeat (refine ⟨⟨[], rfl⟩, ?_⟩; conv => whnf)
      exact ⟨rfl, .bool _⟩
theorem S_kNums {m : Mem} {x y : AV} {K : AV → Mem → Prop} {n : Nat} {c : Nat → Nat} (hx : ShowsG m x 4 n (numsG c)) (hy : ShowsG m y 4 n (numsG c)) (hc : ∀ i, i < n → c i < w256) (hn : n ≤ 140737488355328) (h : K (.bool true) m) : ACall Pg F_witankeep_Nums [x, y] m K := by
  obtain ⟨c1, hl⟩ := hx
  obtain ⟨c2, hl2⟩ := hy
  refine lift_flat (S_kNums0 n c1 c2 c hc hn) (.cons _ _ _ _ hl (.cons _ _ _ _ hl2 .nil)) ?_
  rintro v rfl
  exact h
end Go.Proofs.Ytfolpdmbpbbimaa
end

section
/- Proofs compared, and that they hold; no condition. -/
set_option linter.unusedVariables false
set_option linter.unusedSimpArgs false
set_option maxRecDepth 100000
set_option pp.maxSteps 3000
set_option pp.deepTerms false
set_option pp.deepTerms.threshold 7
namespace Go.Proofs.Ytfolpdmbpbbimaa
open Go Go.Wit

/-- Both sums of a proof that was made are the nonce's points. -/
theorem prf_sum {P : Pt Fp} (oP : On P) (s k c : Nat) : padd (nmul (prfR s k c) P) (nmul c (nmul s P)) = nmul k P := by
  rw [← nmul_mul crvP oP, ← nmul_add crvP oP, ← nmul_mod_all oP, ← nmul_mod_all oP k]
  congr 1
  unfold prfR
  have h : c * s % nN < nN := Nat.mod_lt _ (by decide)
  generalize hx : c * s % nN = x at *
  rw [Nat.mod_eq_of_lt h, Nat.add_mod, Nat.mod_mod, hx, ← Nat.add_mod_mod, Nat.mod_add_mod]
  have h2 := hx
  rw [Nat.add_mod_mod, Nat.add_assoc, show nN - x + x = nN by omega, Nat.add_mod_right]
theorem hoB_prf {s k : Nat} {b : Pt Fp} (ob : On b) : hoB (nmul s gG) b (nmul s b) (prfC s k b) (prfR s k (prfC s k b)) = true := by
  unfold hoB
  rw [prf_sum on_G, prf_sum ob, decide_eq_true (p := prfC s k b < nN) chN_lt, decide_eq_true (p := prfR s k (prfC s k b) < nN) (Nat.mod_lt _ (by decide))]
  simp [prfC]
end Go.Proofs.Ytfolpdmbpbbimaa
end

section
/- Labels, as the page tells them; no condition. -/
set_option linter.unusedVariables false
set_option linter.unusedSimpArgs false
set_option maxRecDepth 100000
set_option pp.maxSteps 3000
set_option pp.deepTerms false
set_option pp.deepTerms.threshold 7
namespace Go.Proofs.Ytfolpdmbpbbimaa
open Go Go.Wit

theorem of_eqf {p : Prop} [Decidable p] (h : (decide p == false) = true) : ¬ p := by simpa using h
theorem of_neqf {p : Prop} [Decidable p] (h : (decide p == false) = false) : p := by simpa using h
theorem of_eqt {p : Prop} [Decidable p] (h : (decide p == true) = true) : p := by simpa using h
theorem of_neqt {p : Prop} [Decidable p] (h : (decide p == true) = false) : ¬ p := by simpa using h
end Go.Proofs.Ytfolpdmbpbbimaa
end

section
/- Labels, as the page tells them; no condition. -/
set_option linter.unusedVariables false
set_option linter.unusedSimpArgs false
set_option maxRecDepth 100000
set_option pp.maxSteps 3000
set_option pp.deepTerms false
set_option pp.deepTerms.threshold 7
namespace Go.Proofs.Ytfolpdmbpbbimaa
open Go Go.Wit

end Go.Proofs.Ytfolpdmbpbbimaa
end

section
/- Whether an act may be, as the program tells it; no condition. -/
set_option linter.unusedVariables false
set_option linter.unusedSimpArgs false
set_option maxRecDepth 100000
set_option pp.maxSteps 3000
set_option pp.deepTerms false
set_option pp.deepTerms.threshold 7
namespace Go.Proofs.Ytfolpdmbpbbimaa
open Go Go.Wit

/-- An act's parts. -/
structure AcT where
  k : Int
  i : Bool
  x : Nat
  y : Nat
  s : ByteArray
  ns : Nat
  S : Nat → Nat → Int
  nc : Nat
  I : Nat → Bool
  X : Nat → Nat
  Y : Nat → Nat
  ag : Int
  c : Nat
  r : Nat
def sealG (S : Nat → Nat → Int) : Nat → Nat → AV := fun i j => .int .u8 (S i j)
theorem flat_sealG {nv : Bool} {S : Nat → Nat → Int} {i j : Nat} : Flat nv (sealG S i j) := .int _ _
theorem flat_seals {n cap : Nat} {S : Nat → Nat → Int} : Flat false (.vsl 32 n cap (sealG S)) := .vsl _ _ _ _ rfl fun _ _ _ _ => flat_sealG
theorem flat_raws {n cap : Nat} {I : Nat → Bool} {X Y : Nat → Nat} : Flat false (.vsl 9 n cap (rawsG I X Y)) := .vsl _ _ _ _ rfl fun _ _ _ _ => flat_rawsG
def actV (k : Int) (i : Bool) (x y : Nat) (s : ByteArray) (ns c1 : Nat) (S : Nat → Nat → Int) (nc c2 : Nat) (I : Nat → Bool) (X Y : Nat → Nat) (ag : Int) (c r : Nat) : AV := actA k i x y s (.vsl 32 ns c1 (sealG S)) (.vsl 9 nc c2 (rawsG I X Y)) ag c r
def eqP9 (i : Bool) (x y : Nat) (j : Bool) (u v : Nat) : Bool := (i == j && (lim x 0 == lim u 0 && (lim x 1 == lim u 1 && (lim x 2 == lim u 2 && (lim x 3 == lim u 3 && (lim y 0 == lim v 0 && (lim y 1 == lim v 1 && (lim y 2 == lim v 2 && (lim y 3 == lim v 3 && true)))))))))
def eqR8 (c r d e : Nat) : Bool := (lim c 0 == lim d 0 && (lim c 1 == lim d 1 && (lim c 2 == lim d 2 && (lim c 3 == lim d 3 && (lim r 0 == lim e 0 && (lim r 1 == lim e 1 && (lim r 2 == lim e 2 && (lim r 3 == lim e 3 && true))))))))
theorem eqP9_refl {i : Bool} {x y : Nat} : eqP9 i x y i x y = true := by simp [eqP9]
theorem eqR8_refl {c r : Nat} : eqR8 c r c r = true := by simp [eqR8]
theorem eqR8_X {c r d e : Nat} : eqR8 c r d e = (eqX c d && eqX r e) := by
  simp only [eqR8, eqX, Bool.and_true, Bool.and_assoc]
theorem eqP9_X {i j : Bool} {x y u v : Nat} : eqP9 i x y j u v = (i == j && (eqX x u && eqX y v)) := by
  simp only [eqP9, eqX, Bool.and_true, Bool.and_assoc]
theorem eqP9_iff {i j : Bool} {x y u v : Nat} (hx : x < w256) (hy : y < w256) (hu : u < w256) (hv : v < w256) : eqP9 i x y j u v = true ↔ (i = j ∧ x = u ∧ y = v) := by
  rw [eqP9_X, eqX_iff hx hu, eqX_iff hy hv]; simp
theorem eqR8_iff {c r d e : Nat} (hc : c < w256) (hr : r < w256) (hd : d < w256) (he : e < w256) : eqR8 c r d e = true ↔ (c = d ∧ r = e) := by
  rw [eqR8_X, eqX_iff hc hd, eqX_iff hr he]; simp
/-- Whether an act names nothing but what its kind does. -/
def empP (k : Int) (i : Bool) (x y : Nat) (s : ByteArray) (ns nc : Nat) (ag : Int) (c r : Nat) : Prop :=
  ((k = 1 ∨ k = 3 ∨ k = 4) ∨ (i = false ∧ x = 0 ∧ y = 0)) ∧ (k = 1 ∨ s.toList = nB.toList) ∧ (k = 2 ∨ ns = 0) ∧ (k = 2 ∨ nc = 0) ∧ (k = 3 ∨ ag = 0) ∧ ((k = 3 ∨ k = 4) ∨ (c = 0 ∧ r = 0))
theorem S_empty_1 (k : Int) (hk : k = 1) (i : Bool) (x y : Nat) (s : ByteArray) (ns c1 : Nat) (S : Nat → Nat → Int) (nc c2 : Nat) (I : Nat → Bool) (X Y : Nat → Nat) (ag : Int) (c r : Nat) (hx : x < w256) (hy : y < w256) (hc : c < w256) (hr : r < w256) :
    ACall Pg F_act_empty [actV k i x y s ns c1 S nc c2 I X Y ag c r] [] (fun v _ => (empP k i x y s ns nc ag c r ∧ v = .bool true) ∨ (¬ empP k i x y s ns nc ag c r ∧ v = .bool false)) := by
  subst hk
  refine B_act_empty ⟨rfl, ?_⟩
  conv => whnf
  repeat (refine ⟨⟨_, rfl⟩, ?_⟩; conv => whnf)
  refine B_act_Open ⟨rfl, ?_⟩
  conv => whnf
  repeat (refine ⟨⟨_, rfl⟩, ?_⟩; conv => whnf)
  refine B_act_whole ⟨rfl, ?_⟩
  conv => whnf
  repeat (refine ⟨⟨_, rfl⟩, ?_⟩; conv => whnf)
  refine condB_yes (Eq.trans (b := (eqP9 i x y i x y == true)) rfl (by rw [eqP9_refl]; rfl)) ?_
  conv => whnf
  repeat (refine ⟨⟨_, rfl⟩, ?_⟩; conv => whnf)
  refine condB_yes (Eq.trans (b := ((s.toList == s.toList) == true)) rfl (by simp)) ?_
  conv => whnf
  repeat (refine ⟨⟨_, rfl⟩, ?_⟩; conv => whnf)
  refine condB_mk (fun hq => ?_) (fun hq => ?_)
  rotate_left
  · have hns : ¬ ns = 0 := by simp at hq; omega
    conv => whnf
    repeat (refine ⟨⟨_, rfl⟩, ?_⟩; conv => whnf)
    exact .inr ⟨by unfold empP; simp [hns], rfl⟩
  have hns : ns = 0 := by simp at hq; omega
  clear hq
  conv => whnf
  repeat (refine ⟨⟨_, rfl⟩, ?_⟩; conv => whnf)
  refine condB_mk (fun hq => ?_) (fun hq => ?_)
  rotate_left
  · have hnc : ¬ nc = 0 := by simp at hq; omega
    conv => whnf
    repeat (refine ⟨⟨_, rfl⟩, ?_⟩; conv => whnf)
    exact .inr ⟨by unfold empP; simp [hnc], rfl⟩
  have hnc : nc = 0 := by simp at hq; omega
  clear hq
  conv => whnf
  repeat (refine ⟨⟨_, rfl⟩, ?_⟩; conv => whnf)
  refine condB_mk (fun hq => ?_) (fun hq => ?_)
  rotate_left
  · replace hq : ((ag == 0) == true) = false := Eq.trans rfl hq
    have hag : ¬ ag = 0 := by simpa using hq
    conv => whnf
    repeat (refine ⟨⟨_, rfl⟩, ?_⟩; conv => whnf)
    exact .inr ⟨by unfold empP; simp [hag], rfl⟩
  replace hq : ((ag == 0) == true) = true := Eq.trans rfl hq
  have hag : ag = 0 := by simpa using hq
  clear hq
  conv => whnf
  repeat (refine ⟨⟨_, rfl⟩, ?_⟩; conv => whnf)
  have hE := eqR8_iff hc hr (d := 0) (e := 0) (by decide) (by decide)
  cases hq : eqR8 c r 0 0 with
  | true =>
    obtain ⟨q1, q2⟩ := hE.1 hq
    refine .inl ⟨by unfold empP; simp [*], ?_⟩
    show AV.bool (eqR8 c r 0 0) = _
    rw [hq]
  | false =>
    have q2 : ¬ (c = 0 ∧ r = 0) := fun h => by rw [hE.2 h] at hq; cases hq
    refine .inr ⟨fun h => by
      unfold empP at h
      rcases h.2.2.2.2.2 with h | h
      · exact absurd h (by decide)
      · exact q2 h, ?_⟩
    show AV.bool (eqR8 c r 0 0) = _
    rw [hq]
theorem S_empty_2 (k : Int) (hk : k = 2) (i : Bool) (x y : Nat) (s : ByteArray) (ns c1 : Nat) (S : Nat → Nat → Int) (nc c2 : Nat) (I : Nat → Bool) (X Y : Nat → Nat) (ag : Int) (c r : Nat) (hx : x < w256) (hy : y < w256) (hc : c < w256) (hr : r < w256) :
    ACall Pg F_act_empty [actV k i x y s ns c1 S nc c2 I X Y ag c r] [] (fun v _ => (empP k i x y s ns nc ag c r ∧ v = .bool true) ∨ (¬ empP k i x y s ns nc ag c r ∧ v = .bool false)) := by
  subst hk
  refine B_act_empty ⟨rfl, ?_⟩
  conv => whnf
  repeat (refine ⟨⟨_, rfl⟩, ?_⟩; conv => whnf)
  refine B_act_Open ⟨rfl, ?_⟩
  conv => whnf
  repeat (refine ⟨⟨_, rfl⟩, ?_⟩; conv => whnf)
  refine B_act_whole ⟨rfl, ?_⟩
  conv => whnf
  repeat (refine ⟨⟨_, rfl⟩, ?_⟩; conv => whnf)
  refine condB_mk (fun hk => ?_) (fun hk => ?_)
  rotate_left
  · replace hk : (eqP9 i x y false 0 0 == true) = false := Eq.trans rfl hk
    have hk2 : ¬ (i = false ∧ x = 0 ∧ y = 0) := fun h => by
      rw [(eqP9_iff hx hy (by decide) (by decide)).2 h] at hk; cases hk
    conv => whnf
    repeat (refine ⟨⟨_, rfl⟩, ?_⟩; conv => whnf)
    exact .inr ⟨fun h => by
      unfold empP at h
      rcases h.1 with h | h
      · exact absurd h (by decide)
      · exact hk2 h, rfl⟩
  replace hk : (eqP9 i x y false 0 0 == true) = true := Eq.trans rfl hk
  have hk2 : i = false ∧ x = 0 ∧ y = 0 := (eqP9_iff hx hy (by decide) (by decide)).1 (by simpa using hk)
  clear hk
  conv => whnf
  repeat (refine ⟨⟨_, rfl⟩, ?_⟩; conv => whnf)
  refine condB_mk (fun hk => ?_) (fun hk => ?_)
  rotate_left
  · replace hk : ((s.toList == nB.toList) == true) = false := Eq.trans rfl hk
    have hl2 : ¬ (s.toList = nB.toList) := fun h => by rw [h] at hk; simp at hk
    conv => whnf
    repeat (refine ⟨⟨_, rfl⟩, ?_⟩; conv => whnf)
    exact .inr ⟨fun h => by
      unfold empP at h
      rcases h.2.1 with h | h
      · exact absurd h (by decide)
      · exact hl2 h, rfl⟩
  replace hk : ((s.toList == nB.toList) == true) = true := Eq.trans rfl hk
  have hl2 : s.toList = nB.toList := by simpa using hk
  clear hk
  conv => whnf
  repeat (refine ⟨⟨_, rfl⟩, ?_⟩; conv => whnf)
  refine condB_yes (by simp) ?_
  conv => whnf
  repeat (refine ⟨⟨_, rfl⟩, ?_⟩; conv => whnf)
  refine condB_yes (by simp) ?_
  conv => whnf
  repeat (refine ⟨⟨_, rfl⟩, ?_⟩; conv => whnf)
  refine condB_mk (fun hq => ?_) (fun hq => ?_)
  rotate_left
  · replace hq : ((ag == 0) == true) = false := Eq.trans rfl hq
    have hag : ¬ ag = 0 := by simpa using hq
    conv => whnf
    repeat (refine ⟨⟨_, rfl⟩, ?_⟩; conv => whnf)
    exact .inr ⟨by unfold empP; simp [hag], rfl⟩
  replace hq : ((ag == 0) == true) = true := Eq.trans rfl hq
  have hag : ag = 0 := by simpa using hq
  clear hq
  conv => whnf
  repeat (refine ⟨⟨_, rfl⟩, ?_⟩; conv => whnf)
  have hE := eqR8_iff hc hr (d := 0) (e := 0) (by decide) (by decide)
  cases hq : eqR8 c r 0 0 with
  | true =>
    obtain ⟨q1, q2⟩ := hE.1 hq
    refine .inl ⟨by unfold empP; simp [*], ?_⟩
    show AV.bool (eqR8 c r 0 0) = _
    rw [hq]
  | false =>
    have q2 : ¬ (c = 0 ∧ r = 0) := fun h => by rw [hE.2 h] at hq; cases hq
    refine .inr ⟨fun h => by
      unfold empP at h
      rcases h.2.2.2.2.2 with h | h
      · exact absurd h (by decide)
      · exact q2 h, ?_⟩
    show AV.bool (eqR8 c r 0 0) = _
    rw [hq]
theorem S_empty_3 (k : Int) (hk : k = 3) (i : Bool) (x y : Nat) (s : ByteArray) (ns c1 : Nat) (S : Nat → Nat → Int) (nc c2 : Nat) (I : Nat → Bool) (X Y : Nat → Nat) (ag : Int) (c r : Nat) (hx : x < w256) (hy : y < w256) (hc : c < w256) (hr : r < w256) :
    ACall Pg F_act_empty [actV k i x y s ns c1 S nc c2 I X Y ag c r] [] (fun v _ => (empP k i x y s ns nc ag c r ∧ v = .bool true) ∨ (¬ empP k i x y s ns nc ag c r ∧ v = .bool false)) := by
  subst hk
  refine B_act_empty ⟨rfl, ?_⟩
  conv => whnf
  repeat (refine ⟨⟨_, rfl⟩, ?_⟩; conv => whnf)
  refine B_act_Open ⟨rfl, ?_⟩
  conv => whnf
  repeat (refine ⟨⟨_, rfl⟩, ?_⟩; conv => whnf)
  refine B_act_whole ⟨rfl, ?_⟩
  conv => whnf
  repeat (refine ⟨⟨_, rfl⟩, ?_⟩; conv => whnf)
  refine condB_yes (Eq.trans (b := (eqP9 i x y i x y == true)) rfl (by rw [eqP9_refl]; rfl)) ?_
  conv => whnf
  repeat (refine ⟨⟨_, rfl⟩, ?_⟩; conv => whnf)
  refine condB_mk (fun hk => ?_) (fun hk => ?_)
  rotate_left
  · replace hk : ((s.toList == nB.toList) == true) = false := Eq.trans rfl hk
    have hl2 : ¬ (s.toList = nB.toList) := fun h => by rw [h] at hk; simp at hk
    conv => whnf
    repeat (refine ⟨⟨_, rfl⟩, ?_⟩; conv => whnf)
    exact .inr ⟨fun h => by
      unfold empP at h
      rcases h.2.1 with h | h
      · exact absurd h (by decide)
      · exact hl2 h, rfl⟩
  replace hk : ((s.toList == nB.toList) == true) = true := Eq.trans rfl hk
  have hl2 : s.toList = nB.toList := by simpa using hk
  clear hk
  conv => whnf
  repeat (refine ⟨⟨_, rfl⟩, ?_⟩; conv => whnf)
  refine condB_mk (fun hq => ?_) (fun hq => ?_)
  rotate_left
  · have hns : ¬ ns = 0 := by simp at hq; omega
    conv => whnf
    repeat (refine ⟨⟨_, rfl⟩, ?_⟩; conv => whnf)
    exact .inr ⟨by unfold empP; simp [hns], rfl⟩
  have hns : ns = 0 := by simp at hq; omega
  clear hq
  conv => whnf
  repeat (refine ⟨⟨_, rfl⟩, ?_⟩; conv => whnf)
  refine condB_mk (fun hq => ?_) (fun hq => ?_)
  rotate_left
  · have hnc : ¬ nc = 0 := by simp at hq; omega
    conv => whnf
    repeat (refine ⟨⟨_, rfl⟩, ?_⟩; conv => whnf)
    exact .inr ⟨by unfold empP; simp [hnc], rfl⟩
  have hnc : nc = 0 := by simp at hq; omega
  clear hq
  conv => whnf
  repeat (refine ⟨⟨_, rfl⟩, ?_⟩; conv => whnf)
  refine condB_yes (Eq.trans (b := ((ag == ag) == true)) rfl (by simp)) ?_
  conv => whnf
  repeat (refine ⟨⟨_, rfl⟩, ?_⟩; conv => whnf)
  refine .inl ⟨by unfold empP; simp [*], ?_⟩
  show AV.bool (eqR8 c r c r) = _
  rw [eqR8_refl]
theorem S_empty_4 (k : Int) (hk : k = 4) (i : Bool) (x y : Nat) (s : ByteArray) (ns c1 : Nat) (S : Nat → Nat → Int) (nc c2 : Nat) (I : Nat → Bool) (X Y : Nat → Nat) (ag : Int) (c r : Nat) (hx : x < w256) (hy : y < w256) (hc : c < w256) (hr : r < w256) :
    ACall Pg F_act_empty [actV k i x y s ns c1 S nc c2 I X Y ag c r] [] (fun v _ => (empP k i x y s ns nc ag c r ∧ v = .bool true) ∨ (¬ empP k i x y s ns nc ag c r ∧ v = .bool false)) := by
  subst hk
  refine B_act_empty ⟨rfl, ?_⟩
  conv => whnf
  repeat (refine ⟨⟨_, rfl⟩, ?_⟩; conv => whnf)
  refine B_act_Open ⟨rfl, ?_⟩
  conv => whnf
  repeat (refine ⟨⟨_, rfl⟩, ?_⟩; conv => whnf)
  refine B_act_whole ⟨rfl, ?_⟩
  conv => whnf
  repeat (refine ⟨⟨_, rfl⟩, ?_⟩; conv => whnf)
  refine condB_yes (Eq.trans (b := (eqP9 i x y i x y == true)) rfl (by rw [eqP9_refl]; rfl)) ?_
  conv => whnf
  repeat (refine ⟨⟨_, rfl⟩, ?_⟩; conv => whnf)
  refine condB_mk (fun hk => ?_) (fun hk => ?_)
  rotate_left
  · replace hk : ((s.toList == nB.toList) == true) = false := Eq.trans rfl hk
    have hl2 : ¬ (s.toList = nB.toList) := fun h => by rw [h] at hk; simp at hk
    conv => whnf
    repeat (refine ⟨⟨_, rfl⟩, ?_⟩; conv => whnf)
    exact .inr ⟨fun h => by
      unfold empP at h
      rcases h.2.1 with h | h
      · exact absurd h (by decide)
      · exact hl2 h, rfl⟩
  replace hk : ((s.toList == nB.toList) == true) = true := Eq.trans rfl hk
  have hl2 : s.toList = nB.toList := by simpa using hk
  clear hk
  conv => whnf
  repeat (refine ⟨⟨_, rfl⟩, ?_⟩; conv => whnf)
  refine condB_mk (fun hq => ?_) (fun hq => ?_)
  rotate_left
  · have hns : ¬ ns = 0 := by simp at hq; omega
    conv => whnf
    repeat (refine ⟨⟨_, rfl⟩, ?_⟩; conv => whnf)
    exact .inr ⟨by unfold empP; simp [hns], rfl⟩
  have hns : ns = 0 := by simp at hq; omega
  clear hq
  conv => whnf
  repeat (refine ⟨⟨_, rfl⟩, ?_⟩; conv => whnf)
  refine condB_mk (fun hq => ?_) (fun hq => ?_)
  rotate_left
  · have hnc : ¬ nc = 0 := by simp at hq; omega
    conv => whnf
    repeat (refine ⟨⟨_, rfl⟩, ?_⟩; conv => whnf)
    exact .inr ⟨by unfold empP; simp [hnc], rfl⟩
  have hnc : nc = 0 := by simp at hq; omega
  clear hq
  conv => whnf
  repeat (refine ⟨⟨_, rfl⟩, ?_⟩; conv => whnf)
  refine condB_mk (fun hq => ?_) (fun hq => ?_)
  rotate_left
  · replace hq : ((ag == 0) == true) = false := Eq.trans rfl hq
    have hag : ¬ ag = 0 := by simpa using hq
    conv => whnf
    repeat (refine ⟨⟨_, rfl⟩, ?_⟩; conv => whnf)
    exact .inr ⟨by unfold empP; simp [hag], rfl⟩
  replace hq : ((ag == 0) == true) = true := Eq.trans rfl hq
  have hag : ag = 0 := by simpa using hq
  clear hq
  conv => whnf
  repeat (refine ⟨⟨_, rfl⟩, ?_⟩; conv => whnf)
  refine .inl ⟨by unfold empP; simp [*], ?_⟩
  show AV.bool (eqR8 c r c r) = _
  rw [eqR8_refl]
theorem S_empty_5 (k : Int) (hk : k = 5) (i : Bool) (x y : Nat) (s : ByteArray) (ns c1 : Nat) (S : Nat → Nat → Int) (nc c2 : Nat) (I : Nat → Bool) (X Y : Nat → Nat) (ag : Int) (c r : Nat) (hx : x < w256) (hy : y < w256) (hc : c < w256) (hr : r < w256) :
    ACall Pg F_act_empty [actV k i x y s ns c1 S nc c2 I X Y ag c r] [] (fun v _ => (empP k i x y s ns nc ag c r ∧ v = .bool true) ∨ (¬ empP k i x y s ns nc ag c r ∧ v = .bool false)) := by
  subst hk
  refine B_act_empty ⟨rfl, ?_⟩
  conv => whnf
  repeat (refine ⟨⟨_, rfl⟩, ?_⟩; conv => whnf)
  refine B_act_Open ⟨rfl, ?_⟩
  conv => whnf
  repeat (refine ⟨⟨_, rfl⟩, ?_⟩; conv => whnf)
  refine B_act_whole ⟨rfl, ?_⟩
  conv => whnf
  repeat (refine ⟨⟨_, rfl⟩, ?_⟩; conv => whnf)
  refine condB_mk (fun hk => ?_) (fun hk => ?_)
  rotate_left
  · replace hk : (eqP9 i x y false 0 0 == true) = false := Eq.trans rfl hk
    have hk2 : ¬ (i = false ∧ x = 0 ∧ y = 0) := fun h => by
      rw [(eqP9_iff hx hy (by decide) (by decide)).2 h] at hk; cases hk
    conv => whnf
    repeat (refine ⟨⟨_, rfl⟩, ?_⟩; conv => whnf)
    exact .inr ⟨fun h => by
      unfold empP at h
      rcases h.1 with h | h
      · exact absurd h (by decide)
      · exact hk2 h, rfl⟩
  replace hk : (eqP9 i x y false 0 0 == true) = true := Eq.trans rfl hk
  have hk2 : i = false ∧ x = 0 ∧ y = 0 := (eqP9_iff hx hy (by decide) (by decide)).1 (by simpa using hk)
  clear hk
  conv => whnf
  repeat (refine ⟨⟨_, rfl⟩, ?_⟩; conv => whnf)
  refine condB_mk (fun hk => ?_) (fun hk => ?_)
  rotate_left
  · replace hk : ((s.toList == nB.toList) == true) = false := Eq.trans rfl hk
    have hl2 : ¬ (s.toList = nB.toList) := fun h => by rw [h] at hk; simp at hk
    conv => whnf
    repeat (refine ⟨⟨_, rfl⟩, ?_⟩; conv => whnf)
    exact .inr ⟨fun h => by
      unfold empP at h
      rcases h.2.1 with h | h
      · exact absurd h (by decide)
      · exact hl2 h, rfl⟩
  replace hk : ((s.toList == nB.toList) == true) = true := Eq.trans rfl hk
  have hl2 : s.toList = nB.toList := by simpa using hk
  clear hk
  conv => whnf
  repeat (refine ⟨⟨_, rfl⟩, ?_⟩; conv => whnf)
  refine condB_mk (fun hq => ?_) (fun hq => ?_)
  rotate_left
  · have hns : ¬ ns = 0 := by simp at hq; omega
    conv => whnf
    repeat (refine ⟨⟨_, rfl⟩, ?_⟩; conv => whnf)
    exact .inr ⟨by unfold empP; simp [hns], rfl⟩
  have hns : ns = 0 := by simp at hq; omega
  clear hq
  conv => whnf
  repeat (refine ⟨⟨_, rfl⟩, ?_⟩; conv => whnf)
  refine condB_mk (fun hq => ?_) (fun hq => ?_)
  rotate_left
  · have hnc : ¬ nc = 0 := by simp at hq; omega
    conv => whnf
    repeat (refine ⟨⟨_, rfl⟩, ?_⟩; conv => whnf)
    exact .inr ⟨by unfold empP; simp [hnc], rfl⟩
  have hnc : nc = 0 := by simp at hq; omega
  clear hq
  conv => whnf
  repeat (refine ⟨⟨_, rfl⟩, ?_⟩; conv => whnf)
  refine condB_mk (fun hq => ?_) (fun hq => ?_)
  rotate_left
  · replace hq : ((ag == 0) == true) = false := Eq.trans rfl hq
    have hag : ¬ ag = 0 := by simpa using hq
    conv => whnf
    repeat (refine ⟨⟨_, rfl⟩, ?_⟩; conv => whnf)
    exact .inr ⟨by unfold empP; simp [hag], rfl⟩
  replace hq : ((ag == 0) == true) = true := Eq.trans rfl hq
  have hag : ag = 0 := by simpa using hq
  clear hq
  conv => whnf
  repeat (refine ⟨⟨_, rfl⟩, ?_⟩; conv => whnf)
  have hE := eqR8_iff hc hr (d := 0) (e := 0) (by decide) (by decide)
  cases hq : eqR8 c r 0 0 with
  | true =>
    obtain ⟨q1, q2⟩ := hE.1 hq
    refine .inl ⟨by unfold empP; simp [*], ?_⟩
    show AV.bool (eqR8 c r 0 0) = _
    rw [hq]
  | false =>
    have q2 : ¬ (c = 0 ∧ r = 0) := fun h => by rw [hE.2 h] at hq; cases hq
    refine .inr ⟨fun h => by
      unfold empP at h
      rcases h.2.2.2.2.2 with h | h
      · exact absurd h (by decide)
      · exact q2 h, ?_⟩
    show AV.bool (eqR8 c r 0 0) = _
    rw [hq]
end Go.Proofs.Ytfolpdmbpbbimaa
end

section
/- Whether an act may be, as the program tells it: its parts, and it whole; no condition. -/
set_option linter.unusedVariables false
set_option linter.unusedSimpArgs false
set_option maxRecDepth 100000
set_option pp.maxSteps 3000
set_option pp.deepTerms false
set_option pp.deepTerms.threshold 7
namespace Go.Proofs.Ytfolpdmbpbbimaa
open Go Go.Wit

def fulP (i : Bool) (x y : Nat) : Prop := i = false ∧ ∃ P, On P ∧ rawA i x y = ptA P
def allP (nc : Nat) (I : Nat → Bool) (X Y : Nat → Nat) : Prop := I 0 = false ∧ ∀ j, j < nc → ∃ P, On P ∧ rawA (I j) (X j) (Y j) = ptA P
open Classical in
noncomputable def subE (i : Bool) (x y c r : Nat) : Int := if fulP i x y then (if c < nN ∧ r < nN then 0 else 2) else 3
open Classical in
noncomputable def chkE (k : Int) (i : Bool) (x y : Nat) (s : ByteArray) (ns nc : Nat) (I : Nat → Bool) (X Y : Nat → Nat) (ag : Int) (c r : Nat) : Int :=
  if 1 ≤ k ∧ k ≤ 5 then
    (if empP k i x y s ns nc ag c r then
      (if k = 1 then (if fulP i x y then (if labOK s = true then 0 else 8) else 3)
      else if k = 2 then (if ns ≤ 8 ∧ 1 ≤ nc ∧ nc ≤ 64 then (if allP nc I X Y then 0 else 3) else 4)
      else if k = 3 then (if 1 ≤ ag ∧ ag ≤ 8 then subE i x y c r else 1)
      else if k = 4 then subE i x y c r else 0)
    else 1)
  else 19
theorem S_apoint {m : Mem} {K : AV → Mem → Prop} {i : Bool} {x y : Nat} (hx : x < w256) (hy : y < w256) (h1 : fulP i x y → K (.bool true) m) (h2 : ¬ fulP i x y → K (.bool false) m) : ACall Pg F_act_point [rawA i x y] m K := by
  have h0 : ACall Pg F_act_point [rawA i x y] [] (fun v _ => ((fulP i x y ∧ v = .bool true) ∨ (¬ fulP i x y ∧ v = .bool false)) ∧ Flat true v) := by
    refine B_act_point ⟨rfl, ?_⟩
    cases i with
    | true =>
      conv => whnf
      repeat (refine ⟨⟨_, rfl⟩, ?_⟩; conv => whnf)
      exact ⟨.inr ⟨fun h => (by cases h.1), rfl⟩, .bool _⟩
    | false =>
      conv => whnf
      repeat (refine ⟨⟨_, rfl⟩, ?_⟩; conv => whnf)
      refine S_Check (i := false) hx hy (fun P oP eP => ?_) (fun hb => ?_)
      · conv => whnf
        repeat (refine ⟨⟨_, rfl⟩, ?_⟩; conv => whnf)
        exact ⟨.inl ⟨⟨rfl, P, oP, eP⟩, rfl⟩, .bool _⟩
      · conv => whnf
        repeat (refine ⟨⟨_, rfl⟩, ?_⟩; conv => whnf)
        exact ⟨.inr ⟨fun ⟨_, P, oP, eP⟩ => hb P oP eP, rfl⟩, .bool _⟩
  refine lift_flat h0 (.cons _ _ _ _ (lend_flat flat_rawA) .nil) ?_
  rintro v (⟨h, rfl⟩ | ⟨h, rfl⟩)
  · exact h1 h
  · exact h2 h
theorem S_aproof {m : Mem} {K : AV → Mem → Prop} {v : AV} {c r : Nat} (hv : v = prA c r) (hc : c < w256) (hr : r < w256) (h1 : c < nN → r < nN → K (.bool true) m) (h2 : ¬ (c < nN ∧ r < nN) → K (.bool false) m) : ACall Pg F_act_proof [v] m K := by
  subst hv
  have h0 : ACall Pg F_act_proof [prA c r] [] (fun v _ => ((c < nN ∧ r < nN ∧ v = .bool true) ∨ (¬ (c < nN ∧ r < nN) ∧ v = .bool false)) ∧ Flat true v) := by
    refine B_act_proof ⟨rfl, ?_⟩
    conv => whnf
    repeat (refine ⟨⟨_, rfl⟩, ?_⟩; conv => whnf)
    refine S_Prime_1 (fun p hp => ?_)
    conv => whnf
    repeat (refine ⟨⟨_, rfl⟩, ?_⟩; conv => whnf)
    refine S_LCmpE (a := c) (b := p) rfl rfl hc (by rw [hp]; decide) (fun z1 hz1 => ?_)
    rcases cmpZ_or hz1 with ⟨g1, rfl⟩ | ⟨g1, rfl | rfl⟩
    · clear hz1
      conv => whnf
      repeat (refine ⟨⟨_, rfl⟩, ?_⟩; conv => whnf)
      refine S_LCmpE (a := r) (b := p) rfl rfl hr (by rw [hp]; decide) (fun z2 hz2 => ?_)
      rcases cmpZ_or hz2 with ⟨g2, rfl⟩ | ⟨g2, rfl | rfl⟩
      · clear hz2
        conv => whnf
        repeat (refine ⟨⟨_, rfl⟩, ?_⟩; conv => whnf)
        exact ⟨.inl ⟨by omega, by omega, rfl⟩, .bool _⟩
      · clear hz2
        conv => whnf
        repeat (refine ⟨⟨_, rfl⟩, ?_⟩; conv => whnf)
        exact ⟨.inr ⟨by omega, rfl⟩, .bool _⟩
      · clear hz2
        conv => whnf
        repeat (refine ⟨⟨_, rfl⟩, ?_⟩; conv => whnf)
        exact ⟨.inr ⟨by omega, rfl⟩, .bool _⟩
    · clear hz1
      conv => whnf
      repeat (refine ⟨⟨_, rfl⟩, ?_⟩; conv => whnf)
      exact ⟨.inr ⟨by omega, rfl⟩, .bool _⟩
    · clear hz1
      conv => whnf
      repeat (refine ⟨⟨_, rfl⟩, ?_⟩; conv => whnf)
      exact ⟨.inr ⟨by omega, rfl⟩, .bool _⟩
  refine lift_flat h0 (.cons _ _ _ _ (lend_flat flat_prA) .nil) ?_
  rintro v (⟨g1, g2, rfl⟩ | ⟨g, rfl⟩)
  · exact h1 g1 g2
  · exact h2 g
/-- Key and proof, as one value. -/
def subA (i : Bool) (x y c r : Nat) : AV := .agg [.bool i, .int .u64 (lim x 0), .int .u64 (lim x 1), .int .u64 (lim x 2), .int .u64 (lim x 3), .int .u64 (lim y 0), .int .u64 (lim y 1), .int .u64 (lim y 2), .int .u64 (lim y 3),
  .int .u64 (lim c 0), .int .u64 (lim c 1), .int .u64 (lim c 2), .int .u64 (lim c 3), .int .u64 (lim r 0), .int .u64 (lim r 1), .int .u64 (lim r 2), .int .u64 (lim r 3)]
theorem flat_subA {nv : Bool} {i : Bool} {x y c r : Nat} : Flat nv (subA i x y c r) := by
  refine .agg _ (.cons _ _ (.bool _) ?_)
  repeat (first | exact .nil | refine .cons _ _ (.int _ _) ?_)
theorem S_apointE {m : Mem} {K : AV → Mem → Prop} {v : AV} {i : Bool} {x y : Nat} (hv : v = rawA i x y) (hx : x < w256) (hy : y < w256) (h1 : fulP i x y → K (.bool true) m) (h2 : ¬ fulP i x y → K (.bool false) m) : ACall Pg F_act_point [v] m K := by
  subst hv; exact S_apoint hx hy h1 h2
theorem S_sub {m : Mem} {K : AV → Mem → Prop} {v : AV} {i : Bool} {x y c r : Nat} (hv : v = subA i x y c r) (hx : x < w256) (hy : y < w256) (hc : c < w256) (hr : r < w256) (h : ∀ e, e = subE i x y c r → K (.int .i64 e) m) : ACall Pg F_act_Submitted_check [v] m K := by
  subst hv
  have h0 : ACall Pg F_act_Submitted_check [subA i x y c r] [] (fun v _ => v = .int .i64 (subE i x y c r) ∧ Flat true v) := by
    refine B_act_Submitted_check ⟨rfl, ?_⟩
    conv => whnf
    repeat (refine ⟨⟨_, rfl⟩, ?_⟩; conv => whnf)
    refine S_apointE (i := i) (x := x) (y := y) rfl hx hy (fun hf => ?_) (fun hf => ?_)
    · conv => whnf
      repeat (refine ⟨⟨_, rfl⟩, ?_⟩; conv => whnf)
      refine S_aproof (c := c) (r := r) rfl hc hr (fun g1 g2 => ?_) (fun g => ?_)
      · conv => whnf
        repeat (refine ⟨⟨_, rfl⟩, ?_⟩; conv => whnf)
        exact ⟨by unfold subE; rw [if_pos hf, if_pos ⟨g1, g2⟩], .int _ _⟩
      · conv => whnf
        repeat (refine ⟨⟨_, rfl⟩, ?_⟩; conv => whnf)
        exact ⟨by unfold subE; rw [if_pos hf, if_neg g], .int _ _⟩
    · conv => whnf
      repeat (refine ⟨⟨_, rfl⟩, ?_⟩; conv => whnf)
      exact ⟨by unfold subE; rw [if_neg hf], .int _ _⟩
  refine lift_flat h0 (.cons _ _ _ _ (lend_flat flat_subA) .nil) ?_
  rintro v rfl
  exact h _ rfl
/-- Seals and commitments, as one value. -/
def postA (ns c1 : Nat) (S : Nat → Nat → Int) (nc c2 : Nat) (I : Nat → Bool) (X Y : Nat → Nat) : AV := .agg [.vsl 32 ns c1 (sealG S), .vsl 9 nc c2 (rawsG I X Y)]
theorem flat_postA {ns c1 : Nat} {S : Nat → Nat → Int} {nc c2 : Nat} {I : Nat → Bool} {X Y : Nat → Nat} : Flat false (postA ns c1 S nc c2 I X Y) := .agg _ (.cons _ _ flat_seals (.cons _ _ flat_raws .nil))
open Classical in
noncomputable def pstE (ns nc : Nat) (I : Nat → Bool) (X Y : Nat → Nat) : Int := if ns ≤ 8 ∧ 1 ≤ nc ∧ nc ≤ 64 then (if allP nc I X Y then 0 else 3) else 4
theorem S_CheckE {m : Mem} {K : AV → Mem → Prop} {v : AV} {i : Bool} {x y : Nat} (hv : v = rawA i x y) (hx : x < w256) (hy : y < w256) (h1 : ∀ P, On P → rawA i x y = ptA P → K (.int .i64 0) m) (h2 : Bad i x y → K (.int .i64 3) m) : ACall Pg F_curve_Check [v] m K := by
  subst hv; exact S_Check hx hy h1 h2
theorem S_post0 (ns c1 : Nat) (S : Nat → Nat → Int) (nc c2 : Nat) (I : Nat → Bool) (X Y : Nat → Nat) (hX : ∀ j, j < nc → X j < w256) (hY : ∀ j, j < nc → Y j < w256) : ACall Pg F_act_Posted_check [postA ns c1 S nc c2 I X Y] [] (fun v _ => v = .int .i64 (pstE ns nc I X Y) ∧ Flat true v) := by
  refine B_act_Posted_check ⟨rfl, ?_⟩
  conv => whnf
  repeat (refine ⟨⟨_, rfl⟩, ?_⟩; conv => whnf)
  refine condB_mk (fun h1 => ?_) (fun h1 => ?_)
  rotate_left
  · have h1 := of_neqf h1
    conv => whnf
    repeat (refine ⟨⟨_, rfl⟩, ?_⟩; conv => whnf)
    exact ⟨by unfold pstE; rw [if_neg (by omega)], .int _ _⟩
  have h1 := of_eqf h1
  conv => whnf
  repeat (refine ⟨⟨_, rfl⟩, ?_⟩; conv => whnf)
  refine condB_mk (fun h2 => ?_) (fun h2 => ?_)
  rotate_left
  · have h2 := of_neqf h2
    conv => whnf
    repeat (refine ⟨⟨_, rfl⟩, ?_⟩; conv => whnf)
    exact ⟨by unfold pstE; rw [if_neg (by omega)], .int _ _⟩
  have h2 := of_eqf h2
  conv => whnf
  repeat (refine ⟨⟨_, rfl⟩, ?_⟩; conv => whnf)
  refine condB_mk (fun h3 => ?_) (fun h3 => ?_)
  · have h3 := of_decide_eq_true h3
    conv => whnf
    repeat (refine ⟨⟨_, rfl⟩, ?_⟩; conv => whnf)
    exact ⟨by unfold pstE; rw [if_neg (by omega)], .int _ _⟩
  have h3 := of_decide_eq_false h3
  have hE1 : allP nc I X Y → pstE ns nc I X Y = 0 := fun h => by unfold pstE; rw [if_pos (by omega), if_pos h]
  have hE2 : ¬ allP nc I X Y → pstE ns nc I X Y = 3 := fun h => by unfold pstE; rw [if_pos (by omega), if_neg h]
  conv => whnf
  repeat (refine ⟨⟨_, rfl⟩, ?_⟩; conv => whnf)
  refine loop_wk mixed (I := fun q l m => ∃ (k : Nat), l = [(22, .vsl 9 nc c2 (rawsG I X Y)), (23, .int .i64 nc), (24, .int .i64 k)] ∧ m = [] ∧ q + k = nc ∧ (0 < k → I 0 = false) ∧ ∀ j, j < k → ∃ P, On P ∧ rawA (I j) (X j) (Y j) = ptA P) nc
    (l0 := [(22, .vsl 9 nc c2 (rawsG I X Y)), (23, .int .i64 nc), (24, .int .i64 (0 : Nat))]) (m0 := []) [] ⟨0, rfl, rfl, rfl, fun h => absurd h (by omega), fun j hj => by omega⟩ ?_ ?_
  · exact .mk0 ⟨.eq _ _ rfl flat_raws, Flat.i rfl, Flat.i rfl, trivial⟩ trivial rfl rfl
  · rintro q l m ⟨k, rfl, rfl, hq, hI, hA⟩
    conv => whnf
    repeat (refine ⟨⟨_, rfl⟩, ?_⟩; conv => whnf)
    refine condB_mk (fun hb => ?_) (fun hb => ?_)
    · have hb : k < nc := by simp at hb; omega
      conv => whnf
      repeat (refine ⟨⟨_, rfl⟩, ?_⟩; conv => whnf)
      refine condB_ok (by simp; omega) ?_
      conv => whnf
      repeat (refine ⟨⟨_, rfl⟩, ?_⟩; conv => whnf)
      refine S_CheckE (i := I k) (x := X k) (y := Y k) rfl (hX k hb) (hY k hb) (fun P oP eP => ?_) (fun hbad => ?_)
      · conv => whnf
        repeat (refine ⟨⟨_, rfl⟩, ?_⟩; conv => whnf)
        have e5 : IntKind.i64.wrap ((k : Int) + 1) = ((k + 1 : Nat) : Int) := by rw [w64 (by omega) (by omega)]; omega
        have hA' : ∀ j, j < k + 1 → ∃ P, On P ∧ rawA (I j) (X j) (Y j) = ptA P := fun j hj => by
          by_cases h : j = k
          · subst h; exact ⟨P, oP, eP⟩
          · exact hA j (by omega)
        refine condB_mk (fun h0 => ?_) (fun h0 => ?_)
        · have h0 : k = 0 := by simp at h0; omega
          conv => whnf
          repeat (refine ⟨⟨_, rfl⟩, ?_⟩; conv => whnf)
          refine condB_mk (fun h4 => ?_) (fun h4 => ?_)
          · replace h4 : I k = true := h4
            conv => whnf
            repeat (refine ⟨⟨_, rfl⟩, ?_⟩; conv => whnf)
            exact ⟨by rw [hE2 fun h => by rw [h0, h.1] at h4; cases h4], .int _ _⟩
          · replace h4 : I k = false := h4
            conv => whnf
            repeat (refine ⟨⟨_, rfl⟩, ?_⟩; conv => whnf)
            refine ⟨q - 1, [(22, .vsl 9 nc c2 (rawsG I X Y)), (23, .int .i64 nc), (24, .int .i64 ((k + 1 : Nat) : Int))], [], [], by omega, ⟨k + 1, rfl, rfl, by omega, fun _ => by rw [← h0]; exact h4, hA'⟩, ?_⟩
            exact .mk0 ⟨.eq _ _ rfl flat_raws, Flat.i rfl, Flat.i e5, trivial⟩ trivial rfl rfl
        · have h0 : ¬ k = 0 := by simp at h0; omega
          conv => whnf
          repeat (refine ⟨⟨_, rfl⟩, ?_⟩; conv => whnf)
          refine ⟨q - 1, [(22, .vsl 9 nc c2 (rawsG I X Y)), (23, .int .i64 nc), (24, .int .i64 ((k + 1 : Nat) : Int))], [], [], by omega, ⟨k + 1, rfl, rfl, by omega, fun _ => hI (by omega), hA'⟩, ?_⟩
          exact .mk0 ⟨.eq _ _ rfl flat_raws, Flat.i rfl, Flat.i e5, trivial⟩ trivial rfl rfl
      · conv => whnf
        repeat (refine ⟨⟨_, rfl⟩, ?_⟩; conv => whnf)
        exact ⟨by rw [hE2 fun h => (h.2 k hb).elim fun P hP => hbad P hP.1 hP.2], .int _ _⟩
    · have hb : k = nc := by simp at hb; omega
      subst hb
      conv => whnf
      repeat (refine ⟨⟨_, rfl⟩, ?_⟩; conv => whnf)
      exact ⟨by rw [hE1 ⟨hI (by omega), hA⟩], .int _ _⟩
theorem S_post {m : Mem} {K : AV → Mem → Prop} {ns c1 : Nat} {S : Nat → Nat → Int} {nc c2 : Nat} {I : Nat → Bool} {X Y : Nat → Nat} (hX : ∀ j, j < nc → X j < w256) (hY : ∀ j, j < nc → Y j < w256) (h : K (.int .i64 (pstE ns nc I X Y)) m) : ACall Pg F_act_Posted_check [postA ns c1 S nc c2 I X Y] m K := by
  refine lift_flat (S_post0 ns c1 S nc c2 I X Y hX hY) (.cons _ _ _ _ (lend_flat flat_postA) .nil) ?_
  rintro v rfl
  exact h
def regA (i : Bool) (x y : Nat) (s : ByteArray) : AV := .agg [.bool i, .int .u64 (lim x 0), .int .u64 (lim x 1), .int .u64 (lim x 2), .int .u64 (lim x 3), .int .u64 (lim y 0), .int .u64 (lim y 1), .int .u64 (lim y 2), .int .u64 (lim y 3), .str s]
def dspA (ag : Int) (i : Bool) (x y c r : Nat) : AV := .agg [.int .i64 ag, .bool i, .int .u64 (lim x 0), .int .u64 (lim x 1), .int .u64 (lim x 2), .int .u64 (lim x 3), .int .u64 (lim y 0), .int .u64 (lim y 1), .int .u64 (lim y 2), .int .u64 (lim y 3),
  .int .u64 (lim c 0), .int .u64 (lim c 1), .int .u64 (lim c 2), .int .u64 (lim c 3), .int .u64 (lim r 0), .int .u64 (lim r 1), .int .u64 (lim r 2), .int .u64 (lim r 3)]
theorem ACall.weak {P : Program} {f : FuncId} {args : List AV} {m : Mem} {K K2 : AV → Mem → Prop} (h : ACall P f args m K) (hk : ∀ v m', K v m' → K2 v m') : ACall P f args m K2 :=
  ⟨h.callable, fun C w L cargs hR hv => (h.run C w L cargs hR hv).mono fun en w' ⟨v, m', r, L', e, hK, rest⟩ => ⟨v, m', r, L', e, hk v m' hK, rest⟩⟩
theorem S_empty {k : Int} {i : Bool} {x y : Nat} {s : ByteArray} {ns c1 : Nat} {S : Nat → Nat → Int} {nc c2 : Nat} {I : Nat → Bool} {X Y : Nat → Nat} {ag : Int} {c r : Nat} {m : Mem} {K : AV → Mem → Prop} (hk : 1 ≤ k ∧ k ≤ 5) (hx : x < w256) (hy : y < w256) (hc : c < w256) (hr : r < w256)
    (h1 : empP k i x y s ns nc ag c r → K (.bool true) m) (h2 : ¬ empP k i x y s ns nc ag c r → K (.bool false) m) : ACall Pg F_act_empty [actV k i x y s ns c1 S nc c2 I X Y ag c r] m K := by
  have h0 : ACall Pg F_act_empty [actV k i x y s ns c1 S nc c2 I X Y ag c r] [] (fun v _ => ((empP k i x y s ns nc ag c r ∧ v = .bool true) ∨ (¬ empP k i x y s ns nc ag c r ∧ v = .bool false)) ∧ Flat true v) := by
    rcases (show k = 1 ∨ k = 2 ∨ k = 3 ∨ k = 4 ∨ k = 5 by omega) with h | h | h | h | h
    · exact ACall.weak (S_empty_1 k h i x y s ns c1 S nc c2 I X Y ag c r hx hy hc hr) fun v m' hv => ⟨hv, by rcases hv with ⟨_, rfl⟩ | ⟨_, rfl⟩ <;> exact .bool _⟩
    · exact ACall.weak (S_empty_2 k h i x y s ns c1 S nc c2 I X Y ag c r hx hy hc hr) fun v m' hv => ⟨hv, by rcases hv with ⟨_, rfl⟩ | ⟨_, rfl⟩ <;> exact .bool _⟩
    · exact ACall.weak (S_empty_3 k h i x y s ns c1 S nc c2 I X Y ag c r hx hy hc hr) fun v m' hv => ⟨hv, by rcases hv with ⟨_, rfl⟩ | ⟨_, rfl⟩ <;> exact .bool _⟩
    · exact ACall.weak (S_empty_4 k h i x y s ns c1 S nc c2 I X Y ag c r hx hy hc hr) fun v m' hv => ⟨hv, by rcases hv with ⟨_, rfl⟩ | ⟨_, rfl⟩ <;> exact .bool _⟩
    · exact ACall.weak (S_empty_5 k h i x y s ns c1 S nc c2 I X Y ag c r hx hy hc hr) fun v m' hv => ⟨hv, by rcases hv with ⟨_, rfl⟩ | ⟨_, rfl⟩ <;> exact .bool _⟩
  refine lift_flat h0 (.cons _ _ _ _ (lend_flat (flat_actA flat_seals flat_raws)) .nil) ?_
  rintro v (⟨h, rfl⟩ | ⟨h, rfl⟩)
  · exact h1 h
  · exact h2 h
open Classical in
noncomputable def regE (i : Bool) (x y : Nat) (s : ByteArray) : Int := if fulP i x y then (if labOK s = true then 0 else 8) else 3
open Classical in
noncomputable def dspE (ag : Int) (i : Bool) (x y c r : Nat) : Int := if 1 ≤ ag ∧ ag ≤ 8 then subE i x y c r else 1
theorem flat_regA {nv : Bool} {i : Bool} {x y : Nat} {s : ByteArray} : Flat nv (regA i x y s) := by
  refine .agg _ (.cons _ _ (.bool _) ?_)
  repeat (first | exact .nil | refine .cons _ _ (.int _ _) ?_ | refine .cons _ _ (.str _) ?_)
theorem flat_dspA {nv : Bool} {ag : Int} {i : Bool} {x y c r : Nat} : Flat nv (dspA ag i x y c r) := by
  refine .agg _ (.cons _ _ (.int _ _) (.cons _ _ (.bool _) ?_))
  repeat (first | exact .nil | refine .cons _ _ (.int _ _) ?_)
theorem S_reg {m : Mem} {K : AV → Mem → Prop} {v : AV} {i : Bool} {x y : Nat} {s : ByteArray} (hv : v = regA i x y s) (hx : x < w256) (hy : y < w256) (hs : s.size ≤ 1000000000) (h : ∀ e, e = regE i x y s → K (.int .i64 e) m) : ACall Pg F_act_Registered_check [v] m K := by
  subst hv
  have h0 : ACall Pg F_act_Registered_check [regA i x y s] [] (fun v _ => v = .int .i64 (regE i x y s) ∧ Flat true v) := by
    refine B_act_Registered_check ⟨rfl, ?_⟩
    conv => whnf
    repeat (refine ⟨⟨_, rfl⟩, ?_⟩; conv => whnf)
    refine S_apointE (i := i) (x := x) (y := y) rfl hx hy (fun hf => ?_) (fun hf => ?_)
    · conv => whnf
      repeat (refine ⟨⟨_, rfl⟩, ?_⟩; conv => whnf)
      refine S_label hs ?_
      conv => whnf
      repeat (refine ⟨⟨_, rfl⟩, ?_⟩; conv => whnf)
      exact ⟨by unfold regE; rw [if_pos hf], .int _ _⟩
    · conv => whnf
      repeat (refine ⟨⟨_, rfl⟩, ?_⟩; conv => whnf)
      exact ⟨by unfold regE; rw [if_neg hf], .int _ _⟩
  refine lift_flat h0 (.cons _ _ _ _ (lend_flat flat_regA) .nil) ?_
  rintro v rfl
  exact h _ rfl
theorem S_dsp {m : Mem} {K : AV → Mem → Prop} {v : AV} {ag : Int} {i : Bool} {x y c r : Nat} (hv : v = dspA ag i x y c r) (hx : x < w256) (hy : y < w256) (hc : c < w256) (hr : r < w256) (h : ∀ e, e = dspE ag i x y c r → K (.int .i64 e) m) : ACall Pg F_act_Disputed_check [v] m K := by
  subst hv
  have h0 : ACall Pg F_act_Disputed_check [dspA ag i x y c r] [] (fun v _ => v = .int .i64 (dspE ag i x y c r) ∧ Flat true v) := by
    refine B_act_Disputed_check ⟨rfl, ?_⟩
    conv => whnf
    repeat (refine ⟨⟨_, rfl⟩, ?_⟩; conv => whnf)
    refine condB_mk (fun h1 => ?_) (fun h1 => ?_)
    · have h1 := of_eqf h1
      conv => whnf
      repeat (refine ⟨⟨_, rfl⟩, ?_⟩; conv => whnf)
      refine condB_mk (fun h2 => ?_) (fun h2 => ?_)
      · have h2 := of_decide_eq_true h2
        conv => whnf
        repeat (refine ⟨⟨_, rfl⟩, ?_⟩; conv => whnf)
        exact ⟨by unfold dspE; rw [if_neg (by omega)], .int _ _⟩
      · have h2 := of_decide_eq_false h2
        conv => whnf
        repeat (refine ⟨⟨_, rfl⟩, ?_⟩; conv => whnf)
        refine S_sub (i := i) (x := x) (y := y) (c := c) (r := r) rfl hx hy hc hr (fun e he => ?_)
        conv => whnf
        repeat (refine ⟨⟨_, rfl⟩, ?_⟩; conv => whnf)
        exact ⟨by unfold dspE; rw [if_pos (by omega), he], .int _ _⟩
    · have h1 := of_neqf h1
      conv => whnf
      repeat (refine ⟨⟨_, rfl⟩, ?_⟩; conv => whnf)
      exact ⟨by unfold dspE; rw [if_neg (by omega)], .int _ _⟩
  refine lift_flat h0 (.cons _ _ _ _ (lend_flat flat_dspA) .nil) ?_
  rintro v rfl
  exact h _ rfl
theorem S_postE {m : Mem} {K : AV → Mem → Prop} {v : AV} {ns c1 : Nat} {S : Nat → Nat → Int} {nc c2 : Nat} {I : Nat → Bool} {X Y : Nat → Nat} (hv : v = postA ns c1 S nc c2 I X Y) (hX : ∀ j, j < nc → X j < w256) (hY : ∀ j, j < nc → Y j < w256) (h : ∀ e, e = pstE ns nc I X Y → K (.int .i64 e) m) : ACall Pg F_act_Posted_check [v] m K := by
  subst hv; exact S_post hX hY (h _ rfl)
theorem S_aCheck0 (k : Int) (i : Bool) (x y : Nat) (s : ByteArray) (ns c1 : Nat) (S : Nat → Nat → Int) (nc c2 : Nat) (I : Nat → Bool) (X Y : Nat → Nat) (ag : Int) (c r : Nat) (hx : x < w256) (hy : y < w256) (hc : c < w256) (hr : r < w256) (hs : s.size ≤ 1000000000) (hX : ∀ j, j < nc → X j < w256) (hY : ∀ j, j < nc → Y j < w256) :
    ACall Pg F_act_Check [actV k i x y s ns c1 S nc c2 I X Y ag c r] [] (fun v _ => v = .int .i64 (chkE k i x y s ns nc I X Y ag c r) ∧ Flat true v) := by
  refine B_act_Check ⟨rfl, ?_⟩
  conv => whnf
  repeat (refine ⟨⟨_, rfl⟩, ?_⟩; conv => whnf)
  rcases (show k = 1 ∨ k = 2 ∨ k = 3 ∨ k = 4 ∨ k = 5 ∨ ¬ (1 ≤ k ∧ k ≤ 5) by omega) with h | h | h | h | h | h
  · subst h
    refine B_act_Open ⟨rfl, ?_⟩
    conv => whnf
    repeat (refine ⟨⟨_, rfl⟩, ?_⟩; conv => whnf)
    refine S_empty (by decide) hx hy hc hr (fun he => ?_) (fun he => ?_)
    · conv => whnf
      repeat (refine ⟨⟨_, rfl⟩, ?_⟩; conv => whnf)
      refine S_reg (i := i) (x := x) (y := y) (s := s) rfl hx hy hs (fun e hE => ?_)
      conv => whnf
      repeat (refine ⟨⟨_, rfl⟩, ?_⟩; conv => whnf)
      exact ⟨by unfold chkE; rw [if_pos (by decide), if_pos he, if_pos rfl, hE]; rfl, .int _ _⟩
    · conv => whnf
      repeat (refine ⟨⟨_, rfl⟩, ?_⟩; conv => whnf)
      exact ⟨by unfold chkE; rw [if_pos (by decide), if_neg he], .int _ _⟩
  · subst h
    refine B_act_Open ⟨rfl, ?_⟩
    conv => whnf
    repeat (refine ⟨⟨_, rfl⟩, ?_⟩; conv => whnf)
    refine S_empty (by decide) hx hy hc hr (fun he => ?_) (fun he => ?_)
    · conv => whnf
      repeat (refine ⟨⟨_, rfl⟩, ?_⟩; conv => whnf)
      refine S_postE (ns := ns) (c1 := c1) (S := S) (nc := nc) (c2 := c2) (I := I) (X := X) (Y := Y) rfl hX hY (fun e hE => ?_)
      conv => whnf
      repeat (refine ⟨⟨_, rfl⟩, ?_⟩; conv => whnf)
      exact ⟨by unfold chkE; rw [if_pos (by decide), if_pos he, if_neg (by decide), if_pos rfl, hE]; rfl, .int _ _⟩
    · conv => whnf
      repeat (refine ⟨⟨_, rfl⟩, ?_⟩; conv => whnf)
      exact ⟨by unfold chkE; rw [if_pos (by decide), if_neg he], .int _ _⟩
  · subst h
    refine B_act_Open ⟨rfl, ?_⟩
    conv => whnf
    repeat (refine ⟨⟨_, rfl⟩, ?_⟩; conv => whnf)
    refine S_empty (by decide) hx hy hc hr (fun he => ?_) (fun he => ?_)
    · conv => whnf
      repeat (refine ⟨⟨_, rfl⟩, ?_⟩; conv => whnf)
      refine S_dsp (ag := ag) (i := i) (x := x) (y := y) (c := c) (r := r) rfl hx hy hc hr (fun e hE => ?_)
      conv => whnf
      repeat (refine ⟨⟨_, rfl⟩, ?_⟩; conv => whnf)
      exact ⟨by unfold chkE; rw [if_pos (by decide), if_pos he, if_neg (by decide), if_neg (by decide), if_pos rfl, hE]; rfl, .int _ _⟩
    · conv => whnf
      repeat (refine ⟨⟨_, rfl⟩, ?_⟩; conv => whnf)
      exact ⟨by unfold chkE; rw [if_pos (by decide), if_neg he], .int _ _⟩
  · subst h
    refine B_act_Open ⟨rfl, ?_⟩
    conv => whnf
    repeat (refine ⟨⟨_, rfl⟩, ?_⟩; conv => whnf)
    refine S_empty (by decide) hx hy hc hr (fun he => ?_) (fun he => ?_)
    · conv => whnf
      repeat (refine ⟨⟨_, rfl⟩, ?_⟩; conv => whnf)
      refine S_sub (i := i) (x := x) (y := y) (c := c) (r := r) rfl hx hy hc hr (fun e hE => ?_)
      conv => whnf
      repeat (refine ⟨⟨_, rfl⟩, ?_⟩; conv => whnf)
      exact ⟨by unfold chkE; rw [if_pos (by decide), if_pos he, if_neg (by decide), if_neg (by decide), if_neg (by decide), if_pos rfl, hE], .int _ _⟩
    · conv => whnf
      repeat (refine ⟨⟨_, rfl⟩, ?_⟩; conv => whnf)
      exact ⟨by unfold chkE; rw [if_pos (by decide), if_neg he], .int _ _⟩
  · subst h
    refine B_act_Open ⟨rfl, ?_⟩
    conv => whnf
    repeat (refine ⟨⟨_, rfl⟩, ?_⟩; conv => whnf)
    refine S_empty (by decide) hx hy hc hr (fun he => ?_) (fun he => ?_)
    · conv => whnf
      repeat (refine ⟨⟨_, rfl⟩, ?_⟩; conv => whnf)
      exact ⟨by unfold chkE; rw [if_pos (by decide), if_pos he, if_neg (by decide), if_neg (by decide), if_neg (by decide), if_neg (by decide)], .int _ _⟩
    · conv => whnf
      repeat (refine ⟨⟨_, rfl⟩, ?_⟩; conv => whnf)
      exact ⟨by unfold chkE; rw [if_pos (by decide), if_neg he], .int _ _⟩
  · refine B_act_Open ⟨rfl, ?_⟩
    conv => whnf
    repeat (refine ⟨⟨_, rfl⟩, ?_⟩; conv => whnf)
    refine condB_no (by simp; omega) ?_
    conv => whnf
    repeat (refine ⟨⟨_, rfl⟩, ?_⟩; conv => whnf)
    refine condB_no (by simp; omega) ?_
    conv => whnf
    repeat (refine ⟨⟨_, rfl⟩, ?_⟩; conv => whnf)
    refine condB_no (by simp; omega) ?_
    conv => whnf
    repeat (refine ⟨⟨_, rfl⟩, ?_⟩; conv => whnf)
    refine condB_no (by simp; omega) ?_
    conv => whnf
    repeat (refine ⟨⟨_, rfl⟩, ?_⟩; conv => whnf)
    refine condB_no (by simp; omega) ?_
    conv => whnf
    repeat (refine ⟨⟨_, rfl⟩, ?_⟩; conv => whnf)
    exact ⟨by unfold chkE; rw [if_neg h], .int _ _⟩
end Go.Proofs.Ytfolpdmbpbbimaa
end

section
/- Sums of given texts, checked step by step; no condition. -/
set_option linter.unusedVariables false
set_option linter.unusedSimpArgs false
set_option maxRecDepth 100000
set_option pp.maxSteps 300
namespace Go.Proofs.Ytfolpdmbpbbimaa
open Go Go.Wit

theorem newW_congr {b w w' : Nat → Int} {k : Nat} (h : ∀ i, i < k → w i = w' i) : newW b k w = newW b k w' := by
  unfold newW
  by_cases hk : k < 16
  · rw [if_pos hk, if_pos hk]
  · rw [if_neg hk, if_neg hk, h (k - 16) (by omega), h (k - 15) (by omega), h (k - 7) (by omega), h (k - 2) (by omega)]
theorem Wn_eval {b w : Nat → Int} (h : ∀ k, k < 64 → newW b k w = w k) : ∀ k, k ≤ 64 → ∀ i, i < k → Wn b k i = w i
  | 0, _, i, hi => absurd hi (Nat.not_lt_zero _)
  | k + 1, hk, i, hi => by
    by_cases e : i = k
    · rw [show Wn b (k + 1) i = newW b k (Wn b k) from if_pos e, newW_congr (Wn_eval h k (by omega)), h k (by omega), e]
    · rw [show Wn b (k + 1) i = Wn b k i from if_neg e]
      exact Wn_eval h k (by omega) i (by omega)
theorem rnd_congr {v v' : Nat → Int} {a b : Int} (h : ∀ i, i < 8 → v i = v' i) : ∀ i, i < 8 → rnd v a b i = rnd v' a b i := by
  intro i hi
  have : i = 0 ∨ i = 1 ∨ i = 2 ∨ i = 3 ∨ i = 4 ∨ i = 5 ∨ i = 6 ∨ i = 7 := by omega
  rcases this with rfl | rfl | rfl | rfl | rfl | rfl | rfl | rfl <;> simp only [rnd, oneU, twoU, h 0 (by omega), h 1 (by omega), h 2 (by omega), h 3 (by omega), h 4 (by omega), h 5 (by omega), h 6 (by omega), h 7 (by omega)]
theorem Rn_eval {h w : Nat → Int} {w' : Nat → Int} {r : Nat → Nat → Int} (h0 : ∀ i, i < 8 → h i = r 0 i) (hw : ∀ i, i < 64 → w i = w' i) (hs : ∀ k, k < 64 → ∀ i, i < 8 → rnd (r k) (kTab k) (w' k) i = r (k + 1) i) : ∀ k, k ≤ 64 → ∀ i, i < 8 → Rn h w k i = r k i
  | 0, _, i, hi => h0 i hi
  | k + 1, hk, i, hi => by
    rw [show Rn h w (k + 1) i = rnd (Rn h w k) (kTab k) (w k) i from rfl, rnd_congr (Rn_eval h0 hw hs k (by omega)) i hi, hw k (by omega)]
    exact hs k (by omega) i hi

def lsF (l : List Int) (i : Nat) : Int := l.getD i 0
/-- The states of a block: a and e of each round, those ahead of it told backwards. -/
def stR (a e : List Int) (k i : Nat) : Int := if i < 4 then lsF a (k + 3 - i) else lsF e (k + 7 - i)
def hashB (b : Nat → Int) (w a e : List Int) : Bool :=
  (List.range 64).all (fun k => newW b k (lsF w) == lsF w k) && (List.range 64).all fun k => (List.range 8).all fun i => rnd (stR a e k) (kTab k) (lsF w k) i == stR a e (k + 1) i
def hashOk (n : Nat) (m : List Int) (W A E : List (List Int)) (o : List Int) : Bool :=
  (List.range 8).all (fun i => hTab i == stR (A.getD 0 []) (E.getD 0 []) 0 i) &&
  ((List.range (padN n / 64)).all (fun q => hashB (blkB (padF n (lsF m)) q) (W.getD q []) (A.getD q []) (E.getD q [])) &&
  ((List.range (padN n / 64)).all (fun q => (List.range 8).all fun i => q + 1 == padN n / 64 || addU (stR (A.getD q []) (E.getD q []) 0 i) (stR (A.getD q []) (E.getD q []) 64 i) == stR (A.getD (q + 1) []) (E.getD (q + 1) []) 0 i) &&
  (decide (1 ≤ padN n / 64) &&
  (List.range 32).all fun i => lsF o i == IntKind.u8.wrap ((addU (stR (A.getD (padN n / 64 - 1) []) (E.getD (padN n / 64 - 1) []) 0 (i / 4)) (stR (A.getD (padN n / 64 - 1) []) (E.getD (padN n / 64 - 1) []) 64 (i / 4))).fdiv (2 ^ (24 - 8 * (i % 4)))))))
theorem all_range {n : Nat} {p : Nat → Bool} (h : (List.range n).all p = true) (i : Nat) (hi : i < n) : p i = true := by
  rw [List.all_eq_true] at h
  exact h i (List.mem_range.2 hi)
theorem block_eval {b h : Nat → Int} {w a e : List Int} (hb : hashB b w a e = true) (h0 : ∀ i, i < 8 → h i = stR a e 0 i) (i : Nat) (hi : i < 8) : nextH h (Wn b 64) i = addU (stR a e 0 i) (stR a e 64 i) := by
  unfold hashB at hb
  rw [Bool.and_eq_true] at hb
  have h1 : ∀ k, k < 64 → newW b k (lsF w) = lsF w k := fun k hk => by simpa using all_range hb.1 k hk
  have h2 : ∀ k, k < 64 → ∀ i, i < 8 → rnd (stR a e k) (kTab k) (lsF w k) i = stR a e (k + 1) i := fun k hk i hi => by simpa using all_range (all_range hb.2 k hk) i hi
  unfold nextH
  rw [h0 i hi, Rn_eval (w' := lsF w) (r := stR a e) h0 (Wn_eval h1 64 (Nat.le_refl _)) h2 64 (Nat.le_refl _) i hi]
theorem sum_eval {n : Nat} {m : List Int} {W A E : List (List Int)} {o : List Int} (h : hashOk n m W A E o = true) : ∀ i, i < 32 → sumB n (lsF m) i = lsF o i := by
  unfold hashOk at h
  rw [Bool.and_eq_true, Bool.and_eq_true, Bool.and_eq_true, Bool.and_eq_true] at h
  obtain ⟨h1, h2, h3, h4, h5⟩ := h
  have h4 := of_decide_eq_true h4
  have key : ∀ q, q < padN n / 64 → ∀ i, i < 8 → Hn (padF n (lsF m)) q i = stR (A.getD q []) (E.getD q []) 0 i := by
    intro q
    induction q with
    | zero => exact fun _ i hi => eq_of_beq (all_range h1 i hi)
    | succ q ih =>
      intro hq i hi
      show nextH (Hn (padF n (lsF m)) q) (Wn (blkB (padF n (lsF m)) q) 64) i = _
      rw [block_eval (all_range h2 q (by omega)) (ih (by omega)) i hi]
      have := all_range (all_range h3 q (by omega)) i hi
      have hne : (q + 1 == padN n / 64) = false := by simp; omega
      rw [hne, Bool.false_or] at this
      simpa using this
  intro i hi
  have e : padN n / 64 = (padN n / 64 - 1) + 1 := by omega
  have e2 : Hn (padF n (lsF m)) (padN n / 64) (i / 4) = addU (stR (A.getD (padN n / 64 - 1) []) (E.getD (padN n / 64 - 1) []) 0 (i / 4)) (stR (A.getD (padN n / 64 - 1) []) (E.getD (padN n / 64 - 1) []) 64 (i / 4)) := by
    rw [e]
    show nextH (Hn (padF n (lsF m)) (padN n / 64 - 1)) (Wn (blkB (padF n (lsF m)) (padN n / 64 - 1)) 64) (i / 4) = _
    exact block_eval (all_range h2 _ (by omega)) (key _ (by omega)) _ (by omega)
  rw [sumB, e2]
  have := all_range h5 i hi
  simp only [beq_iff_eq] at this
  exact this.symm
theorem sumB_congr {n : Nat} {f g : Nat → Int} (h : ∀ i, i < n → f i = g i) : sumB n f = sumB n g := by
  have e : padF n f = padF n g := by
    funext i
    unfold padF
    by_cases hi : i < n
    · rw [if_pos hi, if_pos hi, h i hi]
    · rw [if_neg hi, if_neg hi]
  funext i
  rw [sumB, sumB, e]
end Go.Proofs.Ytfolpdmbpbbimaa
end

section
/- The sum that makes the second base; no condition. -/
set_option linter.unusedVariables false
set_option linter.unusedSimpArgs false
set_option maxRecDepth 100000
set_option pp.maxSteps 300
namespace Go.Proofs.Ytfolpdmbpbbimaa
open Go Go.Wit

def hH_m : List Int := [0, 0, 0, 5, 119, 105, 116, 97, 110, 0, 0, 0, 0, 0, 0, 0, 0]
def hH_W : List (List Int) := [[5, 2003399777, 1845493760, 0, 8388608, 0, 0, 0, 0, 0, 0, 0, 0, 0, 0, 136, 2434507203, 2228916193, 318635078, 373212277, 1110406238, 3132204649, 1421107991, 2029185066, 1121385909, 1007438883, 3082518787, 4056575730, 1799219763, 3478107998, 3512336317, 3988787997, 4256135347, 970460431, 2989504125, 4068138340, 3709225020, 4264055156, 294145496, 1996484250, 4277391817, 3935909831, 2642362411, 2638184925, 4215208125, 808530028, 242644178, 1364051396, 4148497327, 308496743, 3573685994, 2876087458, 1011437140, 737328964, 3009036107, 4007086231, 1227850410, 2711488494, 3270110102, 2003472343, 2184709045, 847159712, 4074042404, 592683001]]
def hH_A : List (List Int) := [[2773480762, 1013904242, 3144134277, 1779033703, 4228417618, 2655676781, 377761233, 1016638797, 3384978533, 2648456691, 726808131, 3329297848, 2172511823, 2582772454, 2442353963, 198255020, 541384394, 84351529, 3625578032, 74621922, 1344473271, 716371570, 3945447640, 2726755886, 2581550807, 1590202699, 3617769461, 958046927, 3884986242, 885864665, 3164892542, 3885407174, 4266009471, 3593981802, 333430288, 3255220598, 2550530096, 2963004066, 682221528, 1297640456, 4028284709, 55707373, 1525199334, 3544120640, 1515108697, 4134629980, 3604058692, 3552379444, 2448578234, 1170529240, 3658895961, 2512283952, 3241977861, 2385438713, 4205255062, 2322422142, 2341972743, 1253929968, 2467217769, 3702892553, 3934191490, 1784329708, 4277943529, 2067945919, 2625578609, 3779370708, 611922450, 1877822952]]
def hH_E : List (List Int) := [[1541459225, 528734635, 2600822924, 1359893119, 2563236519, 16459000, 3464959358, 3439030100, 1598557190, 62294000, 736200389, 1227006710, 595837122, 2393032213, 2228255023, 211807, 3168707742, 804035152, 3691439629, 4026888003, 399587813, 3254110068, 3492670325, 2781369938, 4248000478, 2958846903, 2823861009, 981265777, 1865459208, 381019486, 2677374492, 381946925, 4086601544, 261838766, 3364271844, 1219916940, 1650589405, 3041357696, 2519272706, 54458548, 1289916377, 1543449003, 43070571, 317542156, 3518143663, 4170753727, 4102598157, 4006513618, 1141829524, 2404535173, 35067934, 3668112704, 3897077118, 1072965344, 1738953741, 1736757346, 3868850674, 1775213185, 2316670796, 2264436678, 3113558083, 492984597, 3362386627, 91612352, 4065736310, 2769693619, 1302450674, 1231767931]]
def hH_o : List Int := [217, 247, 52, 79, 223, 224, 224, 151, 29, 179, 146, 70, 65, 207, 27, 171, 154, 121, 155, 250, 232, 167, 58, 126, 196, 154, 5, 94, 78, 55, 3, 143]
theorem hH_out : ∀ i, i < 32 → sumB 17 (lsF hH_m) i = lsF hH_o i := sum_eval (by decide +kernel : hashOk 17 hH_m hH_W hH_A hH_E hH_o = true)

end Go.Proofs.Ytfolpdmbpbbimaa
end

section
/- The keyed sum of the reference; no condition. -/
set_option linter.unusedVariables false
set_option linter.unusedSimpArgs false
set_option maxRecDepth 100000
set_option pp.maxSteps 3000
namespace Go.Proofs.Ytfolpdmbpbbimaa
open Go Go.Wit

theorem rowAtE {s : Nat → Int} {g : Nat → Nat → AV} {i p : Nat} {A : AV} (hi : i < 32) (hp : p = i) (hA : A = updG ⟨1, 32, g⟩ 0 0 32 ((List.range 32).map fun i => .int .u8 (s i)) p 0) : A = .int .u8 (s i) := by
  subst hp hA
  rw [updG_all (by omega) hi, List.getD_eq_getElem?_getD, List.getElem?_map, List.getElem?_range hi]
  rfl
end Go.Proofs.Ytfolpdmbpbbimaa
end

section
/- Points of tags and seeds; no condition. -/
set_option linter.unusedVariables false
set_option linter.unusedSimpArgs false
set_option maxRecDepth 100000
set_option pp.maxSteps 3000
namespace Go.Proofs.Ytfolpdmbpbbimaa
open Go Go.Wit

/-- What the number c of joined bytes leads to. -/
noncomputable def tryP (n : Nat) (f : Nat → Int) (c : Nat) : Except Int (Pt Fp) := rd 33 (catB 1 (fun _ => 2) (sumB (n + 4) (catB n f (beF c 4))))
/-- The first that is a point, or none. -/
def PtRes (n : Nat) (f : Nat → Int) (v : AV) : Prop :=
  (∃ c P, c < 256 ∧ (∀ d, d < c → ∃ e, tryP n f d = .error e) ∧ tryP n f c = .ok P ∧ On P ∧ v = .tup [ptA P, .int .i64 ((c + 1 : Nat) : Int), .int .i64 0]) ∨
  ((∀ d, d < 256 → ∃ e, tryP n f d = .error e) ∧ v = .tup [noPt, .int .i64 0, .int .i64 5])
theorem PtRes.same {n : Nat} {f : Nat → Int} {v w : AV} (h1 : PtRes n f v) (h2 : PtRes n f w) : v = w := by
  rcases h1 with ⟨c, P, hc, hd, hP, _, rfl⟩ | ⟨hd, rfl⟩
  · rcases h2 with ⟨c2, P2, hc2, hd2, hP2, _, rfl⟩ | ⟨hd2, rfl⟩
    · obtain rfl : c = c2 := by
        rcases Nat.lt_trichotomy c c2 with h | h | h
        · obtain ⟨e, he⟩ := hd2 c h; rw [hP] at he; cases he
        · exact h
        · obtain ⟨e, he⟩ := hd c2 h; rw [hP2] at he; cases he
      rw [hP] at hP2
      obtain rfl : P = P2 := by injection hP2
      rfl
    · obtain ⟨e, he⟩ := hd2 c hc; rw [hP] at he; cases he
  · rcases h2 with ⟨c2, P2, hc2, hd2, hP2, _, rfl⟩ | ⟨hd2, rfl⟩
    · obtain ⟨e, he⟩ := hd c2 hc2; rw [hP2] at he; cases he
    · rfl
theorem two_row {s : Nat → Int} {g h : Nat → Nat → AV} {i : Nat} (hi : i < 33) (h0 : g 0 0 = .int .u8 2) (hh : ∀ j, j < 32 → h j 0 = .int .u8 (s j)) : catG 1 g h i 0 = .int .u8 (catB 1 (fun _ => 2) s i) := by
  by_cases hl : i < 1
  · obtain rfl : i = 0 := by omega
    rw [catG_lt hl, catB_lt hl, h0]
  · rw [catG_ge (by omega), catB_ge (by omega), hh _ (by omega)]
theorem two_in {s : Nat → Int} (hs : ∀ i, 0 ≤ s i ∧ s i ≤ 255) (i : Nat) (hi : i < 33) : 0 ≤ catB 1 (fun _ => 2) s i ∧ catB 1 (fun _ => 2) s i ≤ 255 := catB_in (n := 1) (m := 32) (fun _ _ => by decide) (fun i _ => hs i) hi
theorem flat_pt3 {P : Pt Fp} {a b : Int} : Flat true (.tup [ptA P, .int .i64 a, .int .i64 b]) := .tup _ (.cons _ _ flat_ptA (.cons _ _ (.int _ _) (.cons _ _ (.int _ _) .nil)))

def pz : Nat → Nat → AV := fun _ j => [AV.bool false, AV.int .u64 0, AV.int .u64 0, AV.int .u64 0, AV.int .u64 0, AV.int .u64 0, AV.int .u64 0, AV.int .u64 0, AV.int .u64 0].getD j .un
theorem flat_pz {nv : Bool} {i j : Nat} : Flat nv (pz i j) := by
  unfold pz
  match j with
  | 0 => exact .bool _
  | 1 => exact .int _ _
  | 2 => exact .int _ _
  | 3 => exact .int _ _
  | 4 => exact .int _ _
  | 5 => exact .int _ _
  | 6 => exact .int _ _
  | 7 => exact .int _ _
  | 8 => exact .int _ _
  | k + 9 => simp; exact .un
theorem S_DPoint0 (s : ByteArray) (k c1 : Nat) (g : Nat → Int) (hs : s.size ≤ 900000) (hk : k ≤ 900000) (hg : ∀ i, i < k → 0 ≤ g i ∧ g i ≤ 255) :
    ACall Pg F_draw_Point [.str s, .vsl 1 k c1 (bytesG g)] [] (fun v _ => ((nT s.size (fun _ => k) 1 ≤ 65536 ∧ PtRes (nT s.size (fun _ => k) 1) (cT s.size (strF s) (fun _ => k) (fun _ => g) 1) v) ∨ (65536 < nT s.size (fun _ => k) 1 ∧ v = .tup [noPt, .int .i64 0, .int .i64 4])) ∧ Flat true v) := by
  refine B_draw_Point ⟨rfl, ?_⟩
  conv => whnf
  repeat (refine ⟨⟨[], rfl⟩, ?_⟩; conv => whnf)
  refine S_joined (r := 1) (N := fun _ => k) (F := fun _ => g) (ShowsB.sl rfl (Nat.le_refl 1) (fun i hi => ?_)) (by omega) (by decide) (fun _ _ => by omega) (fun h n f cap1 hn hf => ?_) (fun h f cap1 => ?_)
  · obtain rfl : i = 0 := by omega
    exact Shows.vsl
  · rw [← hn, ← hf]
    rw [← hn] at h
    have hf1 : ∀ i, i < n → 0 ≤ f i ∧ f i ≤ 255 := fun i hi => by rw [hf]; exact cT_in (fun _ _ => strF_lt) (fun _ _ j hj => hg j hj) i (by omega)
    clear hf hn
    conv => whnf
    repeat (refine ⟨⟨[], rfl⟩, ?_⟩; conv => whnf)
    refine loop_wk mixed (I := fun q l m => ∃ (c : Nat), l = [(4, .ptr 0 0 0), (7, .sl 1 0 n cap1), (23, .int .i64 c)] ∧ m = [some ⟨9, 1, pz⟩, some ⟨1, n, bytesG f⟩] ∧ q + c = 256 ∧ ∀ d, d < c → ∃ e, tryP n f d = .error e) 256
      (l0 := [(4, .ptr 0 0 0), (7, .sl 1 0 n cap1), (23, .int .i64 (0 : Nat))]) (m0 := [some ⟨9, 1, pz⟩, some ⟨1, n, bytesG f⟩]) [some 0, some 2] ⟨0, rfl, rfl, rfl, fun d hd => by omega⟩ ?_ ?_
    · exact .mk0 ⟨.ptr _ _ _ _ rfl, .sl _ _ _ _ _ rfl, Flat.i rfl, trivial⟩ ⟨.old 0 0 _ _ rfl rfl ⟨rfl, Nat.le_refl _, fun i j hi hj => RV.of rfl (by dsimp only; exact flat_pz)⟩, .old 1 2 _ _ rfl rfl ⟨rfl, Nat.le_refl _, fun i j hi hj => RV.of rfl (.int _ _)⟩, trivial⟩ rfl rfl
    · rintro q l m ⟨c, rfl, rfl, hq, hd⟩
      conv => whnf
      repeat (refine ⟨⟨[], rfl⟩, ?_⟩; conv => whnf)
      refine condB_mk (fun hb => ?_) (fun hb => ?_)
      · have hb : c < 256 := by simp at hb; omega
        have e6 : IntKind.u64.wrap (c : Int) = (c : Int) := by rw [wu64]; omega
        conv => whnf
        repeat (refine ⟨⟨[], rfl⟩, ?_⟩; conv => whnf)
        refine S_number (s := 4) (x := IntKind.u64.wrap (c : Int)) (by rw [e6]; omega) (by decide) (fun cap2 => ?_)
        rw [e6]
        conv => whnf
        repeat (refine ⟨⟨[], rfl⟩, ?_⟩; conv => whnf)
        refine S_with (k := 4) (f := f) (g := beF c 4) (Shows.sl rfl (Nat.le_of_eq (Nat.zero_add _)) fun i hi => by rw [Nat.zero_add]) (Shows.sl rfl (Nat.le_refl 4) fun i hi => by rw [Nat.zero_add]) (by omega) (by decide) (fun cap3 h0 hh0 => ?_)
        conv => whnf
        repeat (refine ⟨⟨[], rfl⟩, ?_⟩; conv => whnf)
        refine S_SumR (f := h0) (Shows.sl rfl (Nat.le_of_eq (Nat.zero_add _)) fun i hi => by rw [Nat.zero_add]) (by omega) (fun i hi => by rw [hh0]; exact catB_in hf1 (fun _ _ => beF_lt) hi) (fun s0 hs0 hb0 => ?_)
        have ht : tryP n f c = rd 33 (catB 1 (fun _ => 2) s0) := by rw [hs0, hh0]; rfl
        rw [rowL]
        conv => whnf
        repeat (refine ⟨⟨[], rfl⟩, ?_⟩; conv => whnf)
        intro cap4 hcap4
        conv => whnf
        repeat (refine ⟨⟨[], rfl⟩, ?_⟩; conv => whnf)
        refine S_Read (n := 33) (f := catB 1 (fun _ => 2) s0) (Shows.any rfl (Nat.le_refl 33) fun i hi => ?_) (fun i hi => two_in hb0 i hi) (fun P oP hP => ?_) (fun e he hP => ?_)
        · rw [show 0 + i = i from Nat.zero_add i]
          dsimp only
          refine two_row hi ?_ fun j hj => ?_
          · rfl
          · refine rowAtE hj ?_ rfl
            omega
        · have e5 : IntKind.i64.wrap ((c : Int) + 1) = ((c + 1 : Nat) : Int) := by rw [w64 (by omega) (by omega)]; omega
          conv => whnf
          repeat (refine ⟨⟨[], rfl⟩, ?_⟩; conv => whnf)
          rw [e5]
          exact ⟨.inl ⟨h, .inl ⟨c, P, hb, hd, ht.trans hP, oP, rfl⟩⟩, flat_pt3⟩
        · conv => whnf
          repeat (refine ⟨⟨[], rfl⟩, ?_⟩; conv => whnf)
          refine condB_no (by simpa using he) ?_
          conv => whnf
          repeat (refine ⟨⟨[], rfl⟩, ?_⟩; conv => whnf)
          have e5 : IntKind.i64.wrap ((c : Int) + 1) = ((c + 1 : Nat) : Int) := by rw [w64 (by omega) (by omega)]; omega
          refine ⟨q - 1, [(4, .ptr 0 0 0), (7, .sl 1 0 n cap1), (23, .int .i64 ((c + 1 : Nat) : Int))], [some ⟨9, 1, pz⟩, some ⟨1, n, bytesG f⟩], [some 0, some 1], by omega, ⟨c + 1, rfl, rfl, by omega, fun d hd2 => ?_⟩, ?_⟩
          · by_cases hdc : d = c
            · subst hdc; exact ⟨e, ht.trans hP⟩
            · exact hd d (by omega)
          · exact .mk0 ⟨.ptr _ _ _ _ rfl, .sl _ _ _ _ _ rfl, Flat.i e5, trivial⟩ ⟨.old 0 0 _ _ rfl rfl ⟨rfl, Nat.le_refl _, fun i j hi hj => RV.of rfl (by dsimp only; exact flat_pz)⟩, .old 1 1 _ _ rfl rfl ⟨rfl, Nat.le_refl _, fun i j hi hj => RV.of rfl (.int _ _)⟩, trivial⟩ rfl rfl
      · conv => whnf
        repeat (refine ⟨⟨[], rfl⟩, ?_⟩; conv => whnf)
        refine ⟨.inl ⟨h, .inr ⟨fun d hd2 => hd d (by simp at hb; omega), rfl⟩⟩, ?_⟩
        show Flat true (.tup [noPt, .int .i64 0, .int .i64 5])
        exact .tup _ (.cons _ _ (flat_no true) (.cons _ _ (.int _ _) (.cons _ _ (.int _ _) .nil)))
  · conv => whnf
    repeat (refine ⟨⟨[], rfl⟩, ?_⟩; conv => whnf)
    refine ⟨.inr ⟨h, rfl⟩, ?_⟩
    show Flat true (.tup [noPt, .int .i64 0, .int .i64 4])
    exact .tup _ (.cons _ _ (flat_no true) (.cons _ _ (.int _ _) (.cons _ _ (.int _ _) .nil)))
theorem S_DPoint {m : Mem} {x : AV} {K : AV → Mem → Prop} {s : ByteArray} {k : Nat} {g : Nat → Int} (hx : Shows m x k g) (hs : s.size ≤ 900000) (hk : k ≤ 900000) (hg : ∀ i, i < k → 0 ≤ g i ∧ g i ≤ 255)
    (h1 : nT s.size (fun _ => k) 1 ≤ 65536 → ∀ v, PtRes (nT s.size (fun _ => k) 1) (cT s.size (strF s) (fun _ => k) (fun _ => g) 1) v → K v m)
    (h2 : 65536 < nT s.size (fun _ => k) 1 → K (.tup [noPt, .int .i64 0, .int .i64 4]) m) : ACall Pg F_draw_Point [.str s, x] m K := by
  obtain ⟨cap, hl⟩ := hx
  refine lift_flat (S_DPoint0 s k cap g hs hk hg) (.cons _ _ _ _ (lend_flat (.str _)) (.cons _ _ _ _ hl .nil)) ?_
  rintro v (⟨h, hv⟩ | ⟨h, rfl⟩)
  · exact h1 h v hv
  · exact h2 h

end Go.Proofs.Ytfolpdmbpbbimaa
end

section
/- The second base; no condition. -/
set_option linter.unusedVariables false
set_option linter.unusedSimpArgs false
set_option maxRecDepth 100000
set_option pp.maxSteps 3000
set_option pp.deepTerms false
set_option pp.deepTerms.threshold 7
namespace Go.Proofs.Ytfolpdmbpbbimaa
open Go Go.Wit

abbrev wiB : ByteArray := ⟨#[119, 105, 116, 97, 110]⟩
abbrev hhX : Fp := ⟨98588660411792037220626701311751279850583544932078971810975624332045586989967, by decide +kernel⟩
abbrev hhY : Fp := ⟨78406619623170427787268516794670313409178490032693861438053881465315453111934, by decide +kernel⟩
abbrev hhP : Pt Fp := .aff hhX hhY
theorem h_on : On hhP := by
  show hhY * hhY = hhX * hhX * hhX + 7
  decide +kernel
theorem h_bytes : ∀ i : Fin 17, catB 13 (cT 5 (strF wiB) (fun _ => 0) (fun _ _ => 0) 1) (beF ((0 : Nat) : Int) 4) i.val = lsF hH_m i.val := by decide +kernel
theorem h_try : tryP 13 (cT 5 (strF wiB) (fun _ => 0) (fun _ _ => 0) 1) 0 = .ok hhP := by
  unfold tryP
  rw [sumB_congr (n := 13 + 4) (g := lsF hH_m) fun i hi => h_bytes ⟨i, hi⟩]
  refine rd_pb h_on (f := catB 1 (fun _ => 2) (sumB (13 + 4) (lsF hH_m))) fun i hi => ?_
  have hi : i < 33 := hi
  have k : ∀ i : Fin 33, catB 1 (fun _ => 2) (lsF hH_o) i.val = pbF hhP i.val := by decide +kernel
  rw [← k ⟨i, hi⟩]
  unfold catB
  split
  · rfl
  · exact hH_out _ (by omega)
/-- It, told as any point. -/
theorem S_cBase {m : Mem} {K : AV → Mem → Prop} (h : ∀ H, H = hhP → On H → K (ptA H) m) : ACall Pg F_contract_Base [] m K := by
  have h0 : ACall Pg F_contract_Base [] [] (fun v _ => v = ptA hhP ∧ Flat true v) := by
    obtain ⟨H, hH⟩ : ∃ H, H = hhP := ⟨_, rfl⟩
    rw [← hH]
    refine B_contract_Base ⟨rfl, ?_⟩
    conv => whnf
    repeat (refine ⟨⟨_, rfl⟩, ?_⟩; conv => whnf)
    refine S_DPoint (s := wiB) (k := 0) (g := fun _ => 0) Shows.nils (by decide) (by decide) (fun i hi => absurd hi (by omega)) (fun _ v hv => ?_) (fun h => absurd h (by decide))
    have he : v = .tup [ptA H, .int .i64 1, .int .i64 0] :=
      hv.same (.inl ⟨0, hhP, by decide, fun d hd => absurd hd (by omega), h_try, h_on, by rw [hH]; rfl⟩)
    rw [he]
    clear hv he
    conv => whnf
    repeat (refine ⟨⟨_, rfl⟩, ?_⟩; conv => whnf)
    exact ⟨rfl, flat_ptA⟩
  refine lift_flat h0 .nil ?_
  rintro v rfl
  exact h _ rfl h_on
end Go.Proofs.Ytfolpdmbpbbimaa
end

section
/- What a dealer submits; acts that a call looks at; no condition. -/
set_option linter.unusedVariables false
set_option linter.unusedSimpArgs false
set_option maxRecDepth 100000
set_option pp.maxSteps 3000
set_option pp.deepTerms false
set_option pp.deepTerms.threshold 7
namespace Go.Proofs.Ytfolpdmbpbbimaa
open Go Go.Wit

theorem lend_act {m : Mem} {B : List Nat} {k : Int} {i : Bool} {x y : Nat} {s : ByteArray} {sl co sl' co' : AV} {ag : Int} {c r : Nat} (h1 : Lend (fun _ => none) B m sl sl') (h2 : Lend (fun _ => none) B m co co') :
    Lend (fun _ => none) B m (actA k i x y s sl co ag c r) (actA k i x y s sl' co' ag c r) := by
  refine .aggR _ _ rfl (fun j hj => ?_)
  have hj : j < 22 := hj
  have : j = 0 ∨ j = 1 ∨ j = 2 ∨ j = 3 ∨ j = 4 ∨ j = 5 ∨ j = 6 ∨ j = 7 ∨ j = 8 ∨ j = 9 ∨ j = 10 ∨ j = 11 ∨ j = 12 ∨ j = 13 ∨ j = 14 ∨ j = 15 ∨ j = 16 ∨ j = 17 ∨ j = 18 ∨ j = 19 ∨ j = 20 ∨ j = 21 := by omega
  rcases this with rfl | rfl | rfl | rfl | rfl | rfl | rfl | rfl | rfl | rfl | rfl | rfl | rfl | rfl | rfl | rfl | rfl | rfl | rfl | rfl | rfl | rfl
  all_goals first
    | exact h1
    | exact h2
    | exact .rv _ _ (.eq _ _ rfl (.int _ _))
    | exact .rv _ _ (.eq _ _ rfl (.bool _))
    | exact .rv _ _ (.eq _ _ rfl (.str _))
theorem S_aCheck {m : Mem} {K : AV → Mem → Prop} {v : AV} {k : Int} {i : Bool} {x y : Nat} {s : ByteArray} {sl co : AV} {ns : Nat} {S : Nat → Nat → Int} {nc : Nat} {I : Nat → Bool} {X Y : Nat → Nat} {ag : Int} {c r : Nat} (hv : v = actA k i x y s sl co ag c r) (h1 : ShowsG m sl 32 ns (sealG S)) (h2 : ShowsG m co 9 nc (rawsG I X Y))
    (hx : x < w256) (hy : y < w256) (hc : c < w256) (hr : r < w256) (hs : s.size ≤ 1000000000) (hX : ∀ j, j < nc → X j < w256) (hY : ∀ j, j < nc → Y j < w256) (h : ∀ e, e = chkE k i x y s ns nc I X Y ag c r → K (.int .i64 e) m) : ACall Pg F_act_Check [v] m K := by
  subst hv
  obtain ⟨c1, g1⟩ := h1
  obtain ⟨c2, g2⟩ := h2
  refine lift_flat (S_aCheck0 k i x y s ns c1 S nc c2 I X Y ag c r hx hy hc hr hs hX hY) (.cons _ _ _ _ (lend_act g1 g2) .nil) ?_
  rintro v rfl
  exact h _ rfl
theorem num_at {c : Nat → Nat} {n e i : Nat} (h : e = i) : AV.agg (List.map (cellG ⟨4, n, fun i j => fl1 (numsG c i j)⟩ e 0) (List.range 4)) = numA (c i) := by subst h; rfl
theorem T_TimesE {m : Mem} {K : AV → Mem → Prop} {v w : AV} {n : Nat} {P : Pt Fp} (hv : v = numA n) (hw : w = ptA P) (hn : n < w256) (oP : On P) (h : ∀ R, On R → R = nmul n P → K (.tup [ptA R, .int .i64 0]) m) : ACall Pg F_curve_Times [v, w] m K := by
  subst hv hw; exact T_Times hn oP h
theorem S_ProveE {m : Mem} {K : AV → Mem → Prop} {v w u : AV} {s k : Nat} {b : Pt Fp} (hv : v = numA s) (hw : w = numA k) (hu : u = ptA b) (hs : s < w256) (hk : k < w256) (ob : On b) (h : ∀ c r, c = prfC s k b → r = prfR s k c → c < nN → r < nN → K (.tup [prA c r, .int .i64 0]) m) : ACall Pg F_dleq_Prove [v, w, u] m K := by
  subst hv hw hu; exact S_Prove hs hk ob h
/-- What a seed submits. -/
theorem S_Submit0 (n cap : Nat) (f : Nat → Int) (hn : n ≤ 1000000) (hf : ∀ i, i < n → 0 ≤ f i ∧ f i ≤ 255) : ACall Pg F_deal_Submit [.vsl 1 n cap (bytesG f)] []
    (fun v _ => ((n ≤ 16384 ∧ ∃ P c r, On P ∧ P = nmul (coN n f 0) hhP ∧ c = prfC (coN n f 0) (drwN noB n f 0) hhP ∧ r = prfR (coN n f 0) (drwN noB n f 0) c ∧ c < nN ∧ r < nN ∧ v = .tup [actA 4 (isI P) (xN P) (yN P) nB .nils .nils 0 c r, .int .i64 0]) ∨ (16384 < n ∧ v = .tup [act0, .int .i64 4])) ∧ Flat true v) := by
  refine B_deal_Submit ⟨rfl, ?_⟩
  conv => whnf
  repeat (refine ⟨⟨_, rfl⟩, ?_⟩; conv => whnf)
  by_cases h : n ≤ 16384
  · refine S_Poly (n := n) (t := 0) (f := f) Shows.vsl h (by decide) hf (fun a c1 ha ha1 ha0 => ?_)
    conv => whnf
    repeat (refine ⟨⟨_, rfl⟩, ?_⟩; conv => whnf)
    refine S_scalar (t := noB) (by decide) (n := n) (i := 0) (f := f) Shows.vsl h hf (by decide) (fun b hb hb1 => ?_)
    conv => whnf
    repeat (refine ⟨⟨_, rfl⟩, ?_⟩; conv => whnf)
    refine S_cBase (fun H hH oH => ?_)
    conv => whnf
    repeat (refine ⟨⟨_, rfl⟩, ?_⟩; conv => whnf)
    refine T_TimesE (n := a 0) (P := H) (num_at rfl) rfl (Nat.lt_trans (ha1 0) (by decide)) oH (fun P oP hP => ?_)
    conv => whnf
    repeat (refine ⟨⟨_, rfl⟩, ?_⟩; conv => whnf)
    refine S_ProveE (s := a 0) (k := b) (b := H) (num_at rfl) rfl rfl (Nat.lt_trans (ha1 0) (by decide)) (Nat.lt_trans hb1 (by decide)) oH (fun c r hc hr hc1 hr1 => ?_)
    conv => whnf
    repeat (refine ⟨⟨_, rfl⟩, ?_⟩; conv => whnf)
    refine ⟨.inl ⟨h, P, c, r, oP, by rw [hP, ha, hH], by rw [hc, ha, hb, hH], by rw [hr, ha, hb], hc1, hr1, rfl⟩, ?_⟩
    show Flat true (.tup [actA 4 (isI P) (xN P) (yN P) nB .nils .nils 0 c r, .int .i64 0])
    exact flat_acte
  · refine S_Poly_long (n := n) (f := f) Shows.vsl (by omega) (fun cap g => ?_)
    conv => whnf
    repeat (refine ⟨⟨_, rfl⟩, ?_⟩; conv => whnf)
    refine ⟨.inr ⟨by omega, rfl⟩, ?_⟩
    show Flat true (.tup [act0, .int .i64 4])
    exact flat_acte
theorem S_Submit {m : Mem} {x : AV} {K : AV → Mem → Prop} {n : Nat} {f : Nat → Int} (hx : Shows m x n f) (hn : n ≤ 1000000) (hf : ∀ i, i < n → 0 ≤ f i ∧ f i ≤ 255)
    (h1 : n ≤ 16384 → ∀ P c r, On P → P = nmul (coN n f 0) hhP → c = prfC (coN n f 0) (drwN noB n f 0) hhP → r = prfR (coN n f 0) (drwN noB n f 0) c → c < nN → r < nN → K (.tup [actA 4 (isI P) (xN P) (yN P) nB .nils .nils 0 c r, .int .i64 0]) m)
    (h2 : 16384 < n → K (.tup [act0, .int .i64 4]) m) : ACall Pg F_deal_Submit [x] m K := by
  obtain ⟨cap, hl⟩ := hx
  refine lift_flat (S_Submit0 n cap f hn hf) (.cons _ _ _ _ hl .nil) ?_
  rintro v (⟨h, P, c, r, g1, g2, g3, g4, g5, g6, rfl⟩ | ⟨h, rfl⟩)
  · exact h1 h P c r g1 g2 g3 g4 g5 g6
  · exact h2 h
theorem nmul_fin {a : Nat} {P : Pt Fp} (oP : On P) (hP : isI P = false) (h0 : a ≠ 0) (h1 : a < nN) : isI (nmul a P) = false := by
  cases h : isI (nmul a P) with
  | false => rfl
  | true =>
    exfalso
    obtain ⟨j, rfl⟩ := all_G oP
    rw [← nmul_mul crvP on_G] at h
    have hd := nmul_G_inf (isI_inf h)
    rcases prmN.dvd_mul hd with hd | hd
    · have := Nat.le_of_dvd (by omega) hd
      omega
    · have : nmul j gG = .inf := by
        rw [← nmul_mod j, Nat.mod_eq_zero_of_dvd hd]; rfl
      rw [this] at hP; cases hP
end Go.Proofs.Ytfolpdmbpbbimaa
end

