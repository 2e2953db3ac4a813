/- The law BinEnds: what is cut short cannot be got; no condition. -/
import Derived.Test.YtdobchoiiihfiaaD10
set_option linter.unusedVariables false
set_option linter.unusedSimpArgs false
set_option maxRecDepth 100000
set_option pp.maxSteps 300
namespace Go.Proofs.Ytdobchoiiihfiaa
open Go Go.Wit

theorem getV_congr {f g : Nat → Int} {p : Nat} : ∀ {k : Nat}, (∀ i, i < k → f (p + i) = g (p + i)) → getV f p k = getV g p k
  | 0, _ => rfl
  | k + 1, h => by rw [getV, getV, getV_congr (fun i hi => h i (by omega)), h k (by omega)]

theorem div_step (v d k : Nat) : v / (256 ^ d * 256) % 256 ^ k * 256 + v / 256 ^ d % 256 = v / 256 ^ d % (256 ^ (k + 1)) := by
  rw [← Nat.div_div_eq_div_mul, Nat.pow_succ, Nat.mul_comm (256 ^ k) 256, Nat.mod_mul]
  omega

theorem getV_put {n : Nat} {f : Nat → Int} {v s : Nat} : ∀ {k : Nat}, k ≤ s → getV (putB n f v s) n k = ((v / 256 ^ (s - k) % 256 ^ k : Nat) : Int)
  | 0, _ => by simp [getV, Nat.mod_one]
  | k + 1, h => by
    have e : (2 : Int) ^ (8 * (s - (k + 1))) = ((256 ^ (s - (k + 1)) : Nat) : Int) := by
      rw [show (256 : Nat) = 2 ^ 8 from rfl, ← Nat.pow_mul]; simp
    rw [getV, getV_put (by omega), putB, if_neg (by omega), Int.toNat_natCast]
    rw [show s - 1 - (n + k - n) = s - (k + 1) by omega, e]
    have := div_step v (s - (k + 1)) k
    rw [← Nat.pow_succ, show (s - (k + 1)).succ = s - k by omega] at this
    rw [← this]
    simp

/-- What was put is got. -/
theorem getV_back {n : Nat} {f g : Nat → Int} {v s : Nat} (hv : v < 256 ^ s) (hg : ∀ i, i < s → g (n + i) = putB n f v s (n + i)) : getV g n s = v := by
  rw [getV_congr hg, getV_put (Nat.le_refl _), Nat.sub_self, Nat.pow_zero, Nat.div_one, Nat.mod_eq_of_lt hv]

theorem S_BinEnds (k c2 : Nat) (g : Nat → Int) (cut over : Int) (hg : ∀ i, i < k → 0 ≤ g i ∧ g i ≤ 255) :
    ACall Pg F_witanlaw10_BinEnds [.vsl 1 k c2 (bytesG g), .int .i64 cut, .int .i64 over] [] (fun r _ => r = .bool true) := by
  refine B_witanlaw10_BinEnds ⟨rfl, ?_⟩
  conv => whnf
  refine condB_mk (fun h1 => ?_) (fun h1 => ?_)
  rotate_left
  · conv => whnf
  have h1 : k ≤ 2000 := by simp at h1; omega
  conv => whnf
  refine condB_mk (fun h2 => ?_) (fun h2 => ?_)
  rotate_left
  · conv => whnf
  have h2 : 0 ≤ over := by simpa using h2
  conv => whnf
  refine condB_mk (fun h3 => ?_) (fun h3 => ?_)
  · conv => whnf
  have h3 : over ≤ 1 := by simpa using h3
  conv => whnf
  refine S_PutPart (f := fun _ => 0) (g := g) Shows.nils Shows.vsl (by omega) (fun h => absurd (show k ≤ 16384 by omega) h) (fun _ cap1 => ?_)
  have hsB : ∀ {t : Mem} {c : Nat}, c ≤ 0 + 4 + k → Shows (some ⟨1, 0 + 4 + k, bytesG (catB (0 + 4) (putB 0 (fun _ => 0) k 4) g)⟩ :: t) (.sl 0 0 c cap1) c (catB 4 (putB 0 (fun _ => 0) k 4) g) := fun {t c} hc => Shows.sl (N := 0 + 4 + k) (f' := catB (0 + 4) (putB 0 (fun _ => 0) k 4) g) rfl (by omega) (fun i hi => by simp)
  have hsB2 : ∀ {t : Mem} {c : Nat} {cap : Nat}, c ≤ 0 + 4 + k → Shows (some ⟨1, 0 + 4 + k, bytesG (catB (0 + 4) (putB 0 (fun _ => 0) k 4) g)⟩ :: t) (.sl 0 0 c cap) c (catB (0 + 4) (putB 0 (fun _ => 0) k 4) g) := fun {t c cap} hc => Shows.sl (N := 0 + 4 + k) (f' := catB (0 + 4) (putB 0 (fun _ => 0) k 4) g) rfl (by omega) (fun i hi => by simp)
  generalize hB : catB (0 + 4) (putB 0 (fun _ => 0) k 4) g = B at *
  conv => whnf
  refine condB_no (by simp; omega) ?_
  conv => whnf
  refine condB_ok (by simp [kbeq]; rw [wu64]; omega) ?_
  conv => whnf
  generalize hC : IntKind.i64.wrap ((IntKind.u64.wrap cut).tmod (IntKind.u64.wrap ((0 + 4 + k : Nat) : Int))) = C
  have hC1 : 0 ≤ C ∧ C < 4 + k := by
    have hu : IntKind.u64.wrap ((0 + 4 + k : Nat) : Int) = (0 + 4 + k : Nat) := by rw [wu64]; omega
    rw [hu] at hC
    have := Int.tmod_nonneg (b := ((0 + 4 + k : Nat) : Int)) (show 0 ≤ IntKind.u64.wrap cut by rw [wu64]; omega)
    have := Int.tmod_lt_of_pos (IntKind.u64.wrap cut) (show (0:Int) < ((0 + 4 + k : Nat) : Int) by omega)
    rw [w64 (by omega) (by omega)] at hC
    omega
  clear hC
  obtain ⟨c, rfl⟩ : ∃ c : Nat, C = c := ⟨C.toNat, by omega⟩
  refine condB_ok (by simp; omega) ?_
  conv => whnf
  have hV : getV B 0 4 = k := by
    refine getV_back (n := 0) (f := fun _ => 0) (by omega) (fun i hi => ?_)
    rw [← hB, catB, if_pos (by omega)]; rfl
  have hBr : ∀ i, i < 0 + 4 + k → 0 ≤ B i ∧ B i ≤ 255 := by
    intro i hi
    rw [← hB, catB]
    split
    · rw [putB, if_neg (by omega)]; omega
    · exact hg _ (by omega)
  have hPV : partV B 0 = k := hV
  have bad : partOk c B 0 = false := by
    simp only [partOk, hPV, Bool.and_eq_false_iff, decide_eq_false_iff_not]
    omega
  have badE : partE c 0 = 7 := by
    unfold partE getE
    simp
  refine S_GetPart (f := B) 0 (n := c) (hsB2 (by omega)) (by omega) (fun i hi => hBr i (by omega)) (fun _ cap2 f2 => ?_) (fun h => by rw [bad] at h; cases h)
  rw [badE]
  conv => whnf
  obtain ⟨o, rfl⟩ : ∃ o : Nat, over = o := ⟨over.toNat, by omega⟩
  rw [show IntKind.i64.wrap (16384 + (o : Int)) = ((16384 + o : Nat) : Int) by rw [w64 (by omega) (by omega)]; omega]
  refine condB_ok (by simp; omega) ?_
  conv => whnf
  refine S_PutPart (f := fun _ => 0) (g := fun _ => 0) (k := 16384 + o) Shows.nils (Shows.any (N := 16384 + o) rfl (by simp) (fun i hi => rfl)) (by omega) (fun hbig cap3 f3 => ?_) (fun hok cap3 => ?_)
  · conv => whnf
    refine condB_yes (by simp; omega) ?_
    conv => whnf
    refine S_Put (f := fun _ => 0) ((16384 + o : Nat) : Int) 4 Shows.nils (by omega) (fun h _ _ => ?_) (fun _ cap4 => ?_)
    · simp [putOk] at h; omega
    conv => whnf
    refine condB_ok (app_ok rfl (by simp) rfl (by simp; omega) (by simp; omega)) (fun cap5 hcap => ?_)
    conv => whnf
    have hN : (((16384 + o : Nat) : Int)).toNat = 16384 + o := by omega
    have h4 : Int.toNat 4 = 4 := rfl
    have hPV : partV (catB (0 + Int.toNat 4) (putB 0 (fun _ => 0) ((16384 + o : Nat) : Int) 4) (fun _ => 0)) 0 = ((16384 + o : Nat) : Int) := by
      show getV _ 0 4 = _
      refine getV_back (n := 0) (f := fun _ => 0) (by omega) (fun i hi => ?_)
      rw [catB, if_pos (by omega)]; rfl
    have bad2 : partOk (0 + Int.toNat 4 + (((16384 + o : Nat) : Int)).toNat) (catB (0 + Int.toNat 4) (putB 0 (fun _ => 0) ((16384 + o : Nat) : Int) 4) (fun _ => 0)) 0 = false := by
      simp only [partOk, hPV, Bool.and_eq_false_iff, decide_eq_false_iff_not]
      omega
    have badE2 : partE (0 + Int.toNat 4 + (((16384 + o : Nat) : Int)).toNat) 0 = 7 := by
      unfold partE getE
      rw [hN, h4]
      simp
      rw [if_pos (by omega), if_neg (by omega)]
      simp
    refine S_GetPart (f := catB (0 + Int.toNat 4) (putB 0 (fun _ => 0) ((16384 + o : Nat) : Int) 4) (fun _ => 0)) 0 (n := 0 + Int.toNat 4 + (((16384 + o : Nat) : Int)).toNat) (Shows.any rfl (by omega) (fun i hi => ?_)) (by omega) (fun i hi => ?_) (fun _ cap6 f6 => ?_) (fun h => by rw [bad2] at h; cases h)
    · by_cases h : i < 0 + Int.toNat 4
      · refine (catG_lt (by omega)).trans ?_
        rw [catB, if_pos h]
        show bytesG (putB 0 (fun _ => 0) ((16384 + o : Nat) : Int) 4) (0 + i) 0 = _
        rw [Nat.zero_add i]; rfl
      · refine (catG_ge (by omega)).trans ?_
        rw [catB, if_neg h]; rfl
    · rw [catB]
      split
      · rw [putB, if_neg (by omega)]; omega
      · omega
    rw [badE2]
    conv => whnf
    refine S_wakes10 ?_
    conv => whnf
  · obtain rfl : o = 0 := by omega
    conv => whnf
    generalize hL : catB (0 + 4) (putB 0 (fun _ => 0) ((16384 + 0 : Nat) : Int) 4) (fun _ => 0) = Lo at *
    have hV2 : partV Lo 0 = 16384 := by
      show getV Lo 0 4 = _
      refine (getV_back (n := 0) (v := 16384) (f := fun _ => 0) (by omega) (fun i hi => ?_)).trans rfl
      rw [← hL, catB, if_pos (by omega)]; rfl
    have hBr2 : ∀ i, i < 0 + 4 + (16384 + 0) → 0 ≤ Lo i ∧ Lo i ≤ 255 := by
      intro i hi
      rw [← hL, catB]
      split
      · rw [putB, if_neg (by omega)]; omega
      · omega
    have good : partOk (0 + 4 + (16384 + 0)) Lo 0 = true := by
      simp only [partOk, hV2, Bool.and_eq_true, decide_eq_true_eq, getE]
      simp
    refine S_GetPart (f := Lo) 0 (n := 0 + 4 + (16384 + 0)) (Shows.sl rfl (by omega) (fun i hi => by simp)) (by omega) hBr2 (fun h => by rw [good] at h; cases h) (fun _ cap4 => ?_)
    rw [hV2]
    conv => whnf
    refine S_wakes10 ?_
    conv => whnf

theorem S_row_BinEnds (avs : List AV) (h : okVs [.sl 1 (.int .u8), .int .i64, .int .i64] avs) : ∃ avs', Retold avs avs' ∧ ACall Pg F_witanlaw10_BinEnds avs' [] (fun x _ => x = .bool true) := by
  obtain ⟨a, _, rfl, h1, b, _, rfl, h2, c, _, rfl, h3, rfl⟩ := h
  obtain ⟨n, c1, f, r1, _, _, hf⟩ := ok_bytes h1
  obtain ⟨v, rfl, _⟩ := ok_int h2
  obtain ⟨p, rfl, _⟩ := ok_int h3
  exact ⟨_, .cons r1 (.cons (Retold1.refl _) (.cons (Retold1.refl _) .nil)), S_BinEnds n c1 f v p hf⟩
end Go.Proofs.Ytdobchoiiihfiaa
