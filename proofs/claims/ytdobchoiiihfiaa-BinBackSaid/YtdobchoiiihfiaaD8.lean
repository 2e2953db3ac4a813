/- Parts read; no condition. -/
import Derived.Test.YtdobchoiiihfiaaD7
set_option linter.unusedVariables false
set_option linter.unusedSimpArgs false
set_option maxRecDepth 100000
set_option pp.maxSteps 300
namespace Go.Proofs.Ytdobchoiiihfiaa
open Go Go.Wit

/-- The length that is read, and whether it is one. -/
def partV (f : Nat → Int) (pos : Int) : Int := getV f pos.toNat 4
def partOk (n : Nat) (f : Nat → Int) (pos : Int) : Bool := decide (getE n pos 4 = 0) && (decide (partV f pos ≤ 16384) && decide (partV f pos ≤ n - (pos + 4)))
def partE (n : Nat) (pos : Int) : Int := if getE n pos 4 = 0 then 7 else getE n pos 4

theorem S_GetPart0 (n cap : Nat) (f : Nat → Int) (pos : Int) (hn : n ≤ 140737488300000) (hf : ∀ i, i < n → 0 ≤ f i ∧ f i ≤ 255) : ACall Pg F_bin_GetPart [.vsl 1 n cap (bytesG f), .int .i64 pos] []
    (fun r m' => ∃ n' f' x vs, r = .tup (x :: vs) ∧ (if partOk n f pos then n' = (partV f pos).toNat ∧ f' = (fun i => f (i + (pos.toNat + 4))) ∧ vs = [.int .i64 (pos + 4 + partV f pos), .int .i64 0] else n' = 0 ∧ vs = [.int .i64 0, .int .i64 (partE n pos)]) ∧ RetB n' f' x m' ∧ Flats true vs) := by
  refine B_bin_GetPart ⟨rfl, ?_⟩
  conv => whnf
  refine S_Get (f := f) pos 4 Shows.vsl (by omega) hf ?_
  have hbad : partOk n f pos = false → ∀ e, e = partE n pos → ∃ n' f' x vs, AV.tup [.nils, .int .i64 0, .int .i64 e] = .tup (x :: vs) ∧ (if partOk n f pos then n' = (partV f pos).toNat ∧ f' = (fun i => f (i + (pos.toNat + 4))) ∧ vs = [.int .i64 (pos + 4 + partV f pos), .int .i64 0] else n' = 0 ∧ vs = [.int .i64 0, .int .i64 (partE n pos)]) ∧ RetB n' f' x [] ∧ Flats true vs := by
    rintro h e rfl
    exact ⟨0, fun _ => 0, .nils, _, rfl, by rw [if_neg (by simp [h])]; exact ⟨rfl, rfl⟩, .inl ⟨rfl, rfl⟩, .cons _ _ (.int _ _) (.cons _ _ (.int _ _) .nil)⟩
  by_cases he : getE n pos 4 = 0
  · have hr : 0 ≤ pos ∧ pos + 4 ≤ n := by
      unfold getE at he
      split at he
      · rename_i h1; simp at h1; split at he
        · omega
        · omega
      · omega
    rw [getR, if_pos he]
    conv => whnf
    rw [show getV f pos.toNat (Int.toNat 4) = partV f pos from rfl]
    have hV : 0 ≤ partV f pos := (getV_lt (f := f) (p := pos.toNat) (k := 4) (fun i hi => hf i (by omega))).1
    refine condB_mk (fun h1 => ?_) (fun h1 => ?_)
    rotate_left
    · conv => whnf
      have h1 : ¬ partV f pos ≤ 16384 := by simp at h1; omega
      exact hbad (by simp [partOk, h1]) _ (by rw [partE, if_pos he])
    have h1 : partV f pos ≤ 16384 := by simp at h1; omega
    conv => whnf
    rw [w64 (n := (n : Int) - (pos + 4)) (by omega) (by omega)]
    refine condB_mk (fun h2 => ?_) (fun h2 => ?_)
    · conv => whnf
      have h2 : ¬ partV f pos ≤ n - (pos + 4) := by simp at h2; omega
      exact hbad (by simp [partOk, h2]) _ (by rw [partE, if_pos he])
    have h2 : partV f pos ≤ n - (pos + 4) := by simp at h2; omega
    have hok : partOk n f pos = true := by simp [partOk, he, h1, h2]
    have hfin : ∀ (c : Nat), (∃ n' f' x vs, AV.tup [.sl 0 0 (partV f pos).toNat c, .int .i64 (pos + 4 + partV f pos), .int .i64 0] = .tup (x :: vs) ∧ (if partOk n f pos then n' = (partV f pos).toNat ∧ f' = (fun i => f (i + (pos.toNat + 4))) ∧ vs = [.int .i64 (pos + 4 + partV f pos), .int .i64 0] else n' = 0 ∧ vs = [.int .i64 0, .int .i64 (partE n pos)]) ∧ RetB n' f' x [some ⟨1, (partV f pos).toNat, bytesG (fun i => f (i + (pos.toNat + 4)))⟩] ∧ Flats true vs) := by
      intro c
      refine ⟨(partV f pos).toNat, fun i => f (i + (pos.toNat + 4)), _, _, rfl, by rw [if_pos hok]; exact ⟨rfl, rfl, rfl⟩, .inr ⟨0, c, _, _, rfl, rfl, Nat.le_refl _, fun i hi => rfl⟩, .cons _ _ (.int _ _) (.cons _ _ (.int _ _) .nil)⟩
    generalize hVV : partV f pos = V at *
    obtain ⟨V, rfl⟩ : ∃ v : Nat, V = v := ⟨V.toNat, by omega⟩
    obtain ⟨p, rfl⟩ : ∃ p : Nat, pos = p := ⟨pos.toNat, by omega⟩
    have hw : IntKind.i64.wrap ((p : Int) + 4 + V) = ((p + 4 + V : Nat) : Int) := by rw [w64 (n := (p : Int) + 4 + V) (by omega) (by omega)]; omega
    have hp4 : ((p : Int) + 4) = ((p + 4 : Nat) : Int) := by omega
    conv => whnf
    rw [hw, hp4]
    refine condB_ok ?_ ?_
    · simp only [hp4, hw, Int.toNat_natCast, Bool.and_eq_true, Bool.or_eq_true, decide_eq_true_eq]; exact ⟨⟨trivial, ⟨by omega, .inl (by omega)⟩, by omega, by omega⟩, by omega⟩
    simp only [Int.toNat_natCast, Nat.add_sub_cancel_left]
    conv => whnf
    refine S_clone (n := V) (f := fun i => f (i + (p + 4))) (Shows.vsl (cap := cap - (p + 4))) (by omega) (fun c => ?_)
    conv => whnf
    have e3 : IntKind.i64.wrap (((p + 4 : Nat) : Int) + V) = (p : Int) + 4 + V := by rw [w64 (by omega) (by omega)]; omega
    rw [e3]
    exact hfin c
  · rw [getR, if_neg he]
    conv => whnf
    refine condB_mk (fun h1 => ?_) (fun h1 => ?_)
    · conv => whnf
      exact hbad (by simp [partOk, he]) _ (by rw [partE, if_neg he])
    · exfalso; simp at h1; exact he h1

theorem S_GetPart {m : Mem} {x : AV} {n : Nat} {f : Nat → Int} {K : AV → Mem → Prop} (pos : Int) (hx : Shows m x n f) (hn : n ≤ 140737488300000) (hf : ∀ i, i < n → 0 ≤ f i ∧ f i ≤ 255)
    (h0 : partOk n f pos = false → ∀ cap f', memK (m ++ [some ⟨1, 0, bytesG f'⟩]) (K (.tup [.sl m.length 0 0 cap, .int .i64 0, .int .i64 (partE n pos)])))
    (h1 : partOk n f pos = true → ∀ cap, memK (m ++ [some ⟨1, (partV f pos).toNat, bytesG (fun i => f (i + (pos.toNat + 4)))⟩]) (K (.tup [.sl m.length 0 (partV f pos).toNat cap, .int .i64 (pos + 4 + partV f pos), .int .i64 0]))) : ACall Pg F_bin_GetPart [x, .int .i64 pos] m K := by
  simp only [memK_eq] at h0 h1
  obtain ⟨c1, hl⟩ := hx
  refine lift_tup (S_GetPart0 n c1 f pos hn hf) (.cons _ _ _ _ hl (.cons _ _ _ _ lend_int .nil)) ?_
  intro n' f' cap' vs hR
  cases hp : partOk n f pos
  · rw [if_neg (by simp [hp])] at hR
    obtain ⟨rfl, rfl⟩ := hR
    exact h0 hp cap' f'
  · rw [if_pos hp] at hR
    obtain ⟨rfl, rfl, rfl⟩ := hR
    exact h1 hp cap'

theorem S_refGetPart0 (n cap : Nat) (f : Nat → Int) (pos : Int) (hn : n ≤ 140737488300000) (hf : ∀ i, i < n → 0 ≤ f i ∧ f i ≤ 255) : ACall Pg F_witanref10_GetPart [.vsl 1 n cap (bytesG f), .int .i64 pos] []
    (fun r m' => ∃ n' f' x vs, r = .tup (x :: vs) ∧ (if partOk n f pos then n' = (partV f pos).toNat ∧ f' = (fun i => f (i + (pos.toNat + 4))) ∧ vs = [.int .i64 (pos + 4 + partV f pos), .int .i64 0] else n' = 0 ∧ vs = [.int .i64 0, .int .i64 (partE n pos)]) ∧ RetB n' f' x m' ∧ Flats true vs) := by
  refine B_witanref10_GetPart ⟨rfl, ?_⟩
  conv => whnf
  refine S_refGet (f := f) pos 4 Shows.vsl (by omega) hf ?_
  have hbad : partOk n f pos = false → ∀ e, e = partE n pos → ∃ n' f' x vs, AV.tup [.nils, .int .i64 0, .int .i64 e] = .tup (x :: vs) ∧ (if partOk n f pos then n' = (partV f pos).toNat ∧ f' = (fun i => f (i + (pos.toNat + 4))) ∧ vs = [.int .i64 (pos + 4 + partV f pos), .int .i64 0] else n' = 0 ∧ vs = [.int .i64 0, .int .i64 (partE n pos)]) ∧ RetB n' f' x [] ∧ Flats true vs := by
    rintro h e rfl
    exact ⟨0, fun _ => 0, .nils, _, rfl, by rw [if_neg (by simp [h])]; exact ⟨rfl, rfl⟩, .inl ⟨rfl, rfl⟩, .cons _ _ (.int _ _) (.cons _ _ (.int _ _) .nil)⟩
  by_cases he : getE n pos 4 = 0
  · have hr : 0 ≤ pos ∧ pos + 4 ≤ n := by
      unfold getE at he
      split at he
      · rename_i h1; simp at h1; split at he
        · omega
        · omega
      · omega
    rw [getR, if_pos he]
    conv => whnf
    rw [show getV f pos.toNat (Int.toNat 4) = partV f pos from rfl]
    have hV : 0 ≤ partV f pos := (getV_lt (f := f) (p := pos.toNat) (k := 4) (fun i hi => hf i (by omega))).1
    refine condB_mk (fun h1 => ?_) (fun h1 => ?_)
    rotate_left
    · conv => whnf
      have h1 : ¬ partV f pos ≤ 16384 := by simp at h1; omega
      exact hbad (by simp [partOk, h1]) _ (by rw [partE, if_pos he])
    have h1 : partV f pos ≤ 16384 := by simp at h1; omega
    conv => whnf
    rw [w64 (n := (n : Int) - (pos + 4)) (by omega) (by omega)]
    refine condB_mk (fun h2 => ?_) (fun h2 => ?_)
    · conv => whnf
      have h2 : ¬ partV f pos ≤ n - (pos + 4) := by simp at h2; omega
      exact hbad (by simp [partOk, h2]) _ (by rw [partE, if_pos he])
    have h2 : partV f pos ≤ n - (pos + 4) := by simp at h2; omega
    have hok : partOk n f pos = true := by simp [partOk, he, h1, h2]
    have hfin : ∀ (c : Nat), (∃ n' f' x vs, AV.tup [.sl 0 0 (partV f pos).toNat c, .int .i64 (pos + 4 + partV f pos), .int .i64 0] = .tup (x :: vs) ∧ (if partOk n f pos then n' = (partV f pos).toNat ∧ f' = (fun i => f (i + (pos.toNat + 4))) ∧ vs = [.int .i64 (pos + 4 + partV f pos), .int .i64 0] else n' = 0 ∧ vs = [.int .i64 0, .int .i64 (partE n pos)]) ∧ RetB n' f' x [some ⟨1, (partV f pos).toNat, bytesG (fun i => f (i + (pos.toNat + 4)))⟩] ∧ Flats true vs) := by
      intro c
      refine ⟨(partV f pos).toNat, fun i => f (i + (pos.toNat + 4)), _, _, rfl, by rw [if_pos hok]; exact ⟨rfl, rfl, rfl⟩, .inr ⟨0, c, _, _, rfl, rfl, Nat.le_refl _, fun i hi => rfl⟩, .cons _ _ (.int _ _) (.cons _ _ (.int _ _) .nil)⟩
    generalize hVV : partV f pos = V at *
    obtain ⟨V, rfl⟩ : ∃ v : Nat, V = v := ⟨V.toNat, by omega⟩
    obtain ⟨p, rfl⟩ : ∃ p : Nat, pos = p := ⟨pos.toNat, by omega⟩
    have hw : IntKind.i64.wrap ((p : Int) + 4 + V) = ((p + 4 + V : Nat) : Int) := by rw [w64 (n := (p : Int) + 4 + V) (by omega) (by omega)]; omega
    have hp4 : ((p : Int) + 4) = ((p + 4 : Nat) : Int) := by omega
    conv => whnf
    rw [hw, hp4]
    refine condB_ok ?_ ?_
    · simp only [hp4, hw, Int.toNat_natCast, Bool.and_eq_true, Bool.or_eq_true, decide_eq_true_eq]; exact ⟨⟨trivial, ⟨by omega, .inl (by omega)⟩, by omega, by omega⟩, by omega⟩
    simp only [Int.toNat_natCast, Nat.add_sub_cancel_left]
    conv => whnf
    refine S_Twin (n := V) (f := fun i => f (i + (p + 4))) (Shows.vsl (cap := cap - (p + 4))) (by omega) (fun c => ?_)
    conv => whnf
    have e3 : IntKind.i64.wrap (((p + 4 : Nat) : Int) + V) = (p : Int) + 4 + V := by rw [w64 (by omega) (by omega)]; omega
    rw [e3]
    exact hfin c
  · rw [getR, if_neg he]
    conv => whnf
    refine condB_mk (fun h1 => ?_) (fun h1 => ?_)
    · conv => whnf
      exact hbad (by simp [partOk, he]) _ (by rw [partE, if_neg he])
    · exfalso; simp at h1; exact he h1

theorem S_refGetPart {m : Mem} {x : AV} {n : Nat} {f : Nat → Int} {K : AV → Mem → Prop} (pos : Int) (hx : Shows m x n f) (hn : n ≤ 140737488300000) (hf : ∀ i, i < n → 0 ≤ f i ∧ f i ≤ 255)
    (h0 : partOk n f pos = false → ∀ cap f', memK (m ++ [some ⟨1, 0, bytesG f'⟩]) (K (.tup [.sl m.length 0 0 cap, .int .i64 0, .int .i64 (partE n pos)])))
    (h1 : partOk n f pos = true → ∀ cap, memK (m ++ [some ⟨1, (partV f pos).toNat, bytesG (fun i => f (i + (pos.toNat + 4)))⟩]) (K (.tup [.sl m.length 0 (partV f pos).toNat cap, .int .i64 (pos + 4 + partV f pos), .int .i64 0]))) : ACall Pg F_witanref10_GetPart [x, .int .i64 pos] m K := by
  simp only [memK_eq] at h0 h1
  obtain ⟨c1, hl⟩ := hx
  refine lift_tup (S_refGetPart0 n c1 f pos hn hf) (.cons _ _ _ _ hl (.cons _ _ _ _ lend_int .nil)) ?_
  intro n' f' cap' vs hR
  cases hp : partOk n f pos
  · rw [if_neg (by simp [hp])] at hR
    obtain ⟨rfl, rfl⟩ := hR
    exact h0 hp cap' f'
  · rw [if_pos hp] at hR
    obtain ⟨rfl, rfl, rfl⟩ := hR
    exact h1 hp cap'

end Go.Proofs.Ytdobchoiiihfiaa
