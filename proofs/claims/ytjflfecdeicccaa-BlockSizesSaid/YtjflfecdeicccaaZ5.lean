/- Texts of a proof, one behind the other; the last of these: The reference sum; no condition. -/
import Derived.Test.YtjflfecdeicccaaZ4
section
/- Parts: a length ahead of bytes; no condition. -/
set_option linter.unusedVariables false
set_option linter.unusedSimpArgs false
set_option maxRecDepth 100000
set_option pp.maxSteps 300
namespace Go.Proofs.Ytjflfecdeicccaa
open Go Go.Wit

/-- Bytes behind bytes. -/
def catB (n : Nat) (f g : Nat → Int) (i : Nat) : Int := if i < n then f i else g (i - n)

theorem S_PutPart0 (n c1 k c2 : Nat) (f g : Nat → Int) (hn : n ≤ 140737488300000) : ACall Pg F_bin_PutPart [.vsl 1 n c1 (bytesG f), .vsl 1 k c2 (bytesG g)] []
    (fun r m' => ∃ n' f' x vs, r = .tup (x :: vs) ∧ (if k ≤ 16384 then n' = n + 4 + k ∧ f' = catB (n + 4) (putB n f k 4) g ∧ vs = [.int .i64 0] else n' = 0 ∧ vs = [.int .i64 4]) ∧ RetB n' f' x m' ∧ Flats true vs) := by
  refine B_bin_PutPart ⟨rfl, ?_⟩
  conv => whnf
  refine condB_mk (fun h1 => ?_) (fun h1 => ?_)
  · conv => whnf
    have h1 : ¬ k ≤ 16384 := by simp at h1; omega
    exact ⟨0, fun _ => 0, .nils, _, rfl, by rw [if_neg h1]; exact ⟨rfl, rfl⟩, .inl ⟨rfl, rfl⟩, .cons _ _ (.int _ _) .nil⟩
  have h1 : k ≤ 16384 := by simp at h1; omega
  conv => whnf
  have hok : putOk k 4 = true := by simp [putOk]; omega
  refine S_Put (f := f) k 4 Shows.vsl (by omega) (fun h => by rw [hok] at h; cases h) (fun _ cap => ?_)
  rw [show Int.toNat 4 = 4 from rfl]
  conv => whnf
  refine condB_ok (app_ok (decide_eq_true (Nat.le_refl _)) rfl rfl (by omega) (by omega)) (fun cap' hcap => ?_)
  conv => whnf
  refine ⟨n + 4 + k, catB (n + 4) (putB n f k 4) g, _, _, rfl, by rw [if_pos h1]; exact ⟨rfl, rfl, rfl⟩, .inr ⟨1, cap', _, _, rfl, rfl, Nat.le_refl _, fun i hi => ?_⟩, .cons _ _ (.int _ _) .nil⟩
  by_cases hin : i < n + 4
  · rw [catG_lt hin, catB, if_pos hin]; rfl
  · rw [catG_ge (by omega), catB, if_neg hin]; rfl

theorem S_refPutPart0 (n c1 k c2 : Nat) (f g : Nat → Int) (hn : n ≤ 140737488300000) : ACall Pg F_witanref10_PutPart [.vsl 1 n c1 (bytesG f), .vsl 1 k c2 (bytesG g)] []
    (fun r m' => ∃ n' f' x vs, r = .tup (x :: vs) ∧ (if k ≤ 16384 then n' = n + 4 + k ∧ f' = catB (n + 4) (putB n f k 4) g ∧ vs = [.int .i64 0] else n' = 0 ∧ vs = [.int .i64 4]) ∧ RetB n' f' x m' ∧ Flats true vs) := by
  refine B_witanref10_PutPart ⟨rfl, ?_⟩
  conv => whnf
  refine condB_mk (fun h1 => ?_) (fun h1 => ?_)
  · conv => whnf
    have h1 : ¬ k ≤ 16384 := by simp at h1; omega
    exact ⟨0, fun _ => 0, .nils, _, rfl, by rw [if_neg h1]; exact ⟨rfl, rfl⟩, .inl ⟨rfl, rfl⟩, .cons _ _ (.int _ _) .nil⟩
  have h1 : k ≤ 16384 := by simp at h1; omega
  conv => whnf
  have hok : putOk k 4 = true := by simp [putOk]; omega
  refine S_refPut (f := f) k 4 Shows.vsl (by omega) (by omega) (fun h => by rw [hok] at h; cases h) (fun _ cap => ?_)
  rw [show Int.toNat 4 = 4 from rfl]
  conv => whnf
  refine condB_ok (app_ok (decide_eq_true (Nat.le_refl _)) rfl rfl (by omega) (by omega)) (fun cap' hcap => ?_)
  conv => whnf
  refine ⟨n + 4 + k, catB (n + 4) (putB n f k 4) g, _, _, rfl, by rw [if_pos h1]; exact ⟨rfl, rfl, rfl⟩, .inr ⟨1, cap', _, _, rfl, rfl, Nat.le_refl _, fun i hi => ?_⟩, .cons _ _ (.int _ _) .nil⟩
  by_cases hin : i < n + 4
  · rw [catG_lt hin, catB, if_pos hin]; rfl
  · rw [catG_ge (by omega), catB, if_neg hin]; rfl

end Go.Proofs.Ytjflfecdeicccaa
end

section
/- Parts read; no condition. -/
set_option linter.unusedVariables false
set_option linter.unusedSimpArgs false
set_option maxRecDepth 100000
set_option pp.maxSteps 300
namespace Go.Proofs.Ytjflfecdeicccaa
open Go Go.Wit

/-- The length that is read, and whether it is one. -/
def partV (f : Nat → Int) (pos : Int) : Int := getV f pos.toNat 4
def partOk (n : Nat) (f : Nat → Int) (pos : Int) : Bool := decide (getE n pos 4 = 0) && (decide (partV f pos ≤ 16384) && decide (partV f pos ≤ n - (pos + 4)))
def partE (n : Nat) (pos : Int) : Int := if getE n pos 4 = 0 then 7 else getE n pos 4

theorem S_GetPart0 (n cap : Nat) (f : Nat → Int) (pos : Int) (hn : n ≤ 140737488300000) (hf : ∀ i, i < n → 0 ≤ f i ∧ f i ≤ 255) : ACall Pg F_bin_GetPart [.vsl 1 n cap (bytesG f), .int .i64 pos] []
    (fun r m' => ∃ n' f' x vs, r = .tup (x :: vs) ∧ (if partOk n f pos then n' = (partV f pos).toNat ∧ f' = (fun i => f (i + (pos.toNat + 4))) ∧ vs = [.int .i64 (pos + 4 + partV f pos), .int .i64 0] else n' = 0 ∧ vs = [.int .i64 0, .int .i64 (partE n pos)]) ∧ RetB n' f' x m' ∧ Flats true vs) := by
  refine B_bin_GetPart ⟨rfl, ?_⟩
  conv => whnf
  refine S_Get (f := f) pos 4 Shows.vsl (by omega) hf ?_
  have hbad : partOk n f pos = false → ∀ e, e = partE n pos → ∃ n' f' x vs, AV.tup [.nils, .int .i64 0, .int .i64 e] = .tup (x :: vs) ∧ (if partOk n f pos then n' = (partV f pos).toNat ∧ f' = (fun i => f (i + (pos.toNat + 4))) ∧ vs = [.int .i64 (pos + 4 + partV f pos), .int .i64 0] else n' = 0 ∧ vs = [.int .i64 0, .int .i64 (partE n pos)]) ∧ RetB n' f' x [] ∧ Flats true vs := by
    rintro h e rfl
    exact ⟨0, fun _ => 0, .nils, _, rfl, by rw [if_neg (by simp [h])]; exact ⟨rfl, rfl⟩, .inl ⟨rfl, rfl⟩, .cons _ _ (.int _ _) (.cons _ _ (.int _ _) .nil)⟩
  by_cases he : getE n pos 4 = 0
  · have hr : 0 ≤ pos ∧ pos + 4 ≤ n := by
      unfold getE at he
      split at he
      · rename_i h1; simp at h1; split at he
        · omega
        · omega
      · omega
    rw [getR, if_pos he]
    conv => whnf
    rw [show getV f pos.toNat (Int.toNat 4) = partV f pos from rfl]
    have hV : 0 ≤ partV f pos := (getV_lt (f := f) (p := pos.toNat) (k := 4) (fun i hi => hf i (by omega))).1
    refine condB_mk (fun h1 => ?_) (fun h1 => ?_)
    rotate_left
    · conv => whnf
      have h1 : ¬ partV f pos ≤ 16384 := by simp at h1; omega
      exact hbad (by simp [partOk, h1]) _ (by rw [partE, if_pos he])
    have h1 : partV f pos ≤ 16384 := by simp at h1; omega
    conv => whnf
    rw [w64 (n := (n : Int) - (pos + 4)) (by omega) (by omega)]
    refine condB_mk (fun h2 => ?_) (fun h2 => ?_)
    · conv => whnf
      have h2 : ¬ partV f pos ≤ n - (pos + 4) := by simp at h2; omega
      exact hbad (by simp [partOk, h2]) _ (by rw [partE, if_pos he])
    have h2 : partV f pos ≤ n - (pos + 4) := by simp at h2; omega
    have hok : partOk n f pos = true := by simp [partOk, he, h1, h2]
    have hfin : ∀ (c : Nat), (∃ n' f' x vs, AV.tup [.sl 0 0 (partV f pos).toNat c, .int .i64 (pos + 4 + partV f pos), .int .i64 0] = .tup (x :: vs) ∧ (if partOk n f pos then n' = (partV f pos).toNat ∧ f' = (fun i => f (i + (pos.toNat + 4))) ∧ vs = [.int .i64 (pos + 4 + partV f pos), .int .i64 0] else n' = 0 ∧ vs = [.int .i64 0, .int .i64 (partE n pos)]) ∧ RetB n' f' x [some ⟨1, (partV f pos).toNat, bytesG (fun i => f (i + (pos.toNat + 4)))⟩] ∧ Flats true vs) := by
      intro c
      refine ⟨(partV f pos).toNat, fun i => f (i + (pos.toNat + 4)), _, _, rfl, by rw [if_pos hok]; exact ⟨rfl, rfl, rfl⟩, .inr ⟨0, c, _, _, rfl, rfl, Nat.le_refl _, fun i hi => rfl⟩, .cons _ _ (.int _ _) (.cons _ _ (.int _ _) .nil)⟩
    generalize hVV : partV f pos = V at *
    obtain ⟨V, rfl⟩ : ∃ v : Nat, V = v := ⟨V.toNat, by omega⟩
    obtain ⟨p, rfl⟩ : ∃ p : Nat, pos = p := ⟨pos.toNat, by omega⟩
    have hw : IntKind.i64.wrap ((p : Int) + 4 + V) = ((p + 4 + V : Nat) : Int) := by rw [w64 (n := (p : Int) + 4 + V) (by omega) (by omega)]; omega
    have hp4 : ((p : Int) + 4) = ((p + 4 : Nat) : Int) := by omega
    conv => whnf
    rw [hw, hp4]
    refine condB_ok ?_ ?_
    · simp only [hp4, hw, Int.toNat_natCast, Bool.and_eq_true, Bool.or_eq_true, decide_eq_true_eq]; exact ⟨⟨trivial, ⟨by omega, .inl (by omega)⟩, by omega, by omega⟩, by omega⟩
    simp only [Int.toNat_natCast, Nat.add_sub_cancel_left]
    conv => whnf
    refine S_clone (n := V) (f := fun i => f (i + (p + 4))) (Shows.vsl (cap := cap - (p + 4))) (by omega) (fun c => ?_)
    conv => whnf
    have e3 : IntKind.i64.wrap (((p + 4 : Nat) : Int) + V) = (p : Int) + 4 + V := by rw [w64 (by omega) (by omega)]; omega
    rw [e3]
    exact hfin c
  · rw [getR, if_neg he]
    conv => whnf
    refine condB_mk (fun h1 => ?_) (fun h1 => ?_)
    · conv => whnf
      exact hbad (by simp [partOk, he]) _ (by rw [partE, if_neg he])
    · exfalso; simp at h1; exact he h1

theorem S_GetPart {m : Mem} {x : AV} {n : Nat} {f : Nat → Int} {K : AV → Mem → Prop} (pos : Int) (hx : Shows m x n f) (hn : n ≤ 140737488300000) (hf : ∀ i, i < n → 0 ≤ f i ∧ f i ≤ 255)
    (h0 : partOk n f pos = false → ∀ cap f', memK (m ++ [some ⟨1, 0, bytesG f'⟩]) (K (.tup [.sl m.length 0 0 cap, .int .i64 0, .int .i64 (partE n pos)])))
    (h1 : partOk n f pos = true → ∀ cap, memK (m ++ [some ⟨1, (partV f pos).toNat, bytesG (fun i => f (i + (pos.toNat + 4)))⟩]) (K (.tup [.sl m.length 0 (partV f pos).toNat cap, .int .i64 (pos + 4 + partV f pos), .int .i64 0]))) : ACall Pg F_bin_GetPart [x, .int .i64 pos] m K := by
  simp only [memK_eq] at h0 h1
  obtain ⟨c1, hl⟩ := hx
  refine lift_tup (S_GetPart0 n c1 f pos hn hf) (.cons _ _ _ _ hl (.cons _ _ _ _ lend_int .nil)) ?_
  intro n' f' cap' vs hR
  cases hp : partOk n f pos
  · rw [if_neg (by simp [hp])] at hR
    obtain ⟨rfl, rfl⟩ := hR
    exact h0 hp cap' f'
  · rw [if_pos hp] at hR
    obtain ⟨rfl, rfl, rfl⟩ := hR
    exact h1 hp cap'

theorem S_refGetPart0 (n cap : Nat) (f : Nat → Int) (pos : Int) (hn : n ≤ 140737488300000) (hf : ∀ i, i < n → 0 ≤ f i ∧ f i ≤ 255) : ACall Pg F_witanref10_GetPart [.vsl 1 n cap (bytesG f), .int .i64 pos] []
    (fun r m' => ∃ n' f' x vs, r = .tup (x :: vs) ∧ (if partOk n f pos then n' = (partV f pos).toNat ∧ f' = (fun i => f (i + (pos.toNat + 4))) ∧ vs = [.int .i64 (pos + 4 + partV f pos), .int .i64 0] else n' = 0 ∧ vs = [.int .i64 0, .int .i64 (partE n pos)]) ∧ RetB n' f' x m' ∧ Flats true vs) := by
  refine B_witanref10_GetPart ⟨rfl, ?_⟩
  conv => whnf
  refine S_refGet (f := f) pos 4 Shows.vsl (by omega) hf ?_
  have hbad : partOk n f pos = false → ∀ e, e = partE n pos → ∃ n' f' x vs, AV.tup [.nils, .int .i64 0, .int .i64 e] = .tup (x :: vs) ∧ (if partOk n f pos then n' = (partV f pos).toNat ∧ f' = (fun i => f (i + (pos.toNat + 4))) ∧ vs = [.int .i64 (pos + 4 + partV f pos), .int .i64 0] else n' = 0 ∧ vs = [.int .i64 0, .int .i64 (partE n pos)]) ∧ RetB n' f' x [] ∧ Flats true vs := by
    rintro h e rfl
    exact ⟨0, fun _ => 0, .nils, _, rfl, by rw [if_neg (by simp [h])]; exact ⟨rfl, rfl⟩, .inl ⟨rfl, rfl⟩, .cons _ _ (.int _ _) (.cons _ _ (.int _ _) .nil)⟩
  by_cases he : getE n pos 4 = 0
  · have hr : 0 ≤ pos ∧ pos + 4 ≤ n := by
      unfold getE at he
      split at he
      · rename_i h1; simp at h1; split at he
        · omega
        · omega
      · omega
    rw [getR, if_pos he]
    conv => whnf
    rw [show getV f pos.toNat (Int.toNat 4) = partV f pos from rfl]
    have hV : 0 ≤ partV f pos := (getV_lt (f := f) (p := pos.toNat) (k := 4) (fun i hi => hf i (by omega))).1
    refine condB_mk (fun h1 => ?_) (fun h1 => ?_)
    rotate_left
    · conv => whnf
      have h1 : ¬ partV f pos ≤ 16384 := by simp at h1; omega
      exact hbad (by simp [partOk, h1]) _ (by rw [partE, if_pos he])
    have h1 : partV f pos ≤ 16384 := by simp at h1; omega
    conv => whnf
    rw [w64 (n := (n : Int) - (pos + 4)) (by omega) (by omega)]
    refine condB_mk (fun h2 => ?_) (fun h2 => ?_)
    · conv => whnf
      have h2 : ¬ partV f pos ≤ n - (pos + 4) := by simp at h2; omega
      exact hbad (by simp [partOk, h2]) _ (by rw [partE, if_pos he])
    have h2 : partV f pos ≤ n - (pos + 4) := by simp at h2; omega
    have hok : partOk n f pos = true := by simp [partOk, he, h1, h2]
    have hfin : ∀ (c : Nat), (∃ n' f' x vs, AV.tup [.sl 0 0 (partV f pos).toNat c, .int .i64 (pos + 4 + partV f pos), .int .i64 0] = .tup (x :: vs) ∧ (if partOk n f pos then n' = (partV f pos).toNat ∧ f' = (fun i => f (i + (pos.toNat + 4))) ∧ vs = [.int .i64 (pos + 4 + partV f pos), .int .i64 0] else n' = 0 ∧ vs = [.int .i64 0, .int .i64 (partE n pos)]) ∧ RetB n' f' x [some ⟨1, (partV f pos).toNat, bytesG (fun i => f (i + (pos.toNat + 4)))⟩] ∧ Flats true vs) := by
      intro c
      refine ⟨(partV f pos).toNat, fun i => f (i + (pos.toNat + 4)), _, _, rfl, by rw [if_pos hok]; exact ⟨rfl, rfl, rfl⟩, .inr ⟨0, c, _, _, rfl, rfl, Nat.le_refl _, fun i hi => rfl⟩, .cons _ _ (.int _ _) (.cons _ _ (.int _ _) .nil)⟩
    generalize hVV : partV f pos = V at *
    obtain ⟨V, rfl⟩ : ∃ v : Nat, V = v := ⟨V.toNat, by omega⟩
    obtain ⟨p, rfl⟩ : ∃ p : Nat, pos = p := ⟨pos.toNat, by omega⟩
    have hw : IntKind.i64.wrap ((p : Int) + 4 + V) = ((p + 4 + V : Nat) : Int) := by rw [w64 (n := (p : Int) + 4 + V) (by omega) (by omega)]; omega
    have hp4 : ((p : Int) + 4) = ((p + 4 : Nat) : Int) := by omega
    conv => whnf
    rw [hw, hp4]
    refine condB_ok ?_ ?_
    · simp only [hp4, hw, Int.toNat_natCast, Bool.and_eq_true, Bool.or_eq_true, decide_eq_true_eq]; exact ⟨⟨trivial, ⟨by omega, .inl (by omega)⟩, by omega, by omega⟩, by omega⟩
    simp only [Int.toNat_natCast, Nat.add_sub_cancel_left]
    conv => whnf
    refine S_Twin (n := V) (f := fun i => f (i + (p + 4))) (Shows.vsl (cap := cap - (p + 4))) (by omega) (fun c => ?_)
    conv => whnf
    have e3 : IntKind.i64.wrap (((p + 4 : Nat) : Int) + V) = (p : Int) + 4 + V := by rw [w64 (by omega) (by omega)]; omega
    rw [e3]
    exact hfin c
  · rw [getR, if_neg he]
    conv => whnf
    refine condB_mk (fun h1 => ?_) (fun h1 => ?_)
    · conv => whnf
      exact hbad (by simp [partOk, he]) _ (by rw [partE, if_neg he])
    · exfalso; simp at h1; exact he h1

theorem S_refGetPart {m : Mem} {x : AV} {n : Nat} {f : Nat → Int} {K : AV → Mem → Prop} (pos : Int) (hx : Shows m x n f) (hn : n ≤ 140737488300000) (hf : ∀ i, i < n → 0 ≤ f i ∧ f i ≤ 255)
    (h0 : partOk n f pos = false → ∀ cap f', memK (m ++ [some ⟨1, 0, bytesG f'⟩]) (K (.tup [.sl m.length 0 0 cap, .int .i64 0, .int .i64 (partE n pos)])))
    (h1 : partOk n f pos = true → ∀ cap, memK (m ++ [some ⟨1, (partV f pos).toNat, bytesG (fun i => f (i + (pos.toNat + 4)))⟩]) (K (.tup [.sl m.length 0 (partV f pos).toNat cap, .int .i64 (pos + 4 + partV f pos), .int .i64 0]))) : ACall Pg F_witanref10_GetPart [x, .int .i64 pos] m K := by
  simp only [memK_eq] at h0 h1
  obtain ⟨c1, hl⟩ := hx
  refine lift_tup (S_refGetPart0 n c1 f pos hn hf) (.cons _ _ _ _ hl (.cons _ _ _ _ lend_int .nil)) ?_
  intro n' f' cap' vs hR
  cases hp : partOk n f pos
  · rw [if_neg (by simp [hp])] at hR
    obtain ⟨rfl, rfl⟩ := hR
    exact h0 hp cap' f'
  · rw [if_pos hp] at hR
    obtain ⟨rfl, rfl, rfl⟩ := hR
    exact h1 hp cap'

end Go.Proofs.Ytjflfecdeicccaa
end

section
/- What a block's bytes are, and what bytes are read as; no condition. -/
set_option linter.unusedVariables false
set_option linter.unusedSimpArgs false
set_option maxRecDepth 100000
set_option pp.maxSteps 3000
namespace Go.Proofs.Ytjflfecdeicccaa
open Go Go.Wit

theorem getV_congr {f g : Nat → Int} {p : Nat} : ∀ {k : Nat}, (∀ i, i < k → f (p + i) = g (p + i)) → getV f p k = getV g p k
  | 0, _ => rfl
  | k + 1, h => by rw [getV, getV, getV_congr (fun i hi => h i (by omega)), h k (by omega)]

theorem div_step (v d k : Nat) : v / (256 ^ d * 256) % 256 ^ k * 256 + v / 256 ^ d % 256 = v / 256 ^ d % (256 ^ (k + 1)) := by
  rw [← Nat.div_div_eq_div_mul, Nat.pow_succ, Nat.mul_comm (256 ^ k) 256, Nat.mod_mul]
  omega

theorem getV_put {n : Nat} {f : Nat → Int} {v s : Nat} : ∀ {k : Nat}, k ≤ s → getV (putB n f v s) n k = ((v / 256 ^ (s - k) % 256 ^ k : Nat) : Int)
  | 0, _ => by simp [getV, Nat.mod_one]
  | k + 1, h => by
    have e : (2 : Int) ^ (8 * (s - (k + 1))) = ((256 ^ (s - (k + 1)) : Nat) : Int) := by
      rw [show (256 : Nat) = 2 ^ 8 from rfl, ← Nat.pow_mul]; simp
    rw [getV, getV_put (by omega), putB, if_neg (by omega), Int.toNat_natCast]
    rw [show s - 1 - (n + k - n) = s - (k + 1) by omega, e]
    have := div_step v (s - (k + 1)) k
    rw [← Nat.pow_succ, show (s - (k + 1)).succ = s - k by omega] at this
    rw [← this]
    simp

/-- What was put is got. -/
theorem getV_back {n : Nat} {f g : Nat → Int} {v s : Nat} (hv : v < 256 ^ s) (hg : ∀ i, i < s → g (n + i) = putB n f v s (n + i)) : getV g n s = v := by
  rw [getV_congr hg, getV_put (Nat.le_refl _), Nat.sub_self, Nat.pow_zero, Nat.div_one, Nat.mod_eq_of_lt hv]

/-- The digits of what is read are the bytes. -/
theorem getV_digit {f : Nat → Int} {P : Nat} : ∀ {s i : Nat}, i < s → (∀ j, j < s → 0 ≤ f (P + j) ∧ f (P + j) ≤ 255) → (getV f P s / 2 ^ (8 * (s - 1 - i))) % 256 = f (P + i)
  | 0, _, h, _ => absurd h (Nat.not_lt_zero _)
  | s + 1, i, h, hb => by
    have hs := hb s (by omega)
    simp only [getV]
    by_cases hi : i = s
    · subst hi
      rw [show i + 1 - 1 - i = 0 by omega, Nat.mul_zero, Int.pow_zero, Int.ediv_one]
      omega
    · rw [show 8 * (s + 1 - 1 - i) = 8 + 8 * (s - 1 - i) by omega, Int.pow_add, ← Int.ediv_ediv_of_nonneg (by decide)]
      rw [show (getV f P s * 256 + f (P + s)) / 2 ^ 8 = getV f P s by omega]
      exact getV_digit (s := s) (i := i) (by omega) (fun j hj => hb j (by omega))

theorem eqf_of {p : Prop} [Decidable p] (h : (decide p == false) = true) : ¬ p := by simpa using h
theorem neqf_of {p : Prop} [Decidable p] (h : (decide p == false) = false) : p := by simpa using h
theorem eqt_of {p : Prop} [Decidable p] (h : (decide p == true) = true) : p := by simpa using h
theorem neqt_of {p : Prop} [Decidable p] (h : (decide p == true) = false) : ¬ p := by simpa using h

/-- A block's parts. -/
structure Bk where
  p : Int
  h : Int
  s : Int
  t : Nat
  A : Nat → Int
  N : Nat → Nat
  F : Nat → Nat → Int

def bkLen (b : Bk) : Nat → Nat
  | 0 => 41
  | k + 1 => bkLen b k + 5 + b.N k
def bkHead (b : Bk) (q : Nat → Int) : Nat → Int := putB 40 (catB 8 (putB 4 (putB 0 (fun _ => 0) b.h 4) b.s 4) q) b.t 1
def bkF (b : Bk) (q : Nat → Int) : Nat → Nat → Int
  | 0 => bkHead b q
  | k + 1 => catB (bkLen b k + 5) (putB (bkLen b k + 1) (putB (bkLen b k) (bkF b q k) (b.A k) 1) (b.N k) 4) (b.F k)
def bkBad (b : Bk) : Prop := ¬ (-1 ≤ b.p ∧ 1 ≤ b.h ∧ b.h ≤ 1048576 ∧ 0 ≤ b.s ∧ b.s ≤ 1073741824) ∨ ∃ k, k < b.t ∧ ¬ (0 ≤ b.A k ∧ b.A k < 16)
def bkLong (b : Bk) : Prop := 32 < b.t ∨ ∃ k, k < b.t ∧ 16384 < b.N k
open Classical in
noncomputable def bkE (b : Bk) : Int := if bkBad b then 1 else if bkLong b then 4 else 0
theorem bkE_bad {b : Bk} (h : bkBad b) : bkE b = 1 := by unfold bkE; rw [if_pos h]
theorem bkE_long {b : Bk} (h : ¬ bkBad b) (h2 : bkLong b) : bkE b = 4 := by unfold bkE; rw [if_neg h, if_pos h2]
theorem bkE_ok {b : Bk} (h : ¬ bkBad b) (h2 : ¬ bkLong b) : bkE b = 0 := by unfold bkE; rw [if_neg h, if_neg h2]
/-- The bounds of a block that may be. -/
structure BkOk (b : Bk) : Prop where
  h : 1 ≤ b.h ∧ b.h ≤ 1048576
  s : 0 ≤ b.s ∧ b.s ≤ 1073741824
  t : b.t ≤ 32
  A : ∀ k, k < b.t → 0 ≤ b.A k ∧ b.A k < 16
  N : ∀ k, k < b.t → b.N k ≤ 16384
theorem bkE_0 {b : Bk} (h : bkE b = 0) : ¬ bkBad b ∧ ¬ bkLong b := by
  by_cases h1 : bkBad b
  · rw [bkE_bad h1] at h; cases h
  · by_cases h2 : bkLong b
    · rw [bkE_long h1 h2] at h; cases h
    · exact ⟨h1, h2⟩
theorem bk_ok {b : Bk} (h : bkE b = 0) : BkOk b := by
  obtain ⟨h1, h2⟩ := bkE_0 h
  have g : -1 ≤ b.p ∧ 1 ≤ b.h ∧ b.h ≤ 1048576 ∧ 0 ≤ b.s ∧ b.s ≤ 1073741824 := Classical.byContradiction fun hn => h1 (.inl hn)
  refine ⟨⟨g.2.1, g.2.2.1⟩, g.2.2.2, Nat.le_of_not_lt fun hn => h2 (.inl hn), fun k hk => Classical.byContradiction fun hn => h1 (.inr ⟨k, hk, hn⟩), fun k hk => Nat.le_of_not_lt fun hn => h2 (.inr ⟨k, hk, hn⟩)⟩
theorem bkE_of {b : Bk} (h : BkOk b) (hp : -1 ≤ b.p) : bkE b = 0 := by
  refine bkE_ok (fun hb => ?_) (fun hb => ?_)
  · rcases hb with hb | ⟨k, hk, hb⟩
    · exact hb ⟨hp, h.h.1, h.h.2, h.s.1, h.s.2⟩
    · exact hb (h.A k hk)
  · rcases hb with hb | ⟨k, hk, hb⟩
    · have := h.t; omega
    · have := h.N k hk; omega
theorem bkLen_mono {b : Bk} {k : Nat} : ∀ {d : Nat}, bkLen b k ≤ bkLen b (k + d)
  | 0 => Nat.le_refl _
  | d + 1 => by
    have := bkLen_mono (b := b) (k := k) (d := d)
    show _ ≤ bkLen b (k + d) + 5 + b.N (k + d)
    omega
theorem bkLen_le {b : Bk} (h : BkOk b) : ∀ {k : Nat}, k ≤ b.t → bkLen b k ≤ 41 + k * 16389
  | 0, _ => by simp [bkLen]
  | k + 1, hk => by
    have := bkLen_le h (k := k) (by omega)
    have := h.N k (by omega)
    simp only [bkLen]; omega
theorem bkLen_41 {b : Bk} {k : Nat} : 41 ≤ bkLen b k := by
  have := bkLen_mono (b := b) (k := 0) (d := k)
  rw [Nat.zero_add] at this
  exact this
theorem bkF_step {b : Bk} {q : Nat → Int} {k j : Nat} (hj : j < bkLen b k) : bkF b q (k + 1) j = bkF b q k j := by
  simp only [bkF, catB, putB]
  rw [if_pos (by omega), if_pos (by omega), if_pos hj]
theorem bkF_pre {b : Bk} {q : Nat → Int} {k j : Nat} (hj : j < bkLen b k) : ∀ {d : Nat}, bkF b q (k + d) j = bkF b q k j
  | 0 => rfl
  | d + 1 => by
    rw [← Nat.add_assoc, bkF_step (Nat.lt_of_lt_of_le hj bkLen_mono)]
    exact bkF_pre hj
theorem bkF_at {b : Bk} {q : Nat → Int} {k t j : Nat} (hk : k ≤ t) (hj : j < bkLen b k) : bkF b q t j = bkF b q k j := by
  obtain ⟨d, rfl⟩ := Nat.exists_eq_add_of_le hk
  exact bkF_pre hj
theorem bkF_A {b : Bk} {q : Nat → Int} {k t : Nat} (hk : k < t) (h : 0 ≤ b.A k ∧ b.A k < 256) : bkF b q t (bkLen b k) = b.A k := by
  rw [bkF_at (k := k + 1) hk (by simp only [bkLen]; omega)]
  simp only [bkF, catB, putB]
  rw [if_pos (by omega), if_pos (by omega), if_neg (by omega), Nat.sub_self]
  simp
  omega
theorem bkF_N {b : Bk} {q : Nat → Int} {k t i : Nat} (hk : k < t) (hi : i < 4) : bkF b q t (bkLen b k + 1 + i) = putB (bkLen b k + 1) (putB (bkLen b k) (bkF b q k) (b.A k) 1) (b.N k) (4 : Nat) (bkLen b k + 1 + i) := by
  rw [bkF_at (k := k + 1) hk (by simp only [bkLen]; omega)]
  simp only [bkF, catB]
  rw [if_pos (by omega)]
  rfl
theorem bkF_F {b : Bk} {q : Nat → Int} {k t i : Nat} (hk : k < t) (hi : i < b.N k) : bkF b q t (bkLen b k + 5 + i) = b.F k i := by
  rw [bkF_at (k := k + 1) hk (by simp only [bkLen]; omega)]
  simp only [bkF, catB]
  rw [if_neg (by omega), Nat.add_sub_cancel_left]
theorem bkF_head {b : Bk} {q : Nat → Int} {t j : Nat} (hj : j < 41) : bkF b q t j = bkHead b q j := by
  rw [bkF_at (k := 0) (Nat.zero_le _) hj]; rfl

/-- Where the k-th part of what is read begins. -/
def rdP (f : Nat → Int) : Nat → Nat
  | 0 => 41
  | k + 1 => rdP f k + 5 + (partV f ((rdP f k + 1 : Nat) : Int)).toNat
def rdOk (n : Nat) (f : Nat → Int) (k : Nat) : Prop := ∀ j, j < k → rdP f j < n ∧ partOk n f ((rdP f j + 1 : Nat) : Int) = true
def rdBk (f : Nat → Int) : Bk := ⟨0, getV f 0 4, getV f 4 4, (f 40).toNat, fun k => f (rdP f k), fun k => (partV f ((rdP f k + 1 : Nat) : Int)).toNat, fun k i => f (i + (rdP f k + 1 + 4))⟩
def rdGood (n : Nat) (f : Nat → Int) : Prop := 41 ≤ n ∧ rdOk n f (f 40).toNat ∧ rdP f (f 40).toNat = n ∧ bkE (rdBk f) = 0
theorem partV_eq {f : Nat → Int} {p : Nat} : partV f (p : Int) = getV f p 4 := rfl
theorem partOk_iff {n p : Nat} {f : Nat → Int} : partOk n f (p : Int) = true ↔ p + 4 ≤ n ∧ getV f p 4 ≤ 16384 ∧ getV f p 4 ≤ (n : Int) - (p + 4) := by
  have he : getE n (p : Int) 4 = 0 ↔ p + 4 ≤ n := by
    unfold getE
    by_cases h1 : p ≤ n
    · have : (decide ((1 : Int) ≤ 4) && (decide ((4 : Int) ≤ 7) && (decide (0 ≤ (p : Int)) && decide ((p : Int) ≤ n)))) = true := by simp; omega
      rw [if_pos this]
      split <;> omega
    · have : (decide ((1 : Int) ≤ 4) && (decide ((4 : Int) ≤ 7) && (decide (0 ≤ (p : Int)) && decide ((p : Int) ≤ n)))) = false := by simp; omega
      rw [this]; simp; omega
  unfold partOk
  rw [partV_eq]
  simp only [Bool.and_eq_true, decide_eq_true_eq, he]

/-- What was written of a block is read as it; with another length it is none. -/
theorem rd_back {b : Bk} {q f : Nat → Int} (hb : BkOk b) (hf : ∀ j, j < bkLen b b.t → f j = bkF b q b.t j) :
    (f 40).toNat = b.t ∧ getV f 0 4 = b.h ∧ getV f 4 4 = b.s ∧ (∀ i, i < 32 → f (8 + i) = q i) ∧ (∀ k, k ≤ b.t → rdP f k = bkLen b k) ∧
    (∀ k, k < b.t → (rdBk f).A k = b.A k ∧ (rdBk f).N k = b.N k ∧ ∀ i, i < b.N k → (rdBk f).F k i = b.F k i) := by
  have hd : ∀ j, j < 41 → f j = bkHead b q j := fun j hj => by
    rw [hf j (Nat.lt_of_lt_of_le hj bkLen_41), bkF_head hj]
  have ht := hb.t
  have h40 : f 40 = b.t := by
    rw [hd 40 (by omega)]
    simp only [bkHead, putB]
    rw [if_neg (by omega)]
    simp
    omega
  obtain ⟨h, eh⟩ : ∃ h : Nat, b.h = h := ⟨b.h.toNat, by have := hb.h.1; omega⟩
  obtain ⟨s, es⟩ : ∃ s : Nat, b.s = s := ⟨b.s.toNat, by have := hb.s.1; omega⟩
  have hh := hb.h.2
  have hs := hb.s.2
  have hV : ∀ k, k < b.t → getV f (bkLen b k + 1) 4 = (b.N k : Int) := fun k hk => by
    have := hb.N k hk
    refine getV_back (f := putB (bkLen b k) (bkF b q k) (b.A k) 1) (s := 4) (Nat.lt_of_le_of_lt this (by decide)) (fun i hi => ?_)
    have hle : bkLen b (k + 1) ≤ bkLen b b.t := by
      obtain ⟨d, e⟩ := Nat.exists_eq_add_of_le hk
      rw [e]; exact bkLen_mono
    simp only [bkLen] at hle
    rw [hf _ (by omega), bkF_N hk hi]
  have hP : ∀ k, k ≤ b.t → rdP f k = bkLen b k := by
    intro k
    induction k with
    | zero => intro _; rfl
    | succ k ih =>
      intro hk
      have := ih (by omega)
      simp only [rdP, bkLen]
      rw [this, partV_eq, hV k (by omega), Int.toNat_natCast]
  have hlt : ∀ k, k < b.t → bkLen b k + 5 + b.N k ≤ bkLen b b.t := fun k hk => by
    obtain ⟨d, e⟩ := Nat.exists_eq_add_of_le (show k + 1 ≤ b.t from hk)
    have := bkLen_mono (b := b) (k := k + 1) (d := d)
    rw [← e] at this
    exact this
  refine ⟨by rw [h40]; simp, ?_, ?_, fun i hi => ?_, hP, fun k hk => ⟨?_, ?_, fun i hi => ?_⟩⟩
  · rw [eh]
    refine getV_back (f := fun _ => 0) (s := 4) (by rw [eh] at hh; omega) (fun i hi => ?_)
    rw [hd _ (by omega)]
    simp only [bkHead, putB, catB, ← eh]
    rw [if_pos (by omega), if_pos (by omega), if_pos (by omega)]
    rfl
  · rw [es]
    refine getV_back (f := putB 0 (fun _ => 0) b.h 4) (s := 4) (by rw [es] at hs; omega) (fun i hi => ?_)
    rw [hd _ (by omega)]
    simp only [bkHead, putB, catB, ← es]
    rw [if_pos (by omega), if_pos (by omega)]
    rfl
  · rw [hd _ (by omega)]
    simp only [bkHead, putB, catB]
    rw [if_pos (by omega), if_neg (by omega), Nat.add_sub_cancel_left]
  · show f (rdP f k) = _
    have := hlt k hk
    rw [hP k (by omega), hf _ (by omega), bkF_A hk (by have := hb.A k hk; omega)]
  · show (partV f ((rdP f k + 1 : Nat) : Int)).toNat = _
    rw [hP k (by omega), partV_eq, hV k hk, Int.toNat_natCast]
  · show f (i + (rdP f k + 1 + 4)) = _
    have := hlt k hk
    rw [hP k (by omega), show i + (bkLen b k + 1 + 4) = bkLen b k + 5 + i by omega, hf _ (by omega), bkF_F hk hi]
theorem rd_good {b : Bk} {q f : Nat → Int} (hb : BkOk b) (hf : ∀ j, j < bkLen b b.t → f j = bkF b q b.t j) : rdGood (bkLen b b.t) f := by
  obtain ⟨h1, h2, h3, h4, h5, h6⟩ := rd_back hb hf
  refine ⟨bkLen_41, fun j hj => ?_, by rw [h1, h5 _ (Nat.le_refl _)], bkE_of ⟨by rw [show (rdBk f).h = b.h from h2]; exact hb.h, by rw [show (rdBk f).s = b.s from h3]; exact hb.s, by rw [show (rdBk f).t = b.t from h1]; exact hb.t, fun k hk => ?_, fun k hk => ?_⟩ (by show (-1 : Int) ≤ 0; decide)⟩
  · rw [h1] at hj
    have hN := (h6 j hj).2.1
    have hV : (getV f (rdP f j + 1) 4).toNat = b.N j := hN
    have hle : bkLen b j + 5 + b.N j ≤ bkLen b b.t := by
      obtain ⟨d, e⟩ := Nat.exists_eq_add_of_le (show j + 1 ≤ b.t from hj)
      have := bkLen_mono (b := b) (k := j + 1) (d := d)
      rw [← e] at this
      exact this
    have := hb.N j hj
    rw [partOk_iff]
    rw [h5 j (by omega)] at hV ⊢
    omega
  · rw [show (rdBk f).t = b.t from h1] at hk
    rw [(h6 k hk).1]; exact hb.A k hk
  · rw [show (rdBk f).t = b.t from h1] at hk
    rw [(h6 k hk).2.1]; exact hb.N k hk
theorem rd_bad {b : Bk} {q f : Nat → Int} {n : Nat} (hb : BkOk b) (hf : ∀ j, j < bkLen b b.t → f j = bkF b q b.t j) (hn : n ≠ bkLen b b.t) : ¬ rdGood n f := by
  obtain ⟨h1, h2, h3, h4, h5, h6⟩ := rd_back hb hf
  intro ⟨g1, g2, g3, g4⟩
  rw [h1, h5 _ (Nat.le_refl _)] at g3
  exact hn g3.symm
theorem rdP_len {f : Nat → Int} : ∀ {k : Nat}, bkLen (rdBk f) k = rdP f k
  | 0 => rfl
  | k + 1 => by
    simp only [bkLen, rdP]
    rw [rdP_len (k := k)]; rfl
theorem rdP_mono {f : Nat → Int} {k d : Nat} : rdP f k ≤ rdP f (k + d) := by
  rw [← rdP_len, ← rdP_len]; exact bkLen_mono
/-- What was read is written as the same bytes. -/
theorem bk_back {n : Nat} {f : Nat → Int} (hf : ∀ i, i < n → 0 ≤ f i ∧ f i ≤ 255) (h41 : 41 ≤ n) : ∀ {k : Nat}, rdP f k ≤ n → (∀ j, j < k → getV f (rdP f j + 1) 4 = ((rdBk f).N j : Int)) → ∀ j, j < rdP f k → bkF (rdBk f) (fun i => f (8 + i)) k j = f j
  | 0, _, _ => fun j hj => by
    have hj : j < 41 := hj
    show bkHead (rdBk f) (fun i => f (8 + i)) j = f j
    simp only [bkHead, putB, catB]
    by_cases h1 : j < 40
    · rw [if_pos h1]
      by_cases h2 : j < 8
      · rw [if_pos h2]
        by_cases h3 : j < 4
        · rw [if_pos h3, if_neg (Nat.not_lt_zero _)]
          have := getV_digit (f := f) (P := 0) (s := 4) (i := j) h3 (fun i hi => hf _ (by omega))
          rw [Nat.zero_add] at this
          exact this
        · rw [if_neg h3]
          have := getV_digit (f := f) (P := 4) (s := 4) (i := j - 4) (by omega) (fun i hi => hf _ (by omega))
          rw [show 4 + (j - 4) = j by omega] at this
          exact this
      · rw [if_neg h2]
        show f (8 + (j - 8)) = f j
        rw [show 8 + (j - 8) = j by omega]
    · obtain rfl : j = 40 := by omega
      rw [if_neg h1]
      have h0 := hf 40 (by omega)
      show (((f 40).toNat : Int) / 2 ^ (8 * (Int.toNat 1 - 1 - (40 - 40)))) % 256 = f 40
      simp
      omega
  | k + 1, hn, hN => fun j hj => by
    have hle : rdP f k ≤ rdP f (k + 1) := rdP_mono (d := 1)
    have ih := bk_back hf h41 (k := k) (by omega) (fun j hj => hN j (by omega))
    simp only [bkF, catB, putB, rdP_len]
    by_cases h1 : j < rdP f k + 5
    · rw [if_pos h1]
      by_cases h2 : j < rdP f k + 1
      · rw [if_pos h2]
        by_cases h3 : j < rdP f k
        · rw [if_pos h3]; exact ih j h3
        · rw [if_neg h3]
          obtain rfl : j = rdP f k := by omega
          have h0 := hf (rdP f k) (by omega)
          show (f (rdP f k) / 2 ^ (8 * (Int.toNat 1 - 1 - (rdP f k - rdP f k)))) % 256 = f (rdP f k)
          rw [Nat.sub_self]
          simp
          omega
      · rw [if_neg h2, ← hN k (by omega)]
        simp only [rdP] at hn
        have := getV_digit (f := f) (P := rdP f k + 1) (s := 4) (i := j - (rdP f k + 1)) (by omega) (fun i hi => hf _ (by omega))
        rw [show rdP f k + 1 + (j - (rdP f k + 1)) = j by omega] at this
        exact this
    · rw [if_neg h1]
      show f (j - (rdP f k + 5) + (rdP f k + 1 + 4)) = f j
      rw [show j - (rdP f k + 5) + (rdP f k + 1 + 4) = j by omega]
theorem rd_write {n : Nat} {f : Nat → Int} (hf : ∀ i, i < n → 0 ≤ f i ∧ f i ≤ 255) (h : rdGood n f) : bkLen (rdBk f) (rdBk f).t = n ∧ ∀ j, j < n → bkF (rdBk f) (fun i => f (8 + i)) (rdBk f).t j = f j := by
  obtain ⟨h1, h2, h3, h4⟩ := h
  refine ⟨rdP_len.trans h3, fun j hj => bk_back hf h1 (Nat.le_of_eq h3) (fun i hi => ?_) j (by show j < rdP f (f 40).toNat; rw [h3]; exact hj)⟩
  have := (partOk_iff.1 (h2 i hi).2).1
  have g := (getV_lt (f := f) (p := rdP f i + 1) (k := 4) (fun j hj => hf j (by omega))).1
  show _ = ((getV f (rdP f i + 1) 4).toNat : Int)
  omega
/-- The parent's bytes stand in 8 to 39 alone. -/
theorem bkF_par {b : Bk} {q q' : Nat → Int} {j : Nat} (h : j < 8 ∨ 40 ≤ j) : ∀ {k : Nat}, bkF b q k j = bkF b q' k j
  | 0 => by
    show bkHead b q j = bkHead b q' j
    simp only [bkHead, putB, catB]
    by_cases h1 : j < 40
    · have h8 : j < 8 := by omega
      simp only [if_pos h1, if_pos h8]
    · rw [if_neg h1, if_neg h1]
  | k + 1 => by
    simp only [bkF, catB, putB]
    rw [bkF_par h (k := k)]
theorem bkF_q {b : Bk} {q : Nat → Int} {k i : Nat} (hi : i < 32) : bkF b q k (8 + i) = q i := by
  rw [bkF_head (by omega)]
  simp only [bkHead, putB, catB]
  rw [if_pos (by omega), if_neg (by omega), Nat.add_sub_cancel_left]
theorem bkF_byte {b : Bk} {q : Nat → Int} (hq : ∀ i, i < 32 → 0 ≤ q i ∧ q i ≤ 255) : ∀ {k : Nat}, (∀ i, i < k → ∀ j, j < b.N i → 0 ≤ b.F i j ∧ b.F i j ≤ 255) → ∀ j, j < bkLen b k → 0 ≤ bkF b q k j ∧ bkF b q k j ≤ 255
  | 0, _, j, hj => by
    have hj : j < 41 := hj
    show 0 ≤ bkHead b q j ∧ bkHead b q j ≤ 255
    simp only [bkHead, putB, catB]
    by_cases h1 : j < 40
    · rw [if_pos h1]
      by_cases h2 : j < 8
      · rw [if_pos h2]
        by_cases h3 : j < 4
        · rw [if_pos h3, if_neg (Nat.not_lt_zero _)]; omega
        · rw [if_neg h3]; omega
      · rw [if_neg h2]; exact hq _ (by omega)
    · rw [if_neg h1]; omega
  | k + 1, hF, j, hj => by
    have ih := bkF_byte hq (b := b) (k := k) (fun i hi => hF i (by omega))
    simp only [bkLen] at hj
    simp only [bkF, catB, putB]
    by_cases h1 : j < bkLen b k + 5
    · rw [if_pos h1]
      by_cases h2 : j < bkLen b k + 1
      · rw [if_pos h2]
        by_cases h3 : j < bkLen b k
        · rw [if_pos h3]; exact ih j h3
        · rw [if_neg h3]; omega
      · rw [if_neg h2]; omega
    · rw [if_neg h1]; exact hF k (by omega) _ (by omega)
end Go.Proofs.Ytjflfecdeicccaa
end

section
/- Sums: turned words, numbers of bytes, texts made whole blocks; no condition. -/
set_option linter.unusedVariables false
set_option linter.unusedSimpArgs false
set_option maxRecDepth 100000
set_option pp.maxSteps 300
namespace Go.Proofs.Ytjflfecdeicccaa
open Go Go.Wit

def rotI (x k : Int) : Int := bitsV .or .u32 (IntKind.u32.wrap (x * 2 ^ (min (bitsV .and .u64 (IntKind.u64.wrap k) 31).toNat IntKind.u32.bits))) (x.fdiv (2 ^ (min (IntKind.u64.wrap (32 - bitsV .and .u64 (IntKind.u64.wrap k) 31)).toNat IntKind.u32.bits)))

theorem S_rot {m : Mem} {K : AV → Mem → Prop} (x k : Int) (h : K (.int .u32 (rotI x k)) m) : ACall Pg F_bits_RotateLeft32 [.int .u32 x, .int .i64 k] m K := by
  refine B_bits_RotateLeft32 ⟨rfl, ?_⟩
  conv => whnf
  have h0 : 0 ≤ bitsV .and .u64 (IntKind.u64.wrap k) 31 := by
    show 0 ≤ IntKind.u64.wrap _
    rw [wu64]; omega
  have h1 : 0 ≤ IntKind.u64.wrap (32 - bitsV .and .u64 (IntKind.u64.wrap k) 31) := by rw [wu64]; omega
  refine condB_ok (by simpa using h1) ?_
  conv => whnf
  exact h

theorem S_rot32 {m : Mem} {K : AV → Mem → Prop} (x k : Int) (h : K (.int .u32 (rotI x (IntKind.i64.wrap (0 - k)))) m) : ACall Pg F_witanref04_rot32 [.int .u32 x, .int .i64 k] m K := by
  refine B_witanref04_rot32 ⟨rfl, ?_⟩
  conv => whnf
  refine S_rot _ _ ?_
  conv => whnf
  exact h

theorem catW {nv : Bool} {σ : Nat → Option Nat} {N k : Nat} {g g' : Nat → Int} {h : Nat → Nat → AV} {A B : AV} {i j : Nat} (hA : A = catG N (bytesG g) h i j) (hB : B = bytesG g' i j) (h1 : ∀ i, i < N → g' i = g i) (h2 : ∀ i, i < k → h i 0 = .int .u8 (g' (N + i))) (hi : i < N + k) (hj : j < 1) :
    RV nv σ A B := by
  subst hA hB
  obtain rfl : j = 0 := by omega
  by_cases hN : i < N
  · have : catG N (bytesG g) h i 0 = bytesG g' i 0 := by rw [catG_lt hN]; simp only [bytesG, h1 i hN]
    rw [this]; exact .eq _ _ rfl (.int _ _)
  · have : catG N (bytesG g) h i 0 = bytesG g' i 0 := by
      rw [catG_ge (by omega), h2 _ (by omega)]
      simp only [bytesG]
      congr 2; omega
    rw [this]; exact .eq _ _ rfl (.int _ _)

theorem or_byteU {a b : Int} (ha : 0 ≤ a ∧ a < 72057594037927936) (hb : 0 ≤ b ∧ b ≤ 255) : bitsV .or .u64 (a * 256) b = a * 256 + b := by
  obtain ⟨A, rfl⟩ : ∃ A : Nat, a = A := ⟨a.toNat, by omega⟩
  obtain ⟨B, rfl⟩ : ∃ B : Nat, b = B := ⟨b.toNat, by omega⟩
  have h1 : BitVec.ofInt 64 ((A : Int) * 256) = BitVec.ofNat 64 (256 * A) := by
    rw [show ((A : Int) * 256) = ((256 * A : Nat) : Int) by omega, BitVec.ofInt_natCast]
  have h2 : BitVec.ofInt 64 (B : Int) = BitVec.ofNat 64 B := BitVec.ofInt_natCast _ _
  show IntKind.u64.wrap ((BitVec.ofInt 64 ((A : Int) * 256) ||| BitVec.ofInt 64 (B : Int)).toNat) = _
  rw [h1, h2, BitVec.toNat_or, BitVec.toNat_ofNat, BitVec.toNat_ofNat, Nat.mod_eq_of_lt (by omega), Nat.mod_eq_of_lt (by omega)]
  have h3 := Nat.two_pow_add_eq_or_of_lt (i := 8) (b := B) (by omega) A
  rw [show (256 : Nat) = 2 ^ 8 from rfl, ← h3, wu64]
  omega

theorem S_high0 (n cap : Nat) (f : Nat → Int) (hn : n ≤ 7) (hf : ∀ i, i < n → 0 ≤ f i ∧ f i ≤ 255) : ACall Pg F_sha_high [.vsl 1 n cap (bytesG f)] [] (fun v _ => v = .int .u64 (getV f 0 n) ∧ Flat true v) := by
  refine B_sha_high ⟨rfl, ?_⟩
  conv => whnf
  refine loop_wk mixed (I := fun q l m => ∃ (k : Nat), l = [(3, .int .u64 (getV f 0 k)), (6, .vsl 1 n cap (bytesG f)), (7, .int .i64 n), (8, .int .i64 k)] ∧ m = [] ∧ q + k = n) n
    (l0 := [(3, .int .u64 0), (6, .vsl 1 n cap (bytesG f)), (7, .int .i64 n), (8, .int .i64 (0 : Nat))]) (m0 := []) [] ⟨0, rfl, rfl, rfl⟩ ?_ ?_
  · exact .mk0 ⟨Flat.i rfl, .eq _ _ rfl (.vsl _ _ _ _ rfl (fun _ _ _ _ => .int _ _)), Flat.i rfl, Flat.i rfl, trivial⟩ trivial rfl rfl
  · rintro q l m ⟨k, rfl, rfl, hq⟩
    conv => whnf
    refine condB_mk (fun hb => ?_) (fun hb => ?_)
    · have hb : k < n := by simpa using hb
      conv => whnf
      refine condB_ok (by simp; omega) ?_
      conv => whnf
      obtain ⟨g1, g2⟩ := getV_lt (f := f) (p := 0) (k := k) (fun i hi => hf i (by omega))
      have g3 : (256 : Int) ^ k ≤ 256 ^ 6 := by
        have : 256 ^ k ≤ 256 ^ 6 := Nat.pow_le_pow_right (by omega) (by omega)
        exact_mod_cast this
      have g4 := hf k (by omega)
      rw [w64 (n := (k : Int) + 1) (by omega) (by omega), show min (Int.toNat 8) IntKind.u64.bits = 8 from rfl, Int.toNat_natCast,
        show IntKind.u64.wrap (f k) = f k by rw [wu64]; omega, show IntKind.u64.wrap (getV f 0 k * 2 ^ 8) = getV f 0 k * 256 by rw [wu64]; omega]
      refine ⟨q - 1, [(3, .int .u64 (getV f 0 (k + 1))), (6, .vsl 1 n cap (bytesG f)), (7, .int .i64 n), (8, .int .i64 ((k + 1 : Nat) : Int))], [], [], by omega, ⟨k + 1, rfl, rfl, by omega⟩, ?_⟩
      exact .mk0 ⟨Flat.i (by rw [or_byteU (by omega) g4, getV, Nat.zero_add]), .eq _ _ rfl (.vsl _ _ _ _ rfl (fun _ _ _ _ => .int _ _)), Flat.i rfl, Flat.i (by omega), trivial⟩ trivial rfl rfl
    · have hb : k = n := by simp at hb; omega
      subst hb
      conv => whnf
      exact ⟨rfl, .int _ _⟩

theorem S_high {m : Mem} {x : AV} {n : Nat} {f : Nat → Int} {K : AV → Mem → Prop} (hx : Shows m x n f) (hn : n ≤ 7) (hf : ∀ i, i < n → 0 ≤ f i ∧ f i ≤ 255) (h : K (.int .u64 (getV f 0 n)) m) : ACall Pg F_sha_high [x] m K := by
  obtain ⟨cap, hl⟩ := hx
  refine lift_flat (S_high0 n cap f hn hf) (.cons _ _ _ _ hl .nil) ?_
  rintro v rfl
  exact h

/-- A text made whole blocks. -/
def padN (n : Nat) : Nat := (n + 72) / 64 * 64
def padF (n : Nat) (f : Nat → Int) (i : Nat) : Int := if i < n then f i else if i = n then 128 else if i < padN n - 8 then 0 else ((8 * n : Nat) : Int) / 2 ^ (8 * (padN n - 1 - i)) % 256

theorem padF_lt {n : Nat} {f : Nat → Int} (hf : ∀ i, i < n → 0 ≤ f i ∧ f i ≤ 255) (i : Nat) : 0 ≤ padF n f i ∧ padF n f i ≤ 255 := by
  unfold padF
  split
  · rename_i h; exact hf i h
  · split
    · omega
    · split <;> omega

theorem padN_ge (n : Nat) : n + 9 ≤ padN n ∧ padN n % 64 = 0 ∧ padN n ≤ n + 72 := by unfold padN; omega

theorem tmod_nat (a b : Nat) : ((a : Int).tmod (b : Int)) = ((a % b : Nat) : Int) := by rw [Int.tmod_eq_emod_of_nonneg (by omega)]; simp

theorem S_padded0 (n cap : Nat) (f : Nat → Int) (hn : n ≤ 1000000) : ACall Pg F_sha_padded [.vsl 1 n cap (bytesG f)] [] (fun v m' => ∃ n' f', (n' = padN n ∧ f' = padF n f) ∧ RetB n' f' v m') := by
  obtain ⟨p1, p2, p3⟩ := padN_ge n
  refine B_sha_padded ⟨rfl, ?_⟩
  conv => whnf
  refine condB_ok (app_ok rfl rfl rfl (by omega) (by omega)) (fun cap1 hcap1 => ?_)
  conv => whnf
  refine condB_ok (app_ok (by simp) rfl rfl (by omega) (by omega)) (fun cap2 hcap2 => ?_)
  conv => whnf
  simp only [Nat.zero_add]
  refine loop_wk mixed (I := fun q l m => ∃ (N c : Nat) (g : Nat → Int), l = [(0, .vsl 1 n cap (bytesG f)), (3, .sl 0 0 N c)] ∧ m = [some ⟨1, N, bytesG g⟩] ∧ q + N = padN n - 8 ∧ n + 1 ≤ N ∧ ∀ j, j < N → g j = padF n f j) (padN n - 8 - (n + 1))
    (l0 := [(0, .vsl 1 n cap (bytesG f)), (3, .sl 0 0 (n + 1) cap2)]) (m0 := [some ⟨1, n + 1, bytesG (padF n f)⟩]) [some 3] ⟨n + 1, cap2, _, rfl, rfl, by omega, by omega, fun j hj => rfl⟩ ?_ ?_
  · refine .mk0 ⟨.eq _ _ rfl (.vsl _ _ _ _ rfl (fun _ _ _ _ => .int _ _)), .sl _ _ _ _ _ rfl, trivial⟩ ⟨.old 0 3 _ _ rfl rfl ⟨rfl, Nat.le_refl _, fun i j hi hj => ?_⟩, trivial⟩ rfl rfl
    have hj : j < 1 := hj
    have hi : i < n + 1 := hi
    refine .eq _ _ ?_ ?_ <;> (obtain rfl : j = 0 := by omega) <;> dsimp only
    · by_cases h : i < n
      · rw [catG_lt h]
        have : catG 0 (fun i j => (reps [AV.int IntKind.u8 0] 0).getD (i * 1 + j) AV.un) (bytesG f) i 0 = bytesG f i 0 := by rw [catG_ge (by omega)]; rfl
        refine Eq.trans this ?_
        simp only [bytesG, padF, if_pos h]
      · obtain rfl : i = n := by omega
        rw [catG_ge (by omega)]
        simp only [bytesG, padF, if_neg h, if_pos trivial, Nat.sub_self]
        rfl
    · by_cases h : i < n
      · rw [catG_lt h]
        have : catG 0 (fun i j => (reps [AV.int IntKind.u8 0] 0).getD (i * 1 + j) AV.un) (bytesG f) i 0 = bytesG f i 0 := by rw [catG_ge (by omega)]; rfl
        exact (show Flat false (catG 0 (fun i j => (reps [AV.int IntKind.u8 0] 0).getD (i * 1 + j) AV.un) (bytesG f) i 0) from this ▸ .int _ _)
      · obtain rfl : i = n := by omega
        rw [catG_ge (by omega), Nat.sub_self]
        exact .int _ _
  · rintro q l m ⟨N, c, g, rfl, rfl, hq, hN, hg⟩
    conv => whnf
    rw [show ((N : Int).tmod 64) = ((N % 64 : Nat) : Int) from tmod_nat N 64]
    refine condB_mk (fun hb => ?_) (fun hb => ?_)
    · have hb : N < padN n - 8 := by
        simp at hb
        rcases Nat.lt_or_ge N (padN n - 8) with h | h
        · exact h
        · have : N = padN n - 8 := by omega
          omega
      conv => whnf
      refine condB_ok (app_ok (by simp) rfl rfl (by omega) (by omega)) (fun cap' hcap => ?_)
      conv => whnf
      refine ⟨q - 1, [(0, .vsl 1 n cap (bytesG f)), (3, .sl 0 0 (N + 1) cap')], [some ⟨1, N + 1, bytesG (fun j => if j < N then g j else 0)⟩], [some 2], by omega, ⟨N + 1, cap', _, rfl, rfl, by omega, by omega, fun j hj => ?_⟩, ?_⟩
      · by_cases h : j < N
        · simp only [if_pos h]; exact hg j h
        · simp only [if_neg h]
          rw [padF, if_neg (by omega), if_neg (by omega), if_pos (by omega)]
      · refine .mk0 ⟨.eq _ _ rfl (.vsl _ _ _ _ rfl (fun _ _ _ _ => .int _ _)), .sl _ _ _ _ _ rfl, trivial⟩ ⟨.old 0 2 _ _ rfl rfl ⟨rfl, Nat.le_refl _, fun i j hi hj => ?_⟩, trivial⟩ rfl rfl
        dsimp only
        refine catW (N := N) (k := 1) (g := g) (g' := fun j => if j < N then g j else 0) rfl rfl (fun i hi => if_pos hi) (fun i hi => ?_) hi hj
        obtain rfl : i = 0 := by omega
        simp only [Nat.add_zero, if_neg (Nat.lt_irrefl N)]; rfl
    · have hb : N = padN n - 8 := by
        simp at hb
        omega
      conv => whnf
      rw [show IntKind.u64.wrap (IntKind.u64.wrap (n : Int) * 2 ^ min (Int.toNat 3) IntKind.u64.bits) = ((8 * n : Nat) : Int) by
        rw [wu64, wu64, show min (Int.toNat 3) IntKind.u64.bits = 3 from rfl]; omega]
      refine loop_wk mixed (I := fun q l m => ∃ (k : Int) (N c : Nat) (g : Nat → Int), l = [(0, .vsl 1 n cap (bytesG f)), (3, .sl 0 0 N c), (4, .int .u64 ((8 * n : Nat) : Int)), (5, .int .i64 k)] ∧ m = [some ⟨1, N, bytesG g⟩] ∧ (q : Int) = k + 1 ∧ -1 ≤ k ∧ k ≤ 7 ∧ (N : Int) = padN n - 1 - k ∧ ∀ j, j < N → g j = padF n f j) 8
        (l0 := [(0, .vsl 1 n cap (bytesG f)), (3, .sl 0 0 N c), (4, .int .u64 ((8 * n : Nat) : Int)), (5, .int .i64 7)]) (m0 := [some ⟨1, N, bytesG g⟩]) [some 0] ⟨7, N, c, g, rfl, rfl, by omega, by omega, by omega, by omega, hg⟩ ?_ ?_
      · refine .mk0 ⟨.eq _ _ rfl (.vsl _ _ _ _ rfl (fun _ _ _ _ => .int _ _)), .sl _ _ _ _ _ rfl, Flat.i rfl, Flat.i rfl, trivial⟩ ⟨.old 0 0 _ _ rfl rfl ⟨rfl, Nat.le_refl _, fun i j hi hj => .eq _ _ rfl (.int _ _)⟩, trivial⟩ rfl rfl
      · clear hb hq hN hg
        rintro q l m ⟨k, N, c, g, rfl, rfl, hq, hk1, hk2, hN, hg⟩
        conv => whnf
        refine condB_mk (fun hb => ?_) (fun hb => ?_)
        · have hb : 0 ≤ k := by simpa using hb
          conv => whnf
          rw [w64 (n := 8 * k) (by omega) (by omega)]
          refine condB_ok (decide_eq_true (by omega)) ?_
          conv => whnf
          refine condB_ok (app_ok (by simp) rfl rfl (by omega) (by omega)) (fun cap' hcap => ?_)
          conv => whnf
          rw [w64 (n := k - 1) (by omega) (by omega)]
          refine ⟨q - 1, [(0, .vsl 1 n cap (bytesG f)), (3, .sl 0 0 (N + 1) cap'), (4, .int .u64 ((8 * n : Nat) : Int)), (5, .int .i64 (k - 1))], [some ⟨1, N + 1, bytesG (padF n f)⟩], [some 2], by omega, ⟨k - 1, N + 1, cap', _, rfl, rfl, by omega, by omega, by omega, by omega, fun j hj => rfl⟩, ?_⟩
          refine .mk0 ⟨.eq _ _ rfl (.vsl _ _ _ _ rfl (fun _ _ _ _ => .int _ _)), .sl _ _ _ _ _ rfl, Flat.i rfl, Flat.i rfl, trivial⟩ ⟨.old 0 2 _ _ rfl rfl ⟨rfl, Nat.le_refl _, fun i j hi hj => ?_⟩, trivial⟩ rfl rfl
          dsimp only
          refine catW (N := N) (k := 1) (g := g) (g' := padF n f) rfl rfl (fun i hi => (hg i hi).symm) (fun i hi => ?_) hi hj
          obtain rfl : i = 0 := by omega
          have e : IntKind.u8.wrap (((8 * n : Nat) : Int).fdiv (2 ^ min (8 * k).toNat IntKind.u64.bits)) = padF n f (N + 0) := by
            rw [IntKind.wrap_u8, Int.fdiv_eq_ediv_of_nonneg _ (Int.pow_nonneg (by omega)), padF, if_neg (by omega), if_neg (by omega), if_neg (by omega)]
            rw [show min (8 * k).toNat IntKind.u64.bits = 8 * (padN n - 1 - (N + 0)) by simp only [IntKind.bits]; omega]
          rw [← e]; rfl
        · have hb : k = -1 := by simp at hb; omega
          conv => whnf
          obtain rfl : N = padN n := by omega
          exact ⟨padN n, padF n f, ⟨rfl, rfl⟩, .inr ⟨0, c, padN n, _, rfl, rfl, Nat.le_refl _, fun i hi => by rw [← hg i hi]; rfl⟩⟩

theorem S_padded {m : Mem} {x : AV} {n : Nat} {f : Nat → Int} {K : AV → Mem → Prop} (hx : Shows m x n f) (hn : n ≤ 1000000) (hK : ∀ cap, memK (m ++ [some ⟨1, padN n, bytesG (padF n f)⟩]) (K (.sl m.length 0 (padN n) cap))) : ACall Pg F_sha_padded [x] m K := by
  simp only [memK_eq] at hK
  obtain ⟨cap, hl⟩ := hx
  refine lift_bytes (S_padded0 n cap f hn) (.cons _ _ _ _ hl .nil) ?_
  rintro n' f' cap' ⟨rfl, rfl⟩
  exact hK cap'

end Go.Proofs.Ytjflfecdeicccaa
end

section
/- The sum of bytes: what the program makes; no condition. -/
set_option linter.unusedVariables false
set_option linter.unusedSimpArgs false
set_option maxRecDepth 100000
set_option pp.maxSteps 300
namespace Go.Proofs.Ytjflfecdeicccaa
open Go Go.Wit

def kList : List Int := [1116352408, 1899447441, 3049323471, 3921009573, 961987163, 1508970993, 2453635748, 2870763221, 3624381080, 310598401, 607225278, 1426881987, 1925078388, 2162078206, 2614888103, 3248222580, 3835390401, 4022224774, 264347078, 604807628, 770255983, 1249150122, 1555081692, 1996064986, 2554220882, 2821834349, 2952996808, 3210313671, 3336571891, 3584528711, 113926993, 338241895, 666307205, 773529912, 1294757372, 1396182291, 1695183700, 1986661051, 2177026350, 2456956037, 2730485921, 2820302411, 3259730800, 3345764771, 3516065817, 3600352804, 4094571909, 275423344, 430227734, 506948616, 659060556, 883997877, 958139571, 1322822218, 1537002063, 1747873779, 1955562222, 2024104815, 2227730452, 2361852424, 2428436474, 2756734187, 3204031479, 3329325298]
def kTab (i : Nat) : Int := kList.getD i 0
def hList : List Int := [1779033703, 3144134277, 1013904242, 2773480762, 1359893119, 2600822924, 528734635, 1541459225]
def hTab (i : Nat) : Int := hList.getD i 0
def u32G (f : Nat → Int) : Nat → Nat → AV := fun i _ => .int .u32 (f i)

def addU (a b : Int) : Int := IntKind.u32.wrap (a + b)
def xorU (a b : Int) : Int := bitsV .xor .u32 a b
def andU (a b : Int) : Int := bitsV .and .u32 a b
def shrU (a : Int) (k : Int) : Int := a.fdiv (2 ^ (min k.toNat IntKind.u32.bits))
def notU (a : Int) : Int := bitsV .xor .u32 (IntKind.max .u32) a
def sigA (x : Int) : Int := xorU (xorU (rotI x (-7)) (rotI x (-18))) (shrU x 3)
def sigB (x : Int) : Int := xorU (xorU (rotI x (-17)) (rotI x (-19))) (shrU x 10)
def sigE (x : Int) : Int := xorU (xorU (rotI x (-6)) (rotI x (-11))) (rotI x (-25))
def sigF (x : Int) : Int := xorU (xorU (rotI x (-2)) (rotI x (-13))) (rotI x (-22))
def newW (b : Nat → Int) (k : Nat) (w : Nat → Int) : Int := if k < 16 then getV b (4 * k) 4 else addU (addU (addU (w (k - 16)) (sigA (w (k - 15)))) (w (k - 7))) (sigB (w (k - 2)))
def Wn (b : Nat → Int) : Nat → Nat → Int
  | 0 => fun _ => 0
  | k + 1 => fun i => if i = k then newW b k (Wn b k) else Wn b k i
def oneU (v : Nat → Int) (kk wk : Int) : Int := addU (addU (addU (addU (v 7) (sigE (v 4))) (xorU (andU (v 4) (v 5)) (andU (notU (v 4)) (v 6)))) kk) wk
def twoU (v : Nat → Int) : Int := addU (sigF (v 0)) (xorU (xorU (andU (v 0) (v 1)) (andU (v 0) (v 2))) (andU (v 1) (v 2)))
def rnd (v : Nat → Int) (kk wk : Int) : Nat → Int
  | 0 => addU (oneU v kk wk) (twoU v)
  | 1 => v 0
  | 2 => v 1
  | 3 => v 2
  | 4 => addU (v 3) (oneU v kk wk)
  | 5 => v 4
  | 6 => v 5
  | 7 => v 6
  | _ => 0
def Rn (h w : Nat → Int) : Nat → Nat → Int
  | 0 => h
  | k + 1 => rnd (Rn h w k) (kTab k) (w k)
def blkB (b : Nat → Int) (q : Nat) (i : Nat) : Int := b (64 * q + i)
def nextH (h w : Nat → Int) (i : Nat) : Int := addU (h i) (Rn h w 64 i)
def Hn (b : Nat → Int) : Nat → Nat → Int
  | 0 => hTab
  | q + 1 => nextH (Hn b q) (Wn (blkB b q) 64)
def sumB (n : Nat) (f : Nat → Int) (i : Nat) : Int := IntKind.u8.wrap ((Hn (padF n f) (padN n / 64) (i / 4)).fdiv (2 ^ (24 - 8 * (i % 4))))
def sumL (n : Nat) (f : Nat → Int) : List AV := (List.range 32).map fun i => .int .u8 (sumB n f i)

/-- A row that a call has made lies in the caller's next block. -/
theorem lift_row {P : Program} {fn : FuncId} {args args0 : List AV} {m : Mem} {K : AV → Mem → Prop} {es n : Nat} {G : Nat → Nat → AV} (h : ACall P fn args0 [] (fun v m' => ∃ l cap N g, v = .sl l 0 n cap ∧ m'[l]? = some (some ⟨es, N, g⟩) ∧ n ≤ N ∧ ∀ i j, i < n → j < es → g i j = G i j ∧ Flat true (G i j)))
    (ha : Lends (fun _ => none) (List.range m.length) m args args0) (hK : ∀ cap, memK (m ++ [some ⟨es, n, G⟩]) (K (.sl m.length 0 n cap))) : ACall P fn args m K := by
  simp only [memK_eq] at hK
  refine h.frame0 true (List.range m.length) (fun h => by cases h) ha (fun v m' hv => ?_)
  obtain ⟨l, cap, N, g, rfl, h1, h2, h3⟩ := hv
  refine ⟨.sl m.length 0 n cap, [some ⟨es, n, G⟩], [some l], Nat.le_refl _, fun i j q hi hj => ?_, .sl _ _ _ _ _ (by simp [shiftT]), ⟨.old _ l _ _ (by simp [shiftT]) h1 ⟨rfl, h2, fun i j hi hj => ?_⟩, trivial⟩, hK cap⟩
  · cases i <;> cases j <;> simp at hi hj; rfl
  · obtain ⟨g1, g2⟩ := h3 i j hi hj
    exact .eq _ _ g1 (show Flat true (g i j) from g1 ▸ g2)

theorem flats_ints {nv : Bool} {k : IntKind} : ∀ (l : List Int), Flats nv (l.map (AV.int k))
  | [] => .nil
  | x :: r => .cons _ _ (.int _ _) (flats_ints r)

theorem S_rounds {m : Mem} {K : AV → Mem → Prop} (hK : ∀ cap, memK (m ++ [some ⟨1, 64, u32G kTab⟩]) (K (.sl m.length 0 64 cap))) : ACall Pg F_sha_rounds [] m K := by
  refine lift_row (n := 64) (es := 1) (G := u32G kTab) (?_ : ACall Pg F_sha_rounds [] [] _) .nil hK
  refine B_sha_rounds ⟨rfl, ?_⟩
  conv => whnf
  refine ⟨0, 64, 64, _, rfl, rfl, Nat.le_refl _, fun i j hi hj => ⟨?_, .int _ _⟩⟩
  obtain rfl : j = 0 := by omega
  have : ∀ i : Fin 64, (List.getD (kList.map (AV.int .u32)) (i.val * 1 + 0) .un) = u32G kTab i.val 0 := by
    intro i
    simp only [u32G, kTab, Nat.mul_one, Nat.add_zero, List.getD_eq_getElem?_getD, List.getElem?_map]
    rw [List.getElem?_eq_getElem (by have := i.isLt; simp [kList])]
    rfl
  exact this ⟨i, hi⟩

theorem S_k256 {m : Mem} {K : AV → Mem → Prop} (hK : K (.agg (kList.map (AV.int .u32))) m) : ACall Pg F_witanref04_k256 [] m K := by
  refine lift_flat (R := fun v => v = .agg (kList.map (AV.int .u32))) (?_ : ACall Pg F_witanref04_k256 [] [] _) .nil (fun v hv => by subst hv; exact hK)
  refine B_witanref04_k256 ⟨rfl, ?_⟩
  conv => whnf
  exact ⟨rfl, .agg _ (flats_ints kList)⟩

theorem wu32 (n : Int) : IntKind.u32.wrap n = n % 4294967296 := by simp [IntKind.wrap, IntKind.bits, IntKind.signed]

theorem updW {nv : Bool} {σ : Nat → Option Nat} {b : Nat → Int} {k i j n : Nat} {A : AV} (hj : j < 1) (hA : A = updG ⟨1, n, u32G (Wn b k)⟩ k 0 1 [.int .u32 (Wn b (k + 1) k)] i j) : RV nv σ A (u32G (Wn b (k + 1)) i j) := by
  subst hA
  obtain rfl : j = 0 := by omega
  have : updG ⟨1, n, u32G (Wn b k)⟩ k 0 1 [.int .u32 (Wn b (k + 1) k)] i 0 = u32G (Wn b (k + 1)) i 0 := by
    rw [updG_one]
    by_cases h : i = k
    · rw [if_pos h, h]; rfl
    · rw [if_neg h]
      show u32G (Wn b k) i 0 = u32G (Wn b (k + 1)) i 0
      simp only [u32G]
      rw [show Wn b (k + 1) i = Wn b k i from if_neg h]
  rw [this]; exact .eq _ _ rfl (.int _ _)

theorem eight {nv : Bool} {σ : Nat → Option Nat} {G : Nat → Nat → AV} {r : Nat → Int} {i j : Nat} (hi : i < 8) (hj : j < 1) (h0 : G 0 0 = .int .u32 (r 0)) (h1 : G 1 0 = .int .u32 (r 1)) (h2 : G 2 0 = .int .u32 (r 2)) (h3 : G 3 0 = .int .u32 (r 3))
    (h4 : G 4 0 = .int .u32 (r 4)) (h5 : G 5 0 = .int .u32 (r 5)) (h6 : G 6 0 = .int .u32 (r 6)) (h7 : G 7 0 = .int .u32 (r 7)) : RV nv σ (G i j) (u32G r i j) := by
  obtain rfl : j = 0 := by omega
  have : G i 0 = .int .u32 (r i) := by
    have : i = 0 ∨ i = 1 ∨ i = 2 ∨ i = 3 ∨ i = 4 ∨ i = 5 ∨ i = 6 ∨ i = 7 := by omega
    rcases this with rfl | rfl | rfl | rfl | rfl | rfl | rfl | rfl <;> assumption
  exact .eq _ _ this (this ▸ .int _ _)

theorem cellG_one {N a t : Nat} {G : Nat → Nat → AV} : cellG ⟨1, N, G⟩ a 0 t = G (a + t) 0 := by
  unfold cellG
  cases h : Nat.blt (0 + t) 1 with
  | true =>
    have : t = 0 := by rw [Nat.blt_eq] at h; omega
    subst this; rfl
  | false => rw [Nat.zero_add] at h; simp [h, Nat.mod_one]

theorem updG_all {n sz i : Nat} {g : Nat → Nat → AV} {vs : List AV} (h1 : 1 < sz) (hi : i < sz) : updG ⟨1, n, g⟩ 0 0 sz vs i 0 = vs.getD i .un := by
  unfold updG
  have : Nat.ble (0 + sz) 1 = false := by
    cases h : Nat.ble (0 + sz) 1 with
    | false => rfl
    | true => have := Nat.le_of_ble_eq_true h; omega
  simp only [this, cond_false, pickA_eq]
  have h2 : Nat.blt (i * 1 + 0) (0 * 1 + 0 + sz) = true := by rw [Nat.blt_eq]; omega
  have h3 : Nat.ble (0 * 1 + 0) (i * 1 + 0) = true := by rw [Nat.ble_eq]; omega
  simp only [h2, h3, Bool.and_self, cond_true]
  simp

theorem row_get1 {N k i : Nat} {G : Nat → Nat → AV} (hi : i < k) : (List.map (cellG ⟨1, N, G⟩ 0 0) (List.range k)).getD i .un = G i 0 := by
  rw [List.getD_eq_getElem?_getD, List.getElem?_map, List.getElem?_range hi]
  simp [cellG_one]

theorem updH {nv : Bool} {σ : Nat → Option Nat} {h r : Nat → Int} {k i j : Nat} {A : AV} (hj : j < 1) (hA : A = updG ⟨1, 8, u32G (fun i => if i < k then addU (h i) (r i) else h i)⟩ k 0 1 [.int .u32 (IntKind.u32.wrap ((if k < k then addU (h k) (r k) else h k) + r k))] i j) :
    RV nv σ A (u32G (fun i => if i < k + 1 then addU (h i) (r i) else h i) i j) := by
  subst hA
  obtain rfl : j = 0 := by omega
  have : updG ⟨1, 8, u32G (fun i => if i < k then addU (h i) (r i) else h i)⟩ k 0 1 [.int .u32 (IntKind.u32.wrap ((if k < k then addU (h k) (r k) else h k) + r k))] i 0 = u32G (fun i => if i < k + 1 then addU (h i) (r i) else h i) i 0 := by
    rw [updG_one]
    by_cases he : i = k
    · subst he
      rw [if_pos rfl]
      simp only [u32G, Nat.lt_irrefl, if_false, Nat.lt_succ_self, if_true]
      rfl
    · rw [if_neg he]
      simp only [u32G]
      by_cases hl : i < k
      · rw [if_pos hl, if_pos (by omega)]
      · rw [if_neg hl, if_neg (by omega)]
  rw [this]; exact .eq _ _ rfl (.int _ _)

theorem eightC {nv : Bool} {σ : Nat → Option Nat} {A : AV} {g : Nat → Nat → AV} {r : Nat → Int} {i j : Nat} (hi : i < 8) (hj : j < 1) (hA : A = updG ⟨1, 8, g⟩ 0 0 8 (List.map (cellG ⟨1, 8, u32G r⟩ 0 0) (List.range 8)) i j) : RV nv σ A (u32G r i j) := by
  obtain rfl : j = 0 := by omega
  have : A = u32G r i 0 := by rw [hA, updG_all (by omega) hi, row_get1 hi]
  rw [this]; exact .eq _ _ rfl (.int _ _)

theorem updO {nv : Bool} {σ : Nat → Option Nat} {s : Nat → Int} {k i j e d : Nat} {x : Int} {A : AV} (hj : j < 1) (hS : s k = IntKind.u8.wrap (x.fdiv (2 ^ d))) (he : e = d) (hA : A = updG ⟨1, 32, bytesG (fun i => if i < k then s i else 0)⟩ k 0 1 [.int .u8 (IntKind.u8.wrap (x.fdiv (2 ^ e)))] i j) :
    RV nv σ A (bytesG (fun i => if i < k + 1 then s i else 0) i j) := by
  subst hA he
  obtain rfl : j = 0 := by omega
  have : updG ⟨1, 32, bytesG (fun i => if i < k then s i else 0)⟩ k 0 1 [.int .u8 (IntKind.u8.wrap (x.fdiv (2 ^ e)))] i 0 = bytesG (fun i => if i < k + 1 then s i else 0) i 0 := by
    rw [updG_one, ← hS]
    by_cases he : i = k
    · subst he
      rw [if_pos rfl]
      simp only [bytesG, Nat.lt_succ_self, if_true]
    · rw [if_neg he]
      simp only [bytesG]
      by_cases hl : i < k
      · rw [if_pos hl, if_pos (by omega)]
      · rw [if_neg hl, if_neg (by omega)]
  rw [this]; exact .eq _ _ rfl (.int _ _)

theorem outRow {s : Nat → Int} {g : Nat → Nat → AV} {l : List AV} (hl : l = List.map (cellG ⟨1, 32, updG ⟨1, 32, g⟩ 0 0 32 (List.map (cellG ⟨1, 32, bytesG (fun i => if i < 32 then s i else 0)⟩ 0 0) (List.range 32))⟩ 0 0) (List.range 32)) : l = (List.range 32).map fun i => .int .u8 (s i) := by
  subst hl
  refine List.map_congr_left fun i hi => ?_
  have hi : i < 32 := List.mem_range.mp hi
  rw [cellG_one, Nat.zero_add, updG_all (by omega) hi, row_get1 hi]
  simp only [bytesG]
  rw [if_pos hi]

theorem outSum {n : Nat} {f : Nat → Int} {g : Nat → Nat → AV} {l : List AV} (hl : l = List.map (cellG ⟨1, 32, updG ⟨1, 32, g⟩ 0 0 32 (List.map (cellG ⟨1, 32, bytesG (fun i => if i < 32 then sumB n f i else 0)⟩ 0 0) (List.range 32))⟩ 0 0) (List.range 32)) : AV.agg l = .agg (sumL n f) ∧ Flat true (.agg l) := by
  have e : l = sumL n f := outRow hl
  subst e
  refine ⟨rfl, .agg _ ?_⟩
  have := flats_ints (nv := true) (k := .u8) ((List.range 32).map (sumB n f))
  rw [List.map_map] at this
  exact this

theorem oneU0 {nv : Bool} {σ : Nat → Option Nat} {j : Nat} {A : AV} (hj : j < 1) (hA : A = [AV.int IntKind.u8 0].getD j AV.un) : RV nv σ A (AV.int IntKind.u8 0) := by
  subst hA
  obtain rfl : j = 0 := by omega
  exact .eq _ _ rfl (.int _ _)

set_option maxHeartbeats 4000000 in
theorem S_Sum0 (n cap : Nat) (f : Nat → Int) (hn : n ≤ 1000000) (hf : ∀ i, i < n → 0 ≤ f i ∧ f i ≤ 255) : ACall Pg F_sha_Sum [.vsl 1 n cap (bytesG f)] [] (fun v _ => v = .agg (sumL n f) ∧ Flat true v) := by
  obtain ⟨p1, p2, p3⟩ := padN_ge n
  refine B_sha_Sum ⟨rfl, ?_⟩
  conv => whnf
  refine S_rounds (fun capk => ?_)
  conv => whnf
  refine S_padded (f := f) Shows.vsl hn (fun capp => ?_)
  conv => whnf
  have hb := padF_lt hf
  generalize hB : padF n f = b at *
  refine loop_wk mixed (I := fun q l m => ∃ (j off cp : Nat), l = [(2, .ptr 0 0 0), (3, .ptr 1 0 0), (4, .sl 2 0 64 capk), (5, .sl 3 off (64 * q) cp)] ∧ m = [some ⟨1, 32, fun _ _ => .int .u8 0⟩, some ⟨1, 8, u32G (Hn b j)⟩, some ⟨1, 64, u32G kTab⟩, some ⟨1, padN n, bytesG b⟩] ∧ q + j = padN n / 64 ∧ off = 64 * j) (padN n / 64)
    (l0 := [(2, .ptr 0 0 0), (3, .ptr 1 0 0), (4, .sl 2 0 64 capk), (5, .sl 3 0 (64 * (padN n / 64)) capp)]) (m0 := [some ⟨1, 32, fun _ _ => .int .u8 0⟩, some ⟨1, 8, u32G hTab⟩, some ⟨1, 64, u32G kTab⟩, some ⟨1, padN n, bytesG b⟩]) [some 0, some 1, some 2, some 3] ⟨0, 0, capp, rfl, rfl, by omega, rfl⟩ ?_ ?_
  · have hN : AV.sl 3 0 (64 * (padN n / 64)) capp = .sl 3 0 (padN n) capp := by rw [show 64 * (padN n / 64) = padN n by omega]
    rw [hN]
    refine .mk0 ⟨.ptr _ _ _ _ rfl, .ptr _ _ _ _ rfl, .sl _ _ _ _ _ rfl, .sl _ _ _ _ _ rfl, trivial⟩ ⟨.old 0 0 _ _ rfl rfl ⟨rfl, Nat.le_refl _, fun i j hi hj => oneU0 hj rfl⟩, .old 1 1 _ _ rfl rfl ⟨rfl, Nat.le_refl _, fun i j hi hj => ?_⟩,
      .old 2 2 _ _ rfl rfl ⟨rfl, Nat.le_refl _, fun i j hi hj => .eq _ _ rfl (.int _ _)⟩, .old 3 3 _ _ rfl rfl ⟨rfl, Nat.le_refl _, fun i j hi hj => .eq _ _ rfl (.int _ _)⟩, trivial⟩ rfl rfl
    exact eight hi hj rfl rfl rfl rfl rfl rfl rfl rfl
  · rintro q l m ⟨j, off, cp, rfl, rfl, hq, rfl⟩
    conv => whnf
    refine condB_mk (fun hc => ?_) (fun hc => ?_)
    · have hc : 0 < q := by simp at hc; omega
      conv => whnf
      have hj : j < padN n / 64 := by omega
      refine loop_wk mixed (I := fun q' l m => ∃ (k : Nat), l = [(2, .ptr 0 0 0), (3, .ptr 1 0 0), (4, .sl 2 0 64 capk), (5, .sl 3 (64 * j) (64 * q) cp), (6, .ptr 4 0 0), (32, .int .i64 k)] ∧
          m = [some ⟨1, 32, fun _ _ => .int .u8 0⟩, some ⟨1, 8, u32G (Hn b j)⟩, some ⟨1, 64, u32G kTab⟩, some ⟨1, padN n, bytesG b⟩, some ⟨1, 64, u32G (Wn (blkB b j) k)⟩] ∧ q' + k = 64) 64
        (l0 := [(2, .ptr 0 0 0), (3, .ptr 1 0 0), (4, .sl 2 0 64 capk), (5, .sl 3 (64 * j) (64 * q) cp), (6, .ptr 4 0 0), (32, .int .i64 (0 : Nat))])
        (m0 := [some ⟨1, 32, fun _ _ => .int .u8 0⟩, some ⟨1, 8, u32G (Hn b j)⟩, some ⟨1, 64, u32G kTab⟩, some ⟨1, padN n, bytesG b⟩, some ⟨1, 64, u32G (Wn (blkB b j) 0)⟩]) [some 0, some 1, some 2, some 3, some 4] ⟨0, rfl, rfl, rfl⟩ ?_ ?_
      · refine .mk0 ⟨.ptr _ _ _ _ rfl, .ptr _ _ _ _ rfl, .sl _ _ _ _ _ rfl, .sl _ _ _ _ _ rfl, .ptr _ _ _ _ rfl, Flat.i rfl, trivial⟩ ⟨.old 0 0 _ _ rfl rfl ⟨rfl, Nat.le_refl _, fun i j hi hj => .eq _ _ rfl (.int _ _)⟩, .old 1 1 _ _ rfl rfl ⟨rfl, Nat.le_refl _, fun i j hi hj => .eq _ _ rfl (.int _ _)⟩,
          .old 2 2 _ _ rfl rfl ⟨rfl, Nat.le_refl _, fun i j hi hj => .eq _ _ rfl (.int _ _)⟩, .old 3 3 _ _ rfl rfl ⟨rfl, Nat.le_refl _, fun i j hi hj => .eq _ _ rfl (.int _ _)⟩, .old 4 4 _ _ rfl rfl ⟨rfl, Nat.le_refl _, fun i j hi hj => ?_⟩, trivial⟩ rfl rfl
        have hj : j < 1 := hj
        obtain rfl : j = 0 := by omega
        exact .eq _ _ rfl (.int _ _)
      · rintro q' l m ⟨k, rfl, rfl, hk⟩
        conv => whnf
        refine condB_mk (fun hc => ?_) (fun hc => ?_)
        · have hc : k < 64 := by simp at hc; omega
          conv => whnf
          refine condB_mk (fun hd => ?_) (fun hd => ?_)
          · have hd : k < 16 := by simp at hd; omega
            conv => whnf
            have e1 : IntKind.i64.wrap (4 * (k : Int)) = ((4 * k : Nat) : Int) := by rw [w64 (by omega) (by omega)]; omega
            have e2 : IntKind.i64.wrap (((4 * k : Nat) : Int) + 4) = ((4 * k + 4 : Nat) : Int) := by rw [w64 (by omega) (by omega)]; omega
            simp only [e1, e2, Int.toNat_natCast]
            refine condB_ok (by simp; omega) ?_
            conv => whnf
            simp only [Nat.add_sub_cancel_left]
            refine S_high (n := 4) (f := fun i => b (64 * j + 4 * k + i)) (Shows.any rfl (by omega) (fun i hi => rfl)) (by omega) (fun i _ => hb _) ?_
            conv => whnf
            have e3 : IntKind.u32.wrap (getV (fun i => b (64 * j + 4 * k + i)) 0 4) = Wn (blkB b j) (k + 1) k := by
              obtain ⟨g1, g2⟩ := getV_lt (f := fun i => b (64 * j + 4 * k + i)) (p := 0) (k := 4) (fun i _ => hb _)
              rw [wu32, show Wn (blkB b j) (k + 1) k = newW (blkB b j) k (Wn (blkB b j) k) from if_pos rfl, newW, if_pos hd]
              rw [Int.emod_eq_of_lt g1 (by omega)]
              simp only [getV, blkB, Nat.zero_add, Nat.add_zero, Nat.add_assoc]
            simp only [e3]
            refine condB_ok (by simp; omega) ?_
            conv => whnf
            simp only [Int.toNat_natCast, Nat.zero_add]
            refine condB_ok (by simp [roomG, Nat.ble_eq]; omega) ?_
            conv => whnf
            have e4 : IntKind.i64.wrap ((k : Int) + 1) = ((k + 1 : Nat) : Int) := by rw [w64 (by omega) (by omega)]; omega
            refine ⟨q' - 1, [(2, .ptr 0 0 0), (3, .ptr 1 0 0), (4, .sl 2 0 64 capk), (5, .sl 3 (64 * j) (64 * q) cp), (6, .ptr 4 0 0), (32, .int .i64 ((k + 1 : Nat) : Int))],
              [some ⟨1, 32, fun _ _ => .int .u8 0⟩, some ⟨1, 8, u32G (Hn b j)⟩, some ⟨1, 64, u32G kTab⟩, some ⟨1, padN n, bytesG b⟩, some ⟨1, 64, u32G (Wn (blkB b j) (k + 1))⟩], [some 0, some 1, some 2, some 3, some 4], by omega, ⟨k + 1, rfl, rfl, by omega⟩, ?_⟩
            refine .mk0 ⟨.ptr _ _ _ _ rfl, .ptr _ _ _ _ rfl, .sl _ _ _ _ _ rfl, .sl _ _ _ _ _ rfl, .ptr _ _ _ _ rfl, Flat.i e4, trivial⟩ ⟨.old 0 0 _ _ rfl rfl ⟨rfl, Nat.le_refl _, fun i j hi hj => .eq _ _ rfl (.int _ _)⟩, .old 1 1 _ _ rfl rfl ⟨rfl, Nat.le_refl _, fun i j hi hj => .eq _ _ rfl (.int _ _)⟩,
              .old 2 2 _ _ rfl rfl ⟨rfl, Nat.le_refl _, fun i j hi hj => .eq _ _ rfl (.int _ _)⟩, .old 3 3 _ _ rfl rfl ⟨rfl, Nat.le_refl _, fun i j hi hj => .eq _ _ rfl (.int _ _)⟩, .old 4 4 _ _ rfl rfl ⟨rfl, Nat.le_refl _, fun i j hi hj => ?_⟩, trivial⟩ rfl rfl
            exact updW hj rfl
          · have hd : ¬ k < 16 := by simp at hd; omega
            conv => whnf
            have e1 : IntKind.i64.wrap ((k : Int) - 15) = ((k - 15 : Nat) : Int) := by rw [w64 (by omega) (by omega)]; omega
            have e2 : IntKind.i64.wrap ((k : Int) - 2) = ((k - 2 : Nat) : Int) := by rw [w64 (by omega) (by omega)]; omega
            have e3 : IntKind.i64.wrap ((k : Int) - 16) = ((k - 16 : Nat) : Int) := by rw [w64 (by omega) (by omega)]; omega
            have e4 : IntKind.i64.wrap ((k : Int) - 7) = ((k - 7 : Nat) : Int) := by rw [w64 (by omega) (by omega)]; omega
            simp only [e1]
            refine condB_ok (by simp; omega) ?_
            conv => whnf
            simp only [Int.toNat_natCast, Nat.zero_add]
            refine condB_ok (by simp [roomG, Nat.ble_eq]; omega) ?_
            conv => whnf
            simp only [e2]
            refine condB_ok (by simp; omega) ?_
            conv => whnf
            simp only [Int.toNat_natCast, Nat.zero_add]
            refine condB_ok (by simp [roomG, Nat.ble_eq]; omega) ?_
            conv => whnf
            refine S_rot _ _ ?_
            conv => whnf
            refine S_rot _ _ ?_
            conv => whnf
            refine S_rot _ _ ?_
            conv => whnf
            refine S_rot _ _ ?_
            conv => whnf
            simp only [e3]
            refine condB_ok (by simp; omega) ?_
            conv => whnf
            simp only [Int.toNat_natCast, Nat.zero_add]
            refine condB_ok (by simp [roomG, Nat.ble_eq]; omega) ?_
            conv => whnf
            simp only [e4]
            refine condB_ok (by simp; omega) ?_
            conv => whnf
            simp only [Int.toNat_natCast, Nat.zero_add]
            refine condB_ok (by simp [roomG, Nat.ble_eq]; omega) ?_
            conv => whnf
            refine condB_ok (by simp; omega) ?_
            conv => whnf
            simp only [Int.toNat_natCast, Nat.zero_add]
            refine condB_ok (by simp [roomG, Nat.ble_eq]; omega) ?_
            conv => whnf
            have e5 : IntKind.i64.wrap ((k : Int) + 1) = ((k + 1 : Nat) : Int) := by rw [w64 (by omega) (by omega)]; omega
            have eW : Wn (blkB b j) (k + 1) k = addU (addU (addU (Wn (blkB b j) k (k - 16)) (sigA (Wn (blkB b j) k (k - 15)))) (Wn (blkB b j) k (k - 7))) (sigB (Wn (blkB b j) k (k - 2))) := by
              rw [show Wn (blkB b j) (k + 1) k = newW (blkB b j) k (Wn (blkB b j) k) from if_pos rfl, newW, if_neg hd]
            refine ⟨q' - 1, [(2, .ptr 0 0 0), (3, .ptr 1 0 0), (4, .sl 2 0 64 capk), (5, .sl 3 (64 * j) (64 * q) cp), (6, .ptr 4 0 0), (32, .int .i64 ((k + 1 : Nat) : Int))],
              [some ⟨1, 32, fun _ _ => .int .u8 0⟩, some ⟨1, 8, u32G (Hn b j)⟩, some ⟨1, 64, u32G kTab⟩, some ⟨1, padN n, bytesG b⟩, some ⟨1, 64, u32G (Wn (blkB b j) (k + 1))⟩], [some 0, some 1, some 2, some 3, some 4], by omega, ⟨k + 1, rfl, rfl, by omega⟩, ?_⟩
            refine .mk0 ⟨.ptr _ _ _ _ rfl, .ptr _ _ _ _ rfl, .sl _ _ _ _ _ rfl, .sl _ _ _ _ _ rfl, .ptr _ _ _ _ rfl, Flat.i e5, trivial⟩ ⟨.old 0 0 _ _ rfl rfl ⟨rfl, Nat.le_refl _, fun i j hi hj => .eq _ _ rfl (.int _ _)⟩, .old 1 1 _ _ rfl rfl ⟨rfl, Nat.le_refl _, fun i j hi hj => .eq _ _ rfl (.int _ _)⟩,
              .old 2 2 _ _ rfl rfl ⟨rfl, Nat.le_refl _, fun i j hi hj => .eq _ _ rfl (.int _ _)⟩, .old 3 3 _ _ rfl rfl ⟨rfl, Nat.le_refl _, fun i j hi hj => .eq _ _ rfl (.int _ _)⟩, .old 4 4 _ _ rfl rfl ⟨rfl, Nat.le_refl _, fun i j hi hj => ?_⟩, trivial⟩ rfl rfl
            exact updW hj (by rw [eW]; rfl)
        · have hc : k = 64 := by simp at hc; omega
          subst hc
          conv => whnf
          generalize hW : Wn (blkB b j) 64 = w
          generalize hH : Hn b j = h
          refine loop_wk mixed (I := fun q' l m => ∃ (k : Nat), l = [(2, .ptr 0 0 0), (3, .ptr 1 0 0), (4, .sl 2 0 64 capk), (5, .sl 3 (64 * j) (64 * q) cp), (6, .ptr 4 0 0), (12, .ptr 5 0 0), (89, .int .i64 k)] ∧
              m = [some ⟨1, 32, fun _ _ => .int .u8 0⟩, some ⟨1, 8, u32G h⟩, some ⟨1, 64, u32G kTab⟩, some ⟨1, padN n, bytesG b⟩, some ⟨1, 64, u32G w⟩, some ⟨1, 8, u32G (Rn h w k)⟩] ∧ q' + k = 64) 64
            (l0 := [(2, .ptr 0 0 0), (3, .ptr 1 0 0), (4, .sl 2 0 64 capk), (5, .sl 3 (64 * j) (64 * q) cp), (6, .ptr 4 0 0), (12, .ptr 5 0 0), (89, .int .i64 (0 : Nat))])
            (m0 := [some ⟨1, 32, fun _ _ => .int .u8 0⟩, some ⟨1, 8, u32G h⟩, some ⟨1, 64, u32G kTab⟩, some ⟨1, padN n, bytesG b⟩, some ⟨1, 64, u32G w⟩, some ⟨1, 8, u32G (Rn h w 0)⟩]) [some 0, some 1, some 2, some 3, some 4, some 5] ⟨0, rfl, rfl, rfl⟩ ?_ ?_
          · refine .mk0 ⟨.ptr _ _ _ _ rfl, .ptr _ _ _ _ rfl, .sl _ _ _ _ _ rfl, .sl _ _ _ _ _ rfl, .ptr _ _ _ _ rfl, .ptr _ _ _ _ rfl, Flat.i rfl, trivial⟩ ⟨.old 0 0 _ _ rfl rfl ⟨rfl, Nat.le_refl _, fun i j hi hj => .eq _ _ rfl (.int _ _)⟩, .old 1 1 _ _ rfl rfl ⟨rfl, Nat.le_refl _, fun i j hi hj => .eq _ _ rfl (.int _ _)⟩,
              .old 2 2 _ _ rfl rfl ⟨rfl, Nat.le_refl _, fun i j hi hj => .eq _ _ rfl (.int _ _)⟩, .old 3 3 _ _ rfl rfl ⟨rfl, Nat.le_refl _, fun i j hi hj => .eq _ _ rfl (.int _ _)⟩, .old 4 4 _ _ rfl rfl ⟨rfl, Nat.le_refl _, fun i j hi hj => .eq _ _ rfl (.int _ _)⟩, .old 5 5 _ _ rfl rfl ⟨rfl, Nat.le_refl _, fun i j hi hj => ?_⟩, trivial⟩ rfl rfl
            exact eightC hi hj rfl
          · rintro q' l m ⟨k, rfl, rfl, hk⟩
            conv => whnf
            refine condB_mk (fun hc => ?_) (fun hc => ?_)
            · have hc : k < 64 := by simp at hc; omega
              conv => whnf
              generalize hR : Rn h w k = r
              refine S_rot _ _ ?_
              conv => whnf
              refine S_rot _ _ ?_
              conv => whnf
              refine S_rot _ _ ?_
              conv => whnf
              refine condB_ok (by simp; omega) ?_
              conv => whnf
              simp only [Int.toNat_natCast, Nat.zero_add]
              refine condB_ok (by simp [roomG, Nat.ble_eq]; omega) ?_
              conv => whnf
              refine condB_ok (by simp; omega) ?_
              conv => whnf
              simp only [Int.toNat_natCast, Nat.zero_add]
              refine condB_ok (by simp [roomG, Nat.ble_eq]; omega) ?_
              conv => whnf
              refine S_rot _ _ ?_
              conv => whnf
              refine S_rot _ _ ?_
              conv => whnf
              refine S_rot _ _ ?_
              conv => whnf
              have e5 : IntKind.i64.wrap ((k : Int) + 1) = ((k + 1 : Nat) : Int) := by rw [w64 (by omega) (by omega)]; omega
              have eR : Rn h w (k + 1) = rnd r (kTab k) (w k) := by rw [← hR]; rfl
              refine ⟨q' - 1, [(2, .ptr 0 0 0), (3, .ptr 1 0 0), (4, .sl 2 0 64 capk), (5, .sl 3 (64 * j) (64 * q) cp), (6, .ptr 4 0 0), (12, .ptr 5 0 0), (89, .int .i64 ((k + 1 : Nat) : Int))],
                [some ⟨1, 32, fun _ _ => .int .u8 0⟩, some ⟨1, 8, u32G h⟩, some ⟨1, 64, u32G kTab⟩, some ⟨1, padN n, bytesG b⟩, some ⟨1, 64, u32G w⟩, some ⟨1, 8, u32G (Rn h w (k + 1))⟩], [some 0, some 1, some 2, some 3, some 4, some 5], by omega, ⟨k + 1, rfl, rfl, by omega⟩, ?_⟩
              rw [eR]
              refine .mk0 ⟨.ptr _ _ _ _ rfl, .ptr _ _ _ _ rfl, .sl _ _ _ _ _ rfl, .sl _ _ _ _ _ rfl, .ptr _ _ _ _ rfl, .ptr _ _ _ _ rfl, Flat.i e5, trivial⟩ ⟨.old 0 0 _ _ rfl rfl ⟨rfl, Nat.le_refl _, fun i j hi hj => .eq _ _ rfl (.int _ _)⟩, .old 1 1 _ _ rfl rfl ⟨rfl, Nat.le_refl _, fun i j hi hj => .eq _ _ rfl (.int _ _)⟩,
                .old 2 2 _ _ rfl rfl ⟨rfl, Nat.le_refl _, fun i j hi hj => .eq _ _ rfl (.int _ _)⟩, .old 3 3 _ _ rfl rfl ⟨rfl, Nat.le_refl _, fun i j hi hj => .eq _ _ rfl (.int _ _)⟩, .old 4 4 _ _ rfl rfl ⟨rfl, Nat.le_refl _, fun i j hi hj => .eq _ _ rfl (.int _ _)⟩, .old 5 5 _ _ rfl rfl ⟨rfl, Nat.le_refl _, fun i j hi hj => ?_⟩, trivial⟩ rfl rfl
              exact eight hi hj rfl rfl rfl rfl rfl rfl rfl rfl
            · have hc : k = 64 := by simp at hc; omega
              subst hc
              conv => whnf
              generalize hR : Rn h w 64 = r
              have hNext : Hn b (j + 1) = fun i => addU (h i) (r i) := by
                rw [show Hn b (j + 1) = nextH (Hn b j) (Wn (blkB b j) 64) from rfl, hW, hH]
                funext i
                rw [nextH, hR]
              refine loop_wk mixed (I := fun q' l m => ∃ (k : Nat), l = [(2, .ptr 0 0 0), (3, .ptr 1 0 0), (4, .sl 2 0 64 capk), (5, .sl 3 (64 * j) (64 * q) cp), (12, .ptr 5 0 0), (172, .int .i64 k)] ∧
                  m = [some ⟨1, 32, fun _ _ => .int .u8 0⟩, some ⟨1, 8, u32G (fun i => if i < k then addU (h i) (r i) else h i)⟩, some ⟨1, 64, u32G kTab⟩, some ⟨1, padN n, bytesG b⟩, none, some ⟨1, 8, u32G r⟩] ∧ q' + k = 8) 8
                (l0 := [(2, .ptr 0 0 0), (3, .ptr 1 0 0), (4, .sl 2 0 64 capk), (5, .sl 3 (64 * j) (64 * q) cp), (12, .ptr 5 0 0), (172, .int .i64 (0 : Nat))])
                (m0 := [some ⟨1, 32, fun _ _ => .int .u8 0⟩, some ⟨1, 8, u32G (fun i => if i < 0 then addU (h i) (r i) else h i)⟩, some ⟨1, 64, u32G kTab⟩, some ⟨1, padN n, bytesG b⟩, none, some ⟨1, 8, u32G r⟩]) [some 0, some 1, some 2, some 3, none, some 5] ⟨0, rfl, rfl, rfl⟩ ?_ ?_
              · refine .mk0 ⟨.ptr _ _ _ _ rfl, .ptr _ _ _ _ rfl, .sl _ _ _ _ _ rfl, .sl _ _ _ _ _ rfl, .ptr _ _ _ _ rfl, Flat.i rfl, trivial⟩ ⟨.old 0 0 _ _ rfl rfl ⟨rfl, Nat.le_refl _, fun i j hi hj => .eq _ _ rfl (.int _ _)⟩, .old 1 1 _ _ rfl rfl ⟨rfl, Nat.le_refl _, fun i j hi hj => ?_⟩,
                  .old 2 2 _ _ rfl rfl ⟨rfl, Nat.le_refl _, fun i j hi hj => .eq _ _ rfl (.int _ _)⟩, .old 3 3 _ _ rfl rfl ⟨rfl, Nat.le_refl _, fun i j hi hj => .eq _ _ rfl (.int _ _)⟩, .dead _, .old 5 5 _ _ rfl rfl ⟨rfl, Nat.le_refl _, fun i j hi hj => .eq _ _ rfl (.int _ _)⟩, trivial⟩ rfl rfl
                exact .eq _ _ (by simp only [u32G]; rw [if_neg (Nat.not_lt_zero _)]) (.int _ _)
              · rintro q' l m ⟨k, rfl, rfl, hk⟩
                conv => whnf
                refine condB_mk (fun hc => ?_) (fun hc => ?_)
                · have hc : k < 8 := by simp at hc; omega
                  conv => whnf
                  refine condB_ok (by simp; omega) ?_
                  conv => whnf
                  simp only [Int.toNat_natCast, Nat.zero_add]
                  refine condB_ok (by simp [roomG, Nat.ble_eq]; omega) ?_
                  conv => whnf
                  refine condB_ok (by simp; omega) ?_
                  conv => whnf
                  simp only [Int.toNat_natCast, Nat.zero_add]
                  refine condB_ok (by simp [roomG, Nat.ble_eq]; omega) ?_
                  conv => whnf
                  refine condB_ok (by simp; omega) ?_
                  conv => whnf
                  simp only [Int.toNat_natCast, Nat.zero_add]
                  refine condB_ok (by simp [roomG, Nat.ble_eq]; omega) ?_
                  conv => whnf
                  have e5 : IntKind.i64.wrap ((k : Int) + 1) = ((k + 1 : Nat) : Int) := by rw [w64 (by omega) (by omega)]; omega
                  refine ⟨q' - 1, [(2, .ptr 0 0 0), (3, .ptr 1 0 0), (4, .sl 2 0 64 capk), (5, .sl 3 (64 * j) (64 * q) cp), (12, .ptr 5 0 0), (172, .int .i64 ((k + 1 : Nat) : Int))],
                    [some ⟨1, 32, fun _ _ => .int .u8 0⟩, some ⟨1, 8, u32G (fun i => if i < k + 1 then addU (h i) (r i) else h i)⟩, some ⟨1, 64, u32G kTab⟩, some ⟨1, padN n, bytesG b⟩, none, some ⟨1, 8, u32G r⟩], [some 0, some 1, some 2, some 3, none, some 5], by omega, ⟨k + 1, rfl, rfl, by omega⟩, ?_⟩
                  refine .mk0 ⟨.ptr _ _ _ _ rfl, .ptr _ _ _ _ rfl, .sl _ _ _ _ _ rfl, .sl _ _ _ _ _ rfl, .ptr _ _ _ _ rfl, Flat.i e5, trivial⟩ ⟨.old 0 0 _ _ rfl rfl ⟨rfl, Nat.le_refl _, fun i j hi hj => .eq _ _ rfl (.int _ _)⟩, .old 1 1 _ _ rfl rfl ⟨rfl, Nat.le_refl _, fun i j hi hj => ?_⟩,
                    .old 2 2 _ _ rfl rfl ⟨rfl, Nat.le_refl _, fun i j hi hj => .eq _ _ rfl (.int _ _)⟩, .old 3 3 _ _ rfl rfl ⟨rfl, Nat.le_refl _, fun i j hi hj => .eq _ _ rfl (.int _ _)⟩, .dead _, .old 5 5 _ _ rfl rfl ⟨rfl, Nat.le_refl _, fun i j hi hj => .eq _ _ rfl (.int _ _)⟩, trivial⟩ rfl rfl
                  exact updH hj rfl
                · have hc : k = 8 := by simp at hc; omega
                  subst hc
                  conv => whnf
                  refine condB_ok (by simp; omega) ?_
                  conv => whnf
                  refine ⟨q - 1, [(2, .ptr 0 0 0), (3, .ptr 1 0 0), (4, .sl 2 0 64 capk), (5, .sl 3 (64 * (j + 1)) (64 * (q - 1)) (cp - 64))],
                    [some ⟨1, 32, fun _ _ => .int .u8 0⟩, some ⟨1, 8, u32G (Hn b (j + 1))⟩, some ⟨1, 64, u32G kTab⟩, some ⟨1, padN n, bytesG b⟩], [some 0, some 1, some 2, some 3], by omega, ⟨j + 1, 64 * (j + 1), cp - 64, rfl, rfl, by omega, rfl⟩, ?_⟩
                  rw [hNext]
                  refine .mk0 ⟨.ptr _ _ _ _ rfl, .ptr _ _ _ _ rfl, .sl _ _ _ _ _ rfl, ?_, trivial⟩ ⟨.old 0 0 _ _ rfl rfl ⟨rfl, Nat.le_refl _, fun i j hi hj => .eq _ _ rfl (.int _ _)⟩, .old 1 1 _ _ rfl rfl ⟨rfl, Nat.le_refl _, fun i j hi hj => ?_⟩,
                    .old 2 2 _ _ rfl rfl ⟨rfl, Nat.le_refl _, fun i j hi hj => .eq _ _ rfl (.int _ _)⟩, .old 3 3 _ _ rfl rfl ⟨rfl, Nat.le_refl _, fun i j hi hj => .eq _ _ rfl (.int _ _)⟩, trivial⟩ rfl rfl
                  · have : AV.sl 3 (64 * (j + 1)) (64 * (q - 1)) (cp - 64) = .sl 3 (64 * j + (64 : Int).toNat) (64 * q - (64 : Int).toNat) (cp - (64 : Int).toNat) := by
                      rw [show (64 : Int).toNat = 64 from rfl, show 64 * (j + 1) = 64 * j + 64 by omega, show 64 * (q - 1) = 64 * q - 64 by omega]
                    rw [this]
                    exact .sl _ _ _ _ _ rfl
                  · have hi : i < 8 := hi
                    exact .eq _ _ (by simp only [u32G]; rw [if_pos hi]) (.int _ _)
    · have hc : q = 0 := by simp at hc; omega
      conv => whnf
      obtain rfl : j = padN n / 64 := by omega
      generalize hH : Hn b (padN n / 64) = h
      have hS : ∀ i, i < 32 → sumB n f i = IntKind.u8.wrap ((h (i / 4)).fdiv (2 ^ (24 - 8 * (i % 4)))) := fun i hi => by rw [sumB, hB, hH]
      refine loop_wk mixed (I := fun q' l m => ∃ (k : Nat), l = [(2, .ptr 0 0 0), (3, .ptr 1 0 0), (21, .ptr 2 0 0), (184, .int .i64 k)] ∧
          m = [some ⟨1, 32, fun _ _ => .int .u8 0⟩, some ⟨1, 8, u32G h⟩, some ⟨1, 32, bytesG (fun i => if i < k then sumB n f i else 0)⟩] ∧ q' + k = 32) 32
        (l0 := [(2, .ptr 0 0 0), (3, .ptr 1 0 0), (21, .ptr 2 0 0), (184, .int .i64 (0 : Nat))])
        (m0 := [some ⟨1, 32, fun _ _ => .int .u8 0⟩, some ⟨1, 8, u32G h⟩, some ⟨1, 32, bytesG (fun i => if i < 0 then sumB n f i else 0)⟩]) [some 0, some 1, some 4] ⟨0, rfl, rfl, rfl⟩ ?_ ?_
      · refine .mk0 ⟨.ptr _ _ _ _ rfl, .ptr _ _ _ _ rfl, .ptr _ _ _ _ rfl, Flat.i rfl, trivial⟩ ⟨.old 0 0 _ _ rfl rfl ⟨rfl, Nat.le_refl _, fun i j hi hj => .eq _ _ rfl (.int _ _)⟩, .old 1 1 _ _ rfl rfl ⟨rfl, Nat.le_refl _, fun i j hi hj => .eq _ _ rfl (.int _ _)⟩, .old 2 4 _ _ rfl rfl ⟨rfl, Nat.le_refl _, fun i j hi hj => ?_⟩, trivial⟩ rfl rfl
        have hj : j < 1 := hj
        obtain rfl : j = 0 := by omega
        exact .eq _ _ (by simp only [bytesG]; rw [if_neg (Nat.not_lt_zero _)]; rfl) (.int _ _)
      · rintro q' l m ⟨k, rfl, rfl, hk⟩
        conv => whnf
        refine condB_mk (fun hc => ?_) (fun hc => ?_)
        · have hc : k < 32 := by simp at hc; omega
          conv => whnf
          have e1 : IntKind.i64.wrap ((k : Int).tdiv 4) = ((k / 4 : Nat) : Int) := by
            rw [Int.tdiv_eq_ediv_of_nonneg (by omega), w64 (by omega) (by omega)]; omega
          have e2 : (k : Int).tmod 4 = ((k % 4 : Nat) : Int) := tmod_nat k 4
          have e3 : IntKind.i64.wrap (8 * ((k % 4 : Nat) : Int)) = ((8 * (k % 4) : Nat) : Int) := by rw [w64 (by omega) (by omega)]; omega
          have e4 : IntKind.i64.wrap (24 - ((8 * (k % 4) : Nat) : Int)) = ((24 - 8 * (k % 4) : Nat) : Int) := by rw [w64 (by omega) (by omega)]; omega
          simp only [e1]
          refine condB_ok (by simp; omega) ?_
          conv => whnf
          simp only [Int.toNat_natCast, Nat.zero_add]
          refine condB_ok (by simp [roomG, Nat.ble_eq]; omega) ?_
          conv => whnf
          simp only [e2, e3, e4]
          conv => whnf
          refine condB_ok (by simp; omega) ?_
          conv => whnf
          simp only [Int.toNat_natCast, Nat.zero_add]
          refine condB_ok (by simp [roomG, Nat.ble_eq]; omega) ?_
          conv => whnf
          have e5 : IntKind.i64.wrap ((k : Int) + 1) = ((k + 1 : Nat) : Int) := by rw [w64 (by omega) (by omega)]; omega
          have e6 : min (24 - 8 * (k % 4)) IntKind.u32.bits = 24 - 8 * (k % 4) := by simp only [IntKind.bits]; omega
          refine ⟨q' - 1, [(2, .ptr 0 0 0), (3, .ptr 1 0 0), (21, .ptr 2 0 0), (184, .int .i64 ((k + 1 : Nat) : Int))],
            [some ⟨1, 32, fun _ _ => .int .u8 0⟩, some ⟨1, 8, u32G h⟩, some ⟨1, 32, bytesG (fun i => if i < k + 1 then sumB n f i else 0)⟩], [some 0, some 1, some 2], by omega, ⟨k + 1, rfl, rfl, by omega⟩, ?_⟩
          refine .mk0 ⟨.ptr _ _ _ _ rfl, .ptr _ _ _ _ rfl, .ptr _ _ _ _ rfl, Flat.i e5, trivial⟩ ⟨.old 0 0 _ _ rfl rfl ⟨rfl, Nat.le_refl _, fun i j hi hj => .eq _ _ rfl (.int _ _)⟩, .old 1 1 _ _ rfl rfl ⟨rfl, Nat.le_refl _, fun i j hi hj => .eq _ _ rfl (.int _ _)⟩, .old 2 2 _ _ rfl rfl ⟨rfl, Nat.le_refl _, fun i j hi hj => ?_⟩, trivial⟩ rfl rfl
          exact updO hj (hS k hc) e6 rfl
        · have hc : k = 32 := by simp at hc; omega
          subst hc
          conv => whnf
          exact outSum rfl

theorem S_Sum {m : Mem} {x : AV} {n : Nat} {f : Nat → Int} {K : AV → Mem → Prop} (hx : Shows m x n f) (hn : n ≤ 1000000) (hf : ∀ i, i < n → 0 ≤ f i ∧ f i ≤ 255) (h : K (.agg (sumL n f)) m) : ACall Pg F_sha_Sum [x] m K := by
  obtain ⟨cap, hl⟩ := hx
  refine lift_flat (S_Sum0 n cap f hn hf) (.cons _ _ _ _ hl .nil) ?_
  rintro v rfl
  exact h

end Go.Proofs.Ytjflfecdeicccaa
end

section
/- Rows of 32 bytes; no condition. -/
set_option linter.unusedVariables false
set_option linter.unusedSimpArgs false
set_option maxRecDepth 100000
set_option pp.maxSteps 300
namespace Go.Proofs.Ytjflfecdeicccaa
open Go Go.Wit

def rowL (s : Nat → Int) : List AV := (List.range 32).map fun i => .int .u8 (s i)
theorem flats_map {nv : Bool} {k : IntKind} {s : Nat → Int} : ∀ (l : List Nat), Flats nv (l.map fun i => AV.int k (s i))
  | [] => .nil
  | a :: l => .cons _ _ (.int _ _) (flats_map l)
theorem flat_rowL {s : Nat → Int} : Flats true (rowL s) := flats_map _
theorem flat_rowA {nv : Bool} {s : Nat → Int} : Flat nv (.agg (rowL s)) := .agg _ (flats_map _)
theorem rowL_get {s : Nat → Int} {i : Nat} (h : i < 32) : (rowL s).getD i .un = .int .u8 (s i) := by
  unfold rowL
  rw [List.getD_eq_getElem?_getD, List.getElem?_map, List.getElem?_range h]
  rfl
end Go.Proofs.Ytjflfecdeicccaa
end

section
/- Sums as rows; no condition. -/
set_option linter.unusedVariables false
set_option linter.unusedSimpArgs false
set_option maxRecDepth 100000
set_option pp.maxSteps 300
namespace Go.Proofs.Ytjflfecdeicccaa
open Go Go.Wit

theorem sumB_lt (n : Nat) (f : Nat → Int) (i : Nat) : 0 ≤ sumB n f i ∧ sumB n f i ≤ 255 := by
  unfold sumB
  rw [IntKind.wrap_u8]; omega

theorem S_SumR {m : Mem} {x : AV} {n : Nat} {f : Nat → Int} {K : AV → Mem → Prop} (hx : Shows m x n f) (hn : n ≤ 1000000) (hf : ∀ i, i < n → 0 ≤ f i ∧ f i ≤ 255) (h : ∀ s, s = sumB n f → (∀ i, 0 ≤ s i ∧ s i ≤ 255) → K (.agg (rowL s)) m) : ACall Pg F_sha_Sum [x] m K :=
  S_Sum hx hn hf (h _ rfl (sumB_lt n f))

theorem sumBlk {nv : Bool} {σ : Nat → Option Nat} {s : Nat → Int} {g : Nat → Nat → AV} {i j : Nat} {A : AV} (hi : i < 32) (hj : j < 1) (hA : A = updG ⟨1, 32, g⟩ 0 0 32 ((List.range 32).map fun i => .int .u8 (s i)) i j) : RV nv σ A (bytesG s i j) := by
  subst hA
  obtain rfl : j = 0 := by omega
  have : updG ⟨1, 32, g⟩ 0 0 32 ((List.range 32).map fun i => .int .u8 (s i)) i 0 = bytesG s i 0 := by
    rw [updG_all (by omega) hi, List.getD_eq_getElem?_getD, List.getElem?_map, List.getElem?_range hi]
    rfl
  rw [this]; exact .eq _ _ rfl (.int _ _)

theorem zeroB {nv : Bool} {σ : Nat → Option Nat} {a z : Nat → Int} {i j : Nat} {A : AV} (hA : A = .int .u8 (z i)) : RV nv σ A (bytesG (fun i => if i < 0 then a i else z i) i j) := by
  subst hA
  exact .eq _ _ (by simp only [bytesG]; rw [if_neg (Nat.not_lt_zero _)]) (.int _ _)

theorem copyB {n N i j : Nat} {f h : Nat → Int} (hn : n ≤ N) (hj : j < 1) : pickA (Nat.ble 0 i && Nat.blt i (0 + minN n N)) (bytesG f (i - 0) j) (bytesG h i j) = bytesG (fun i => if i < n then f i else h i) i 0 := by
  have e : minN n N = n := by rw [minN_eq]; omega
  have e0 : Nat.ble 0 i = true := by simp
  rw [e, pickA_eq, e0]
  by_cases hi : i < n
  · have : Nat.blt i n = true := by rw [Nat.blt_eq]; exact hi
    simp [bytesG, hi, this]
  · have : Nat.blt i n = false := by
      cases hb : Nat.blt i n with
      | false => rfl
      | true => rw [Nat.blt_eq] at hb; omega
    simp [bytesG, hi, this]

end Go.Proofs.Ytjflfecdeicccaa
end

section
/- Blocks of one's own that are left alone from here on: what points to them is told as views; no condition. -/
set_option linter.unusedVariables false
set_option linter.unusedSimpArgs false
namespace Go.Wit

/-- A value told anew, block l being left alone. -/
def FzV (l : Nat) (blk : Blk) (v v' : AV) : Prop := v' = v ∨ v' = .un ∨ ∃ o n c get, v = .sl l o n c ∧ v' = .vsl blk.es n c get ∧ o + n ≤ blk.n ∧ ∀ i j, i < n → j < blk.es → get i j = blk.get (o + i) j
def FzB (l : Nat) (blk : Blk) (k : Nat) (b b' : Option Blk) : Prop := b' = none ∨ (k ≠ l ∧ ∃ x y, b = some x ∧ b' = some y ∧ y.es = x.es ∧ y.n ≤ x.n ∧ ∀ i j, i < y.n → j < y.es → FzV l blk (x.get i j) (y.get i j))
def FzL (l : Nat) (blk : Blk) : Nat → Mem → Mem → Prop
  | _, [], [] => True
  | k, b :: r, b' :: r' => FzB l blk k b b' ∧ FzL l blk (k + 1) r r'
  | _, _, _ => False
theorem FzL.n {l k : Nat} {blk : Blk} : FzL l blk k [] [] := trivial
theorem FzL.c {l k : Nat} {blk : Blk} {b b' : Option Blk} {r r' : Mem} (h1 : FzB l blk k b b') (h2 : FzL l blk (k + 1) r r') : FzL l blk k (b :: r) (b' :: r') := ⟨h1, h2⟩
theorem FzL.len {l : Nat} {blk : Blk} : ∀ {k : Nat} {m m1 : Mem}, FzL l blk k m m1 → m1.length = m.length
  | _, [], [], _ => rfl
  | k, b :: r, b' :: r', h => by simp [FzL.len h.2]
  | _, [], b' :: r', h => h.elim
  | _, b :: r, [], h => h.elim
theorem FzL.get {l : Nat} {blk : Blk} : ∀ {k : Nat} {m m1 : Mem}, FzL l blk k m m1 → ∀ i b', m1[i]? = some b' → ∃ b, m[i]? = some b ∧ FzB l blk (k + i) b b'
  | _, [], [], _, i, b', h => by simp at h
  | k, b :: r, c :: r', h, 0, b', hb => by
    simp at hb; subst hb
    exact ⟨b, rfl, h.1⟩
  | k, b :: r, c :: r', h, i + 1, b', hb => by
    obtain ⟨x, h1, h2⟩ := FzL.get h.2 i b' (by simpa using hb)
    exact ⟨x, by simpa using h1, by rw [show k + (i + 1) = k + 1 + i by omega]; exact h2⟩
  | _, [], b' :: r', h, _, _, _ => h.elim
  | _, b :: r, [], h, _, _, _ => h.elim

theorem MRel.frz {C : Ctx} {m m1 : Mem} {w : World} {L : Lay} (hR : MRel C m w L) {l : Nat} {blk : Blk} (hl : m[l]? = some (some blk)) (hm : FzL l blk 0 m m1) :
    MRel C m1 w L ∧ Ext w.heap L (OO C m L) w.heap L (OO C m1 L) := by
  have hlen := hm.len
  have hget : ∀ {i : Nat} {y : Blk}, m1[i]? = some (some y) → i ≠ l ∧ ∃ x, m[i]? = some (some x) ∧ y.es = x.es ∧ y.n ≤ x.n ∧ ∀ a b, a < y.n → b < y.es → FzV l blk (x.get a b) (y.get a b) := by
    intro i y hi
    obtain ⟨b, h1, h2⟩ := hm.get i _ hi
    rcases h2 with h2 | ⟨h3, x, y', rfl, h5, h6, h7, h8⟩
    · cases h2
    · obtain rfl := Option.some.inj h5
      rw [Nat.zero_add] at h3
      exact ⟨h3, x, h1, h6, h7, h8⟩
  have hown : ∀ b, own m1 L b → own m L b := by
    rintro b ⟨i, y, e, h1, h2, h3, h4⟩
    obtain ⟨_, x, h5, _⟩ := hget h1
    exact ⟨i, x, e, h5, h2, h3, h4⟩
  have hext : Ext w.heap L (OO C m L) w.heap L (OO C m1 L) :=
    ⟨fun l e h => h, fun b _ _ => rfl, fun b _ hO hO' => hO (hO'.elim .inl fun h => .inr (hown b h))⟩
  refine ⟨⟨hR.os, hR.tape, hR.output, hR.size, hR.frame, fun i hi => hR.lay i (by omega), fun i y hi => ?_, fun i i' b b' e e' h1 h2 h3 h4 t1 t2 h5 => ?_, fun i hi => ⟨by rw [hlen]; exact (hR.base i hi).1, (hR.base i hi).2⟩, hR.xlt, fun b hb => hR.notX b (hown b hb)⟩, hext⟩
  · obtain ⟨hne, x, g1, g2, g3, g4⟩ := hget hi
    obtain ⟨e, k1, k2, k3, k0⟩ := hR.blk i x g1
    refine ⟨e, k1, by rw [k2, g2], by omega, fun ht => ?_⟩
    obtain ⟨c, T, k4, k5, k6, k7⟩ := k0 ht
    refine ⟨c, T, k4, k5, k6, fun a b ha hb => ?_⟩
    obtain ⟨v, r1, r2, r3⟩ := k7 a b (by omega) (by rw [← g2]; exact hb)
    refine ⟨v, by rw [g2]; exact r1, ?_, r3⟩
    rcases g4 a b ha hb with h | h | ⟨o, n, cp, get, h1, h2, h3, h4⟩
    · rw [h]; exact r2.ext hext
    · rw [h]; exact .un _
    · rw [h1] at r2
      rw [h2]
      cases r2 with
      | sl0 _ _ ad => exact .vsl0 _ _ _
      | sl0n _ _ => exact .vsl0 _ _ _
      | sl _ _ _ _ le q1 q2 q3 =>
        obtain ⟨e2, p1, p2, p3, p0⟩ := hR.blk l blk hl
        rw [q1] at p1; obtain rfl := Option.some.inj p1
        by_cases hc0 : cp = 0
        · subst hc0
          obtain rfl : n = 0 := by omega
          exact .vsl0 _ _ _
        have ht2 : 0 < le.tot := by omega
        obtain ⟨c2, T2, p4, p5, p6, p7⟩ := p0 ht2
        have key : ∀ a b, a < n → b < blk.es → ∃ v, cellAt w.heap le.b (o * le.es + (a * blk.es + b)) = some v ∧ VR w.heap L (OO C m L) (blk.get (o + a) b) v ∧ v.oneCell' = true := by
          intro a b ha hb
          obtain ⟨v, s1, s2, s3⟩ := p7 (o + a) b (by omega) hb
          refine ⟨v, ?_, s2, s3⟩
          simp only [cellAt, p4]
          rw [← s1, p2]; congr 1
          rw [Nat.add_mul]; omega
        have hnO : ¬ OO C m1 L le.b := by
          rintro (hX | ⟨i2, y2, e3, s1, s2, s3, s4⟩)
          · exact hR.notX le.b ⟨l, blk, le, hl, q1, ht2, rfl⟩ hX
          · obtain ⟨hne2, x2, s5, _⟩ := hget s1
            exact hne2 (hR.inj i2 l x2 blk e3 le s5 hl s2 q1 s3 ht2 s4)
        classical
        refine .vsl _ _ _ _ le.b (o * le.es) (fun a b => if hij : a < n ∧ b < blk.es then (key a b hij.1 hij.2).choose else undef) q2 (fun a b ha hb => ?_) (fun a b ha hb => ?_)
        · have hk := (key a b ha hb).choose_spec
          rw [dif_pos ⟨ha, hb⟩]
          exact ⟨hnO, hk.1, hk.2.2⟩
        · have hk := (key a b ha hb).choose_spec
          rw [dif_pos ⟨ha, hb⟩, h4 a b ha hb]
          exact hk.2.1.ext hext
  · obtain ⟨_, x, g1, _⟩ := hget h1
    obtain ⟨_, x', g2, _⟩ := hget h2
    exact hR.inj i i' x x' e e' g1 g2 h3 h4 t1 t2 h5

/-- One block left alone, and another. -/
inductive FzM : Mem → Mem → Prop where
  | refl (m : Mem) : FzM m m
  | step (l : Nat) (blk : Blk) (m m1 m2 : Mem) : m[l]? = some (some blk) → FzL l blk 0 m m1 → FzM m1 m2 → FzM m m2
theorem FzM.rel {C : Ctx} {n : Nat} {e : Env} {m m1 : Mem} {a : Act} {w : World} {L : Lay} (h : FzM m m1) (hr : Rel C n e m a w L) : Rel C n e m1 a w L := by
  induction h with
  | refl => exact hr
  | step l blk m m1 m2 hl hm _ ih =>
    obtain ⟨h1, h2⟩ := hr.mem.frz hl hm
    exact ih ⟨hr.size, hr.defers, h1, fun t => (hr.env t).ext h2⟩

section
variable {D : DrawKit} {P : Program} {n k : Nat}
theorem AWp.fz {c : Code} {e : Env} {m m1 : Mem} {Q : XPost} (hf : FzM m m1) (h : AWp P n k c e m1 Q) : AWp P n k c e m Q := fun C a w L hk hr => h C a w L hk (hf.rel hr)
/-- A loop by what holds at the head of each round, blocks being left alone there. -/
theorem loop_fz (hm : P.follows .mixedOrders = true) {c : ACode} {e : Env} {m : Mem} {Q : XPost} (I : Nat → List (Nat × AV) → Mem → Prop) (k0 : Nat) {l0 : List (Nat × AV)} {m0 : Mem} (src : List (Option Nat)) (hi : I k0 l0 m0) (hw : Wk k e m l0 m0 src)
    (hstep : ∀ q l m, I q l m → mkEnvK l .nil fun e => vcCode D P n k c e m fun x e' m' => match x with
      | .normal => ∃ q' l' m1 m2 src, q' < q ∧ I q' l' m2 ∧ FzM m' m1 ∧ Wk k e' m1 l' m2 src
      | .exit i => Q (.exit i) e' m'
      | .ret => Q .ret e' m'
      | _ => False) : ALoop D P n k c e m Q := by
  refine loop_sem (fun q e m => ∃ l m1 m2 src, I q l m2 ∧ FzM m m1 ∧ Wk k e m1 l m2 src) k0 ⟨l0, m, m0, src, hi, .refl _, hw⟩ (fun q e1 m1 hI b hb => ?_)
  obtain ⟨l, m2, m3, s2, hI, hf, hw2⟩ := hI
  refine AWp.fz hf (AWp.wk hw2 ?_)
  have := hstep q l m3 hI
  rw [mkEnvK_eq] at this
  refine AWp.mono ?_ (vcCode_sound hm b c hb this)
  intro x e' m' h
  cases x with
  | normal =>
    obtain ⟨q', l', m4, m5, s3, h1, h2, h3, h4⟩ := h
    exact ⟨q', h1, l', m4, m5, s3, h2, h3, h4⟩
  | exit i => exact h
  | ret => exact h
  | _ => exact h.elim
end
end Go.Wit
end

section
/- Blocks: whether they may be, weighed, told anew, compared; no condition. -/
set_option linter.unusedVariables false
set_option linter.unusedSimpArgs false
set_option maxRecDepth 100000
set_option pp.maxSteps 3000
set_option pp.deepTerms false
set_option pp.deepTerms.threshold 7
namespace Go.Proofs.Ytjflfecdeicccaa
open Go Go.Wit

def txL (a : Int) (n c : Nat) (f : Nat → Int) : List AV := [.int .i64 a, .vsl 1 n c (bytesG f)]
/-- Rows of transactions. -/
def txG (A : Nat → Int) (N C : Nat → Nat) (F : Nat → Nat → Int) : Nat → Nat → AV := fun i j => (txL (A i) (N i) (C i) (F i)).getD j .un
theorem flat_bV {nv : Bool} {n cap : Nat} {f : Nat → Int} (h : nv = false) : Flat nv (.vsl 1 n cap (bytesG f)) := .vsl _ _ _ _ h fun _ _ _ _ => .int _ _
theorem flat_txG {A : Nat → Int} {N C : Nat → Nat} {F : Nat → Nat → Int} {i j : Nat} : Flat false (txG A N C F i j) := by
  match j with
  | 0 => exact .int _ _
  | 1 => exact flat_bV rfl
  | j + 2 => exact .un
theorem flat_txs {t cap : Nat} {A : Nat → Int} {N C : Nat → Nat} {F : Nat → Nat → Int} : Flat false (.vsl 2 t cap (txG A N C F)) := .vsl _ _ _ _ rfl fun _ _ _ _ => flat_txG
def ShowsT (m : Mem) (x : AV) (t : Nat) (A : Nat → Int) (N : Nat → Nat) (F : Nat → Nat → Int) : Prop := ∃ cap C, Lend (fun _ => none) (List.range m.length) m x (.vsl 2 t cap (txG A N C F))
theorem ShowsT.vsl {m : Mem} {t cap : Nat} {A : Nat → Int} {N C : Nat → Nat} {F : Nat → Nat → Int} : ShowsT m (.vsl 2 t cap (txG A N C F)) t A N F := ⟨cap, C, lend_flat flat_txs⟩
theorem ShowsT.nils {m : Mem} {A : Nat → Int} {N : Nat → Nat} {F : Nat → Nat → Int} : ShowsT m .nils 0 A N F := ⟨0, fun _ => 0, .nils _ _⟩
theorem ShowsT.own {m : Mem} {l t cap T : Nat} {A : Nat → Int} {N C : Nat → Nat} {F : Nat → Nat → Int} (h : m[l]? = some (some ⟨2, T, txG A N C F⟩)) (ht : t ≤ T) : ShowsT m (.sl l 0 t cap) t A N F :=
  ⟨cap, C, .sl l 0 t cap ⟨2, T, txG A N C F⟩ _ (List.mem_range.2 (lt_of_get h)) h (by show 0 + t ≤ T; omega) (fun i j _ _ => ⟨by rw [Nat.zero_add], flat_txG⟩)⟩
def bkL (p h s : Int) (x : AV) : List AV := [.int .i64 p, .int .i64 h, .int .i64 s, x]
def bkA (p h s : Int) (x : AV) : AV := .agg (bkL p h s x)
theorem flat_bkA {nv : Bool} {p h s : Int} {x : AV} (hx : Flat nv x) : Flat nv (bkA p h s x) := .agg _ (.cons _ _ (.int _ _) (.cons _ _ (.int _ _) (.cons _ _ (.int _ _) (.cons _ _ hx .nil))))
theorem lend_bk {B : List Nat} {m : Mem} {p h s : Int} {x x' : AV} (h1 : Lend (fun _ => none) B m x x') : Lend (fun _ => none) B m (bkA p h s x) (bkA p h s x') := by
  refine .aggR _ _ rfl (fun j hj => ?_)
  have hj : j < 4 := hj
  have : j = 0 ∨ j = 1 ∨ j = 2 ∨ j = 3 := by omega
  rcases this with rfl | rfl | rfl | rfl
  all_goals first
    | exact h1
    | exact .rv _ _ (.eq _ _ rfl (.int _ _))
theorem S_bCheck0 (b : Bk) (cap : Nat) (C : Nat → Nat) (ht : b.t ≤ 1000000000) : ACall Pg F_block_Check [bkA b.p b.h b.s (.vsl 2 b.t cap (txG b.A b.N C b.F))] [] (fun v _ => v = .int .i64 (bkE b) ∧ Flat true v) := by
  obtain ⟨p, h, s, t, A, N, F⟩ := b
  dsimp only at ht ⊢
  refine B_block_Check ⟨rfl, ?_⟩
  conv => whnf
  repeat (refine ⟨⟨_, rfl⟩, ?_⟩; conv => whnf)
  refine condB_mk (fun h1 => ?_) (fun h1 => ?_)
  rotate_left
  · have h1 := neqf_of h1
    conv => whnf
    repeat (refine ⟨⟨_, rfl⟩, ?_⟩; conv => whnf)
    exact ⟨by rw [bkE_bad (.inl (fun h => absurd h (by dsimp only; omega)))], .int _ _⟩
  have h1 := eqf_of h1
  conv => whnf
  repeat (refine ⟨⟨_, rfl⟩, ?_⟩; conv => whnf)
  refine condB_mk (fun h2 => ?_) (fun h2 => ?_)
  rotate_left
  · have h2 := neqf_of h2
    conv => whnf
    repeat (refine ⟨⟨_, rfl⟩, ?_⟩; conv => whnf)
    exact ⟨by rw [bkE_bad (.inl (fun h => absurd h (by dsimp only; omega)))], .int _ _⟩
  have h2 := eqf_of h2
  conv => whnf
  repeat (refine ⟨⟨_, rfl⟩, ?_⟩; conv => whnf)
  refine condB_mk (fun h3 => ?_) (fun h3 => ?_)
  rotate_left
  · have h3 := neqf_of h3
    conv => whnf
    repeat (refine ⟨⟨_, rfl⟩, ?_⟩; conv => whnf)
    exact ⟨by rw [bkE_bad (.inl (fun h => absurd h (by dsimp only; omega)))], .int _ _⟩
  have h3 := eqf_of h3
  conv => whnf
  repeat (refine ⟨⟨_, rfl⟩, ?_⟩; conv => whnf)
  refine condB_mk (fun h4 => ?_) (fun h4 => ?_)
  rotate_left
  · have h4 := neqf_of h4
    conv => whnf
    repeat (refine ⟨⟨_, rfl⟩, ?_⟩; conv => whnf)
    exact ⟨by rw [bkE_bad (.inl (fun h => absurd h (by dsimp only; omega)))], .int _ _⟩
  have h4 := eqf_of h4
  conv => whnf
  repeat (refine ⟨⟨_, rfl⟩, ?_⟩; conv => whnf)
  refine condB_mk (fun h5 => ?_) (fun h5 => ?_)
  · have h5 := of_decide_eq_true h5
    conv => whnf
    repeat (refine ⟨⟨_, rfl⟩, ?_⟩; conv => whnf)
    exact ⟨by rw [bkE_bad (.inl (fun h => absurd h (by dsimp only; omega)))], .int _ _⟩
  have h5 := of_decide_eq_false h5
  conv => whnf
  repeat (refine ⟨⟨_, rfl⟩, ?_⟩; conv => whnf)
  refine loop_wk mixed (I := fun q l m => ∃ (k : Nat) (lg : Bool), l = [(3, .bool lg), (34, .vsl 2 t cap (txG A N C F)), (35, .int .i64 t), (36, .int .i64 k)] ∧ m = [] ∧ q + k = t ∧ (lg = true ↔ 32 < t ∨ ∃ j, j < k ∧ 16384 < N j) ∧ ∀ j, j < k → 0 ≤ A j ∧ A j < 16) t
    (l0 := [(3, .bool (decide ((t : Int) > 32))), (34, .vsl 2 t cap (txG A N C F)), (35, .int .i64 t), (36, .int .i64 (0 : Nat))]) (m0 := []) [] ⟨0, _, rfl, rfl, rfl, ?_, fun j hj => absurd hj (Nat.not_lt_zero _)⟩ ?_ ?_
  · rw [decide_eq_true_eq]
    constructor
    · intro h; exact .inl (by omega)
    · rintro (h | ⟨j, hj, _⟩)
      · omega
      · exact absurd hj (Nat.not_lt_zero _)
  · exact .mk0 ⟨.eq _ _ rfl (.bool _), .eq _ _ rfl flat_txs, Flat.i rfl, Flat.i rfl, trivial⟩ trivial rfl rfl
  · rintro q l m ⟨k, lg, rfl, rfl, hq, hlg, hA⟩
    conv => whnf
    repeat (refine ⟨⟨_, rfl⟩, ?_⟩; conv => whnf)
    refine condB_mk (fun hb => ?_) (fun hb => ?_)
    · have hb : k < t := by simp at hb; omega
      have e5 : IntKind.i64.wrap ((k : Int) + 1) = ((k + 1 : Nat) : Int) := by rw [w64 (by omega) (by omega)]; omega
      conv => whnf
      repeat (refine ⟨⟨_, rfl⟩, ?_⟩; conv => whnf)
      refine condB_ok (by simp; omega) ?_
      conv => whnf
      repeat (refine ⟨⟨_, rfl⟩, ?_⟩; conv => whnf)
      refine condB_mk (fun g1 => ?_) (fun g1 => ?_)
      rotate_left
      · have g1 : A k < 0 := neqf_of g1
        conv => whnf
        repeat (refine ⟨⟨_, rfl⟩, ?_⟩; conv => whnf)
        exact ⟨by rw [bkE_bad (.inr ⟨k, hb, fun h => absurd h.1 (by dsimp only; omega)⟩)], .int _ _⟩
      have g1 : ¬ A k < 0 := eqf_of g1
      conv => whnf
      repeat (refine ⟨⟨_, rfl⟩, ?_⟩; conv => whnf)
      refine condB_mk (fun g2 => ?_) (fun g2 => ?_)
      · have g2 : A k ≥ 16 := of_decide_eq_true g2
        conv => whnf
        repeat (refine ⟨⟨_, rfl⟩, ?_⟩; conv => whnf)
        exact ⟨by rw [bkE_bad (.inr ⟨k, hb, fun h => absurd h.2 (by dsimp only; omega)⟩)], .int _ _⟩
      have g2 : ¬ A k ≥ 16 := of_decide_eq_false g2
      conv => whnf
      repeat (refine ⟨⟨_, rfl⟩, ?_⟩; conv => whnf)
      have hA' : ∀ j, j < k + 1 → 0 ≤ A j ∧ A j < 16 := fun j hj => by
        by_cases hjk : j = k
        · subst hjk; exact ⟨by omega, by omega⟩
        · exact hA j (by omega)
      cases lg with
      | true =>
        conv => whnf
        repeat (refine ⟨⟨_, rfl⟩, ?_⟩; conv => whnf)
        refine ⟨q - 1, [(3, .bool true), (34, .vsl 2 t cap (txG A N C F)), (35, .int .i64 t), (36, .int .i64 ((k + 1 : Nat) : Int))], [], [], by omega, ⟨k + 1, true, rfl, rfl, by omega, ⟨fun _ => ?_, fun _ => rfl⟩, hA'⟩, ?_⟩
        · rcases hlg.1 rfl with h | ⟨j, hj, h⟩
          · exact .inl h
          · exact .inr ⟨j, by omega, h⟩
        · exact .mk0 ⟨.eq _ _ rfl (.bool _), .eq _ _ rfl flat_txs, Flat.i rfl, Flat.i e5, trivial⟩ trivial rfl rfl
      | false =>
        conv => whnf
        repeat (refine ⟨⟨_, rfl⟩, ?_⟩; conv => whnf)
        refine ⟨q - 1, [(3, .bool (decide ((N k : Int) > 16384))), (34, .vsl 2 t cap (txG A N C F)), (35, .int .i64 t), (36, .int .i64 ((k + 1 : Nat) : Int))], [], [], by omega, ⟨k + 1, _, rfl, rfl, by omega, ?_, hA'⟩, ?_⟩
        · rw [decide_eq_true_eq]
          constructor
          · intro h; exact .inr ⟨k, by omega, by omega⟩
          · rintro (h | ⟨j, hj, h⟩)
            · exact absurd (hlg.2 (.inl h)) (by decide)
            · by_cases hjk : j = k
              · subst hjk; omega
              · exact absurd (hlg.2 (.inr ⟨j, by omega, h⟩)) (by decide)
        · exact .mk0 ⟨.eq _ _ rfl (.bool _), .eq _ _ rfl flat_txs, Flat.i rfl, Flat.i e5, trivial⟩ trivial rfl rfl
    · have hb : k = t := by simp at hb; omega
      subst hb
      have hnb : ¬ bkBad ⟨p, h, s, k, A, N, F⟩ := by
        rintro (hh | ⟨j, hj, hh⟩)
        · exact hh (by dsimp only; omega)
        · exact hh (hA j hj)
      conv => whnf
      repeat (refine ⟨⟨_, rfl⟩, ?_⟩; conv => whnf)
      cases lg with
      | true =>
        conv => whnf
        repeat (refine ⟨⟨_, rfl⟩, ?_⟩; conv => whnf)
        exact ⟨by rw [bkE_long hnb (hlg.1 rfl)], .int _ _⟩
      | false =>
        conv => whnf
        repeat (refine ⟨⟨_, rfl⟩, ?_⟩; conv => whnf)
        exact ⟨by rw [bkE_ok hnb (fun h => absurd (hlg.2 h) (by decide))], .int _ _⟩
theorem S_bCheck {m : Mem} {K : AV → Mem → Prop} {v x : AV} {b : Bk} (hv : v = bkA b.p b.h b.s x) (hx : ShowsT m x b.t b.A b.N b.F) (ht : b.t ≤ 1000000000) (h : ∀ e, e = bkE b → K (.int .i64 e) m) : ACall Pg F_block_Check [v] m K := by
  subst hv
  obtain ⟨cap, C, hl⟩ := hx
  refine lift_flat (S_bCheck0 b cap C ht) (.cons _ _ _ _ (lend_bk hl) .nil) ?_
  rintro v rfl
  exact h _ rfl
def bkHd (p h s : Int) : Prop := -1 ≤ p ∧ 1 ≤ h ∧ h ≤ 1048576 ∧ 0 ≤ s ∧ s ≤ 1073741824
theorem bk_blk {nv : Bool} {σ : Nat → Option Nat} {p h s : Int} {x A : AV} {i j : Nat} (hx : Flat nv x) (hi : i < 1) (hj : j < 4) (hA : A = lstG 4 (bkL p h s x) i j) : RV nv σ A (lstG 4 (bkL p h s x) i j) := by
  obtain rfl : i = 0 := by omega
  rw [hA]
  have : j = 0 ∨ j = 1 ∨ j = 2 ∨ j = 3 := by omega
  rcases this with rfl | rfl | rfl | rfl
  all_goals first
    | exact .eq _ _ rfl (.int _ _)
    | exact .eq _ _ rfl hx
theorem S_rbCheck0 (b : Bk) (cap : Nat) (C : Nat → Nat) (ht : b.t ≤ 1000000000) : ACall Pg F_witanref16_Check [bkA b.p b.h b.s (.vsl 2 b.t cap (txG b.A b.N C b.F))] [] (fun v _ => v = .int .i64 (bkE b) ∧ Flat true v) := by
  obtain ⟨p, h, s, t, A, N, F⟩ := b
  dsimp only at ht ⊢
  refine B_witanref16_Check ⟨rfl, ?_⟩
  conv => whnf
  repeat (refine ⟨⟨_, rfl⟩, ?_⟩; conv => whnf)
  refine condB_mk (fun h1 => ?_) (fun h1 => ?_)
  rotate_left
  · have h1 := neqt_of h1
    conv => whnf
    repeat (refine ⟨⟨_, rfl⟩, ?_⟩; conv => whnf)
    refine loop_wk mixed (I := fun q l m => ∃ (k : Nat) (lg : Bool), l = [(1, .ptr 0 0 0), (3, .bool false), (4, .bool lg), (5, .int .i64 k)] ∧ m = [some ⟨4, 1, lstG 4 (bkL p h s (.vsl 2 t cap (txG A N C F)))⟩] ∧ q + k = t) t
      (l0 := [(1, .ptr 0 0 0), (3, .bool false), (4, .bool (decide ((t : Int) > 32))), (5, .int .i64 (0 : Nat))]) (m0 := [some ⟨4, 1, lstG 4 (bkL p h s (.vsl 2 t cap (txG A N C F)))⟩]) [some 0] ⟨0, _, rfl, rfl, rfl⟩ ?_ ?_
    · exact .mk0 ⟨.ptr _ _ _ _ rfl, .eq _ _ rfl (.bool _), .eq _ _ rfl (.bool _), Flat.i rfl, trivial⟩ ⟨.old 0 0 _ _ rfl rfl ⟨rfl, Nat.le_refl _, fun i j hi hj => bk_blk flat_txs hi hj rfl⟩, trivial⟩ rfl rfl
    · rintro q l m ⟨k, lg, rfl, rfl, hq⟩
      conv => whnf
      repeat (refine ⟨⟨_, rfl⟩, ?_⟩; conv => whnf)
      refine condB_mk (fun hb => ?_) (fun hb => ?_)
      · have hb : k < t := by simp at hb; omega
        have e5 : IntKind.i64.wrap ((k : Int) + 1) = ((k + 1 : Nat) : Int) := by rw [w64 (by omega) (by omega)]; omega
        cases lg with
        | true =>
          conv => whnf
          repeat (refine ⟨⟨_, rfl⟩, ?_⟩; conv => whnf)
          refine ⟨q - 1, [(1, .ptr 0 0 0), (3, .bool false), (4, .bool true), (5, .int .i64 ((k + 1 : Nat) : Int))], [some ⟨4, 1, lstG 4 (bkL p h s (.vsl 2 t cap (txG A N C F)))⟩], [some 0], by omega, ⟨k + 1, _, rfl, rfl, by omega⟩, ?_⟩
          exact .mk0 ⟨.ptr _ _ _ _ rfl, .eq _ _ rfl (.bool _), .eq _ _ rfl (.bool _), Flat.i e5, trivial⟩ ⟨.old 0 0 _ _ rfl rfl ⟨rfl, Nat.le_refl _, fun i j hi hj => bk_blk flat_txs hi hj rfl⟩, trivial⟩ rfl rfl
        | false =>
          conv => whnf
          repeat (refine ⟨⟨_, rfl⟩, ?_⟩; conv => whnf)
          refine condB_ok (by simp; omega) ?_
          conv => whnf
          repeat (refine ⟨⟨_, rfl⟩, ?_⟩; conv => whnf)
          refine ⟨q - 1, [(1, .ptr 0 0 0), (3, .bool false), (4, .bool (decide ((N k : Int) > 16384))), (5, .int .i64 ((k + 1 : Nat) : Int))], [some ⟨4, 1, lstG 4 (bkL p h s (.vsl 2 t cap (txG A N C F)))⟩], [some 0], by omega, ⟨k + 1, _, rfl, rfl, by omega⟩, ?_⟩
          exact .mk0 ⟨.ptr _ _ _ _ rfl, .eq _ _ rfl (.bool _), .eq _ _ rfl (.bool _), Flat.i e5, trivial⟩ ⟨.old 0 0 _ _ rfl rfl ⟨rfl, Nat.le_refl _, fun i j hi hj => bk_blk flat_txs hi hj rfl⟩, trivial⟩ rfl rfl
      · conv => whnf
        repeat (refine ⟨⟨_, rfl⟩, ?_⟩; conv => whnf)
        exact ⟨by rw [bkE_bad (.inl (fun h => absurd h (by dsimp only; omega)))], .int _ _⟩
  have h1 := eqt_of h1
  conv => whnf
  repeat (refine ⟨⟨_, rfl⟩, ?_⟩; conv => whnf)
  refine condB_mk (fun h2 => ?_) (fun h2 => ?_)
  rotate_left
  · have h2 := neqt_of h2
    conv => whnf
    repeat (refine ⟨⟨_, rfl⟩, ?_⟩; conv => whnf)
    refine loop_wk mixed (I := fun q l m => ∃ (k : Nat) (lg : Bool), l = [(1, .ptr 0 0 0), (3, .bool false), (4, .bool lg), (5, .int .i64 k)] ∧ m = [some ⟨4, 1, lstG 4 (bkL p h s (.vsl 2 t cap (txG A N C F)))⟩] ∧ q + k = t) t
      (l0 := [(1, .ptr 0 0 0), (3, .bool false), (4, .bool (decide ((t : Int) > 32))), (5, .int .i64 (0 : Nat))]) (m0 := [some ⟨4, 1, lstG 4 (bkL p h s (.vsl 2 t cap (txG A N C F)))⟩]) [some 0] ⟨0, _, rfl, rfl, rfl⟩ ?_ ?_
    · exact .mk0 ⟨.ptr _ _ _ _ rfl, .eq _ _ rfl (.bool _), .eq _ _ rfl (.bool _), Flat.i rfl, trivial⟩ ⟨.old 0 0 _ _ rfl rfl ⟨rfl, Nat.le_refl _, fun i j hi hj => bk_blk flat_txs hi hj rfl⟩, trivial⟩ rfl rfl
    · rintro q l m ⟨k, lg, rfl, rfl, hq⟩
      conv => whnf
      repeat (refine ⟨⟨_, rfl⟩, ?_⟩; conv => whnf)
      refine condB_mk (fun hb => ?_) (fun hb => ?_)
      · have hb : k < t := by simp at hb; omega
        have e5 : IntKind.i64.wrap ((k : Int) + 1) = ((k + 1 : Nat) : Int) := by rw [w64 (by omega) (by omega)]; omega
        cases lg with
        | true =>
          conv => whnf
          repeat (refine ⟨⟨_, rfl⟩, ?_⟩; conv => whnf)
          refine ⟨q - 1, [(1, .ptr 0 0 0), (3, .bool false), (4, .bool true), (5, .int .i64 ((k + 1 : Nat) : Int))], [some ⟨4, 1, lstG 4 (bkL p h s (.vsl 2 t cap (txG A N C F)))⟩], [some 0], by omega, ⟨k + 1, _, rfl, rfl, by omega⟩, ?_⟩
          exact .mk0 ⟨.ptr _ _ _ _ rfl, .eq _ _ rfl (.bool _), .eq _ _ rfl (.bool _), Flat.i e5, trivial⟩ ⟨.old 0 0 _ _ rfl rfl ⟨rfl, Nat.le_refl _, fun i j hi hj => bk_blk flat_txs hi hj rfl⟩, trivial⟩ rfl rfl
        | false =>
          conv => whnf
          repeat (refine ⟨⟨_, rfl⟩, ?_⟩; conv => whnf)
          refine condB_ok (by simp; omega) ?_
          conv => whnf
          repeat (refine ⟨⟨_, rfl⟩, ?_⟩; conv => whnf)
          refine ⟨q - 1, [(1, .ptr 0 0 0), (3, .bool false), (4, .bool (decide ((N k : Int) > 16384))), (5, .int .i64 ((k + 1 : Nat) : Int))], [some ⟨4, 1, lstG 4 (bkL p h s (.vsl 2 t cap (txG A N C F)))⟩], [some 0], by omega, ⟨k + 1, _, rfl, rfl, by omega⟩, ?_⟩
          exact .mk0 ⟨.ptr _ _ _ _ rfl, .eq _ _ rfl (.bool _), .eq _ _ rfl (.bool _), Flat.i e5, trivial⟩ ⟨.old 0 0 _ _ rfl rfl ⟨rfl, Nat.le_refl _, fun i j hi hj => bk_blk flat_txs hi hj rfl⟩, trivial⟩ rfl rfl
      · conv => whnf
        repeat (refine ⟨⟨_, rfl⟩, ?_⟩; conv => whnf)
        exact ⟨by rw [bkE_bad (.inl (fun h => absurd h (by dsimp only; omega)))], .int _ _⟩
  have h2 := eqt_of h2
  conv => whnf
  repeat (refine ⟨⟨_, rfl⟩, ?_⟩; conv => whnf)
  refine condB_mk (fun h3 => ?_) (fun h3 => ?_)
  rotate_left
  · have h3 := neqt_of h3
    conv => whnf
    repeat (refine ⟨⟨_, rfl⟩, ?_⟩; conv => whnf)
    refine loop_wk mixed (I := fun q l m => ∃ (k : Nat) (lg : Bool), l = [(1, .ptr 0 0 0), (3, .bool false), (4, .bool lg), (5, .int .i64 k)] ∧ m = [some ⟨4, 1, lstG 4 (bkL p h s (.vsl 2 t cap (txG A N C F)))⟩] ∧ q + k = t) t
      (l0 := [(1, .ptr 0 0 0), (3, .bool false), (4, .bool (decide ((t : Int) > 32))), (5, .int .i64 (0 : Nat))]) (m0 := [some ⟨4, 1, lstG 4 (bkL p h s (.vsl 2 t cap (txG A N C F)))⟩]) [some 0] ⟨0, _, rfl, rfl, rfl⟩ ?_ ?_
    · exact .mk0 ⟨.ptr _ _ _ _ rfl, .eq _ _ rfl (.bool _), .eq _ _ rfl (.bool _), Flat.i rfl, trivial⟩ ⟨.old 0 0 _ _ rfl rfl ⟨rfl, Nat.le_refl _, fun i j hi hj => bk_blk flat_txs hi hj rfl⟩, trivial⟩ rfl rfl
    · rintro q l m ⟨k, lg, rfl, rfl, hq⟩
      conv => whnf
      repeat (refine ⟨⟨_, rfl⟩, ?_⟩; conv => whnf)
      refine condB_mk (fun hb => ?_) (fun hb => ?_)
      · have hb : k < t := by simp at hb; omega
        have e5 : IntKind.i64.wrap ((k : Int) + 1) = ((k + 1 : Nat) : Int) := by rw [w64 (by omega) (by omega)]; omega
        cases lg with
        | true =>
          conv => whnf
          repeat (refine ⟨⟨_, rfl⟩, ?_⟩; conv => whnf)
          refine ⟨q - 1, [(1, .ptr 0 0 0), (3, .bool false), (4, .bool true), (5, .int .i64 ((k + 1 : Nat) : Int))], [some ⟨4, 1, lstG 4 (bkL p h s (.vsl 2 t cap (txG A N C F)))⟩], [some 0], by omega, ⟨k + 1, _, rfl, rfl, by omega⟩, ?_⟩
          exact .mk0 ⟨.ptr _ _ _ _ rfl, .eq _ _ rfl (.bool _), .eq _ _ rfl (.bool _), Flat.i e5, trivial⟩ ⟨.old 0 0 _ _ rfl rfl ⟨rfl, Nat.le_refl _, fun i j hi hj => bk_blk flat_txs hi hj rfl⟩, trivial⟩ rfl rfl
        | false =>
          conv => whnf
          repeat (refine ⟨⟨_, rfl⟩, ?_⟩; conv => whnf)
          refine condB_ok (by simp; omega) ?_
          conv => whnf
          repeat (refine ⟨⟨_, rfl⟩, ?_⟩; conv => whnf)
          refine ⟨q - 1, [(1, .ptr 0 0 0), (3, .bool false), (4, .bool (decide ((N k : Int) > 16384))), (5, .int .i64 ((k + 1 : Nat) : Int))], [some ⟨4, 1, lstG 4 (bkL p h s (.vsl 2 t cap (txG A N C F)))⟩], [some 0], by omega, ⟨k + 1, _, rfl, rfl, by omega⟩, ?_⟩
          exact .mk0 ⟨.ptr _ _ _ _ rfl, .eq _ _ rfl (.bool _), .eq _ _ rfl (.bool _), Flat.i e5, trivial⟩ ⟨.old 0 0 _ _ rfl rfl ⟨rfl, Nat.le_refl _, fun i j hi hj => bk_blk flat_txs hi hj rfl⟩, trivial⟩ rfl rfl
      · conv => whnf
        repeat (refine ⟨⟨_, rfl⟩, ?_⟩; conv => whnf)
        exact ⟨by rw [bkE_bad (.inl (fun h => absurd h (by dsimp only; omega)))], .int _ _⟩
  have h3 := eqt_of h3
  conv => whnf
  repeat (refine ⟨⟨_, rfl⟩, ?_⟩; conv => whnf)
  refine condB_mk (fun h4 => ?_) (fun h4 => ?_)
  rotate_left
  · have h4 := neqt_of h4
    conv => whnf
    repeat (refine ⟨⟨_, rfl⟩, ?_⟩; conv => whnf)
    refine loop_wk mixed (I := fun q l m => ∃ (k : Nat) (lg : Bool), l = [(1, .ptr 0 0 0), (3, .bool false), (4, .bool lg), (5, .int .i64 k)] ∧ m = [some ⟨4, 1, lstG 4 (bkL p h s (.vsl 2 t cap (txG A N C F)))⟩] ∧ q + k = t) t
      (l0 := [(1, .ptr 0 0 0), (3, .bool false), (4, .bool (decide ((t : Int) > 32))), (5, .int .i64 (0 : Nat))]) (m0 := [some ⟨4, 1, lstG 4 (bkL p h s (.vsl 2 t cap (txG A N C F)))⟩]) [some 0] ⟨0, _, rfl, rfl, rfl⟩ ?_ ?_
    · exact .mk0 ⟨.ptr _ _ _ _ rfl, .eq _ _ rfl (.bool _), .eq _ _ rfl (.bool _), Flat.i rfl, trivial⟩ ⟨.old 0 0 _ _ rfl rfl ⟨rfl, Nat.le_refl _, fun i j hi hj => bk_blk flat_txs hi hj rfl⟩, trivial⟩ rfl rfl
    · rintro q l m ⟨k, lg, rfl, rfl, hq⟩
      conv => whnf
      repeat (refine ⟨⟨_, rfl⟩, ?_⟩; conv => whnf)
      refine condB_mk (fun hb => ?_) (fun hb => ?_)
      · have hb : k < t := by simp at hb; omega
        have e5 : IntKind.i64.wrap ((k : Int) + 1) = ((k + 1 : Nat) : Int) := by rw [w64 (by omega) (by omega)]; omega
        cases lg with
        | true =>
          conv => whnf
          repeat (refine ⟨⟨_, rfl⟩, ?_⟩; conv => whnf)
          refine ⟨q - 1, [(1, .ptr 0 0 0), (3, .bool false), (4, .bool true), (5, .int .i64 ((k + 1 : Nat) : Int))], [some ⟨4, 1, lstG 4 (bkL p h s (.vsl 2 t cap (txG A N C F)))⟩], [some 0], by omega, ⟨k + 1, _, rfl, rfl, by omega⟩, ?_⟩
          exact .mk0 ⟨.ptr _ _ _ _ rfl, .eq _ _ rfl (.bool _), .eq _ _ rfl (.bool _), Flat.i e5, trivial⟩ ⟨.old 0 0 _ _ rfl rfl ⟨rfl, Nat.le_refl _, fun i j hi hj => bk_blk flat_txs hi hj rfl⟩, trivial⟩ rfl rfl
        | false =>
          conv => whnf
          repeat (refine ⟨⟨_, rfl⟩, ?_⟩; conv => whnf)
          refine condB_ok (by simp; omega) ?_
          conv => whnf
          repeat (refine ⟨⟨_, rfl⟩, ?_⟩; conv => whnf)
          refine ⟨q - 1, [(1, .ptr 0 0 0), (3, .bool false), (4, .bool (decide ((N k : Int) > 16384))), (5, .int .i64 ((k + 1 : Nat) : Int))], [some ⟨4, 1, lstG 4 (bkL p h s (.vsl 2 t cap (txG A N C F)))⟩], [some 0], by omega, ⟨k + 1, _, rfl, rfl, by omega⟩, ?_⟩
          exact .mk0 ⟨.ptr _ _ _ _ rfl, .eq _ _ rfl (.bool _), .eq _ _ rfl (.bool _), Flat.i e5, trivial⟩ ⟨.old 0 0 _ _ rfl rfl ⟨rfl, Nat.le_refl _, fun i j hi hj => bk_blk flat_txs hi hj rfl⟩, trivial⟩ rfl rfl
      · conv => whnf
        repeat (refine ⟨⟨_, rfl⟩, ?_⟩; conv => whnf)
        exact ⟨by rw [bkE_bad (.inl (fun h => absurd h (by dsimp only; omega)))], .int _ _⟩
  have h4 := eqt_of h4
  conv => whnf
  repeat (refine ⟨⟨_, rfl⟩, ?_⟩; conv => whnf)
  refine loop_wk mixed (I := fun q l m => ∃ (k : Nat) (ok lg : Bool), l = [(1, .ptr 0 0 0), (3, .bool ok), (4, .bool lg), (5, .int .i64 k)] ∧ m = [some ⟨4, 1, lstG 4 (bkL p h s (.vsl 2 t cap (txG A N C F)))⟩] ∧ q + k = t ∧ (ok = true ↔ bkHd p h s ∧ ∀ j, j < k → 0 ≤ A j ∧ A j < 16) ∧ (lg = true ↔ 32 < t ∨ ∃ j, j < k ∧ 16384 < N j)) t
    (l0 := [(1, .ptr 0 0 0), (3, .bool (decide (s ≤ 1073741824))), (4, .bool (decide ((t : Int) > 32))), (5, .int .i64 (0 : Nat))]) (m0 := [some ⟨4, 1, lstG 4 (bkL p h s (.vsl 2 t cap (txG A N C F)))⟩]) [some 0] ⟨0, _, _, rfl, rfl, rfl, ?_, ?_⟩ ?_ ?_
  · have hz : (∀ j, j < 0 → 0 ≤ A j ∧ A j < 16) := fun j hj => absurd hj (Nat.not_lt_zero _)
    first
      | (rw [decide_eq_true_eq]; exact ⟨fun h5 => ⟨by unfold bkHd; omega, hz⟩, fun h5 => by unfold bkHd at h5; omega⟩)
      | exact ⟨fun h => Bool.noConfusion h, fun hh => absurd hh.1 (by unfold bkHd; omega)⟩
  · rw [decide_eq_true_eq]
    constructor
    · intro h; exact .inl (by omega)
    · rintro (h | ⟨j, hj, _⟩)
      · omega
      · exact absurd hj (Nat.not_lt_zero _)
  · exact .mk0 ⟨.ptr _ _ _ _ rfl, .eq _ _ rfl (.bool _), .eq _ _ rfl (.bool _), Flat.i rfl, trivial⟩ ⟨.old 0 0 _ _ rfl rfl ⟨rfl, Nat.le_refl _, fun i j hi hj => bk_blk flat_txs hi hj rfl⟩, trivial⟩ rfl rfl
  · rintro q l m ⟨k, ok, lg, rfl, rfl, hq, hok, hlg⟩
    conv => whnf
    repeat (refine ⟨⟨_, rfl⟩, ?_⟩; conv => whnf)
    refine condB_mk (fun hb => ?_) (fun hb => ?_)
    · have hb : k < t := by simp at hb; omega
      have e5 : IntKind.i64.wrap ((k : Int) + 1) = ((k + 1 : Nat) : Int) := by rw [w64 (by omega) (by omega)]; omega
      cases ok with
      | false =>
        conv => whnf
        repeat (refine ⟨⟨_, rfl⟩, ?_⟩; conv => whnf)
        cases lg with
        | true =>
          conv => whnf
          repeat (refine ⟨⟨_, rfl⟩, ?_⟩; conv => whnf)
          refine ⟨q - 1, [(1, .ptr 0 0 0), (3, .bool (false)), (4, .bool (true)), (5, .int .i64 ((k + 1 : Nat) : Int))], [some ⟨4, 1, lstG 4 (bkL p h s (.vsl 2 t cap (txG A N C F)))⟩], [some 0], by omega, ⟨k + 1, _, _, rfl, rfl, by omega, ?_, ?_⟩, ?_⟩
          rotate_left 2
          · exact .mk0 ⟨.ptr _ _ _ _ rfl, .eq _ _ rfl (.bool _), .eq _ _ rfl (.bool _), Flat.i e5, trivial⟩ ⟨.old 0 0 _ _ rfl rfl ⟨rfl, Nat.le_refl _, fun i j hi hj => bk_blk flat_txs hi hj rfl⟩, trivial⟩ rfl rfl
          · first
              | (rw [decide_eq_true_eq]; exact ⟨fun h => ⟨hhd, fun j hj => by by_cases hjk : j = k; subst hjk; exact ⟨by omega, h⟩; exact hA j (by omega)⟩, fun h => (h.2 k (by omega)).2⟩)
              | exact ⟨fun h => Bool.noConfusion h, fun h => absurd h.2 (fun h => absurd (h k (by omega)) (by omega))⟩
              | exact ⟨fun h => Bool.noConfusion h, fun h => absurd (hok.2 ⟨h.1, fun j hj => h.2 j (by omega)⟩) (by decide)⟩
          · first
              | exact ⟨fun _ => (hlg.1 rfl).elim .inl (fun ⟨j, hj, h⟩ => .inr ⟨j, by omega, h⟩), fun _ => rfl⟩
              | (rw [decide_eq_true_eq]; exact ⟨fun h => .inr ⟨k, by omega, by omega⟩, fun h => h.elim (fun h => absurd (hlg.2 (.inl h)) (by decide)) (fun ⟨j, hj, h⟩ => by
                  by_cases hjk : j = k
                  · subst hjk; omega
                  · exact absurd (hlg.2 (.inr ⟨j, by omega, h⟩)) (by decide))⟩)
        | false =>
          conv => whnf
          repeat (refine ⟨⟨_, rfl⟩, ?_⟩; conv => whnf)
          refine condB_ok (by simp; omega) ?_
          conv => whnf
          repeat (refine ⟨⟨_, rfl⟩, ?_⟩; conv => whnf)
          refine ⟨q - 1, [(1, .ptr 0 0 0), (3, .bool (false)), (4, .bool (decide ((N k : Int) > 16384))), (5, .int .i64 ((k + 1 : Nat) : Int))], [some ⟨4, 1, lstG 4 (bkL p h s (.vsl 2 t cap (txG A N C F)))⟩], [some 0], by omega, ⟨k + 1, _, _, rfl, rfl, by omega, ?_, ?_⟩, ?_⟩
          rotate_left 2
          · exact .mk0 ⟨.ptr _ _ _ _ rfl, .eq _ _ rfl (.bool _), .eq _ _ rfl (.bool _), Flat.i e5, trivial⟩ ⟨.old 0 0 _ _ rfl rfl ⟨rfl, Nat.le_refl _, fun i j hi hj => bk_blk flat_txs hi hj rfl⟩, trivial⟩ rfl rfl
          · first
              | (rw [decide_eq_true_eq]; exact ⟨fun h => ⟨hhd, fun j hj => by by_cases hjk : j = k; subst hjk; exact ⟨by omega, h⟩; exact hA j (by omega)⟩, fun h => (h.2 k (by omega)).2⟩)
              | exact ⟨fun h => Bool.noConfusion h, fun h => absurd h.2 (fun h => absurd (h k (by omega)) (by omega))⟩
              | exact ⟨fun h => Bool.noConfusion h, fun h => absurd (hok.2 ⟨h.1, fun j hj => h.2 j (by omega)⟩) (by decide)⟩
          · first
              | exact ⟨fun _ => (hlg.1 rfl).elim .inl (fun ⟨j, hj, h⟩ => .inr ⟨j, by omega, h⟩), fun _ => rfl⟩
              | (rw [decide_eq_true_eq]; exact ⟨fun h => .inr ⟨k, by omega, by omega⟩, fun h => h.elim (fun h => absurd (hlg.2 (.inl h)) (by decide)) (fun ⟨j, hj, h⟩ => by
                  by_cases hjk : j = k
                  · subst hjk; omega
                  · exact absurd (hlg.2 (.inr ⟨j, by omega, h⟩)) (by decide))⟩)
      | true =>
        obtain ⟨hhd, hA⟩ := hok.1 rfl
        conv => whnf
        repeat (refine ⟨⟨_, rfl⟩, ?_⟩; conv => whnf)
        refine condB_ok (by simp; omega) ?_
        conv => whnf
        repeat (refine ⟨⟨_, rfl⟩, ?_⟩; conv => whnf)
        refine condB_mk (fun g1 => ?_) (fun g1 => ?_)
        · have g1 : A k ≥ 0 := eqt_of g1
          conv => whnf
          repeat (refine ⟨⟨_, rfl⟩, ?_⟩; conv => whnf)
          refine condB_ok (by simp; omega) ?_
          conv => whnf
          repeat (refine ⟨⟨_, rfl⟩, ?_⟩; conv => whnf)
          cases lg with
          | true =>
            conv => whnf
            repeat (refine ⟨⟨_, rfl⟩, ?_⟩; conv => whnf)
            refine ⟨q - 1, [(1, .ptr 0 0 0), (3, .bool (decide (A k < 16))), (4, .bool (true)), (5, .int .i64 ((k + 1 : Nat) : Int))], [some ⟨4, 1, lstG 4 (bkL p h s (.vsl 2 t cap (txG A N C F)))⟩], [some 0], by omega, ⟨k + 1, _, _, rfl, rfl, by omega, ?_, ?_⟩, ?_⟩
            rotate_left 2
            · exact .mk0 ⟨.ptr _ _ _ _ rfl, .eq _ _ rfl (.bool _), .eq _ _ rfl (.bool _), Flat.i e5, trivial⟩ ⟨.old 0 0 _ _ rfl rfl ⟨rfl, Nat.le_refl _, fun i j hi hj => bk_blk flat_txs hi hj rfl⟩, trivial⟩ rfl rfl
            · first
                | (rw [decide_eq_true_eq]; exact ⟨fun h => ⟨hhd, fun j hj => by by_cases hjk : j = k; subst hjk; exact ⟨by omega, h⟩; exact hA j (by omega)⟩, fun h => (h.2 k (by omega)).2⟩)
                | exact ⟨fun h => Bool.noConfusion h, fun h => absurd h.2 (fun h => absurd (h k (by omega)) (by omega))⟩
                | exact ⟨fun h => Bool.noConfusion h, fun h => absurd (hok.2 ⟨h.1, fun j hj => h.2 j (by omega)⟩) (by decide)⟩
            · first
                | exact ⟨fun _ => (hlg.1 rfl).elim .inl (fun ⟨j, hj, h⟩ => .inr ⟨j, by omega, h⟩), fun _ => rfl⟩
                | (rw [decide_eq_true_eq]; exact ⟨fun h => .inr ⟨k, by omega, by omega⟩, fun h => h.elim (fun h => absurd (hlg.2 (.inl h)) (by decide)) (fun ⟨j, hj, h⟩ => by
                    by_cases hjk : j = k
                    · subst hjk; omega
                    · exact absurd (hlg.2 (.inr ⟨j, by omega, h⟩)) (by decide))⟩)
          | false =>
            conv => whnf
            repeat (refine ⟨⟨_, rfl⟩, ?_⟩; conv => whnf)
            refine condB_ok (by simp; omega) ?_
            conv => whnf
            repeat (refine ⟨⟨_, rfl⟩, ?_⟩; conv => whnf)
            refine ⟨q - 1, [(1, .ptr 0 0 0), (3, .bool (decide (A k < 16))), (4, .bool (decide ((N k : Int) > 16384))), (5, .int .i64 ((k + 1 : Nat) : Int))], [some ⟨4, 1, lstG 4 (bkL p h s (.vsl 2 t cap (txG A N C F)))⟩], [some 0], by omega, ⟨k + 1, _, _, rfl, rfl, by omega, ?_, ?_⟩, ?_⟩
            rotate_left 2
            · exact .mk0 ⟨.ptr _ _ _ _ rfl, .eq _ _ rfl (.bool _), .eq _ _ rfl (.bool _), Flat.i e5, trivial⟩ ⟨.old 0 0 _ _ rfl rfl ⟨rfl, Nat.le_refl _, fun i j hi hj => bk_blk flat_txs hi hj rfl⟩, trivial⟩ rfl rfl
            · first
                | (rw [decide_eq_true_eq]; exact ⟨fun h => ⟨hhd, fun j hj => by by_cases hjk : j = k; subst hjk; exact ⟨by omega, h⟩; exact hA j (by omega)⟩, fun h => (h.2 k (by omega)).2⟩)
                | exact ⟨fun h => Bool.noConfusion h, fun h => absurd h.2 (fun h => absurd (h k (by omega)) (by omega))⟩
                | exact ⟨fun h => Bool.noConfusion h, fun h => absurd (hok.2 ⟨h.1, fun j hj => h.2 j (by omega)⟩) (by decide)⟩
            · first
                | exact ⟨fun _ => (hlg.1 rfl).elim .inl (fun ⟨j, hj, h⟩ => .inr ⟨j, by omega, h⟩), fun _ => rfl⟩
                | (rw [decide_eq_true_eq]; exact ⟨fun h => .inr ⟨k, by omega, by omega⟩, fun h => h.elim (fun h => absurd (hlg.2 (.inl h)) (by decide)) (fun ⟨j, hj, h⟩ => by
                    by_cases hjk : j = k
                    · subst hjk; omega
                    · exact absurd (hlg.2 (.inr ⟨j, by omega, h⟩)) (by decide))⟩)
        · have g1 : ¬ A k ≥ 0 := neqt_of g1
          conv => whnf
          repeat (refine ⟨⟨_, rfl⟩, ?_⟩; conv => whnf)
          cases lg with
          | true =>
            conv => whnf
            repeat (refine ⟨⟨_, rfl⟩, ?_⟩; conv => whnf)
            refine ⟨q - 1, [(1, .ptr 0 0 0), (3, .bool (false)), (4, .bool (true)), (5, .int .i64 ((k + 1 : Nat) : Int))], [some ⟨4, 1, lstG 4 (bkL p h s (.vsl 2 t cap (txG A N C F)))⟩], [some 0], by omega, ⟨k + 1, _, _, rfl, rfl, by omega, ?_, ?_⟩, ?_⟩
            rotate_left 2
            · exact .mk0 ⟨.ptr _ _ _ _ rfl, .eq _ _ rfl (.bool _), .eq _ _ rfl (.bool _), Flat.i e5, trivial⟩ ⟨.old 0 0 _ _ rfl rfl ⟨rfl, Nat.le_refl _, fun i j hi hj => bk_blk flat_txs hi hj rfl⟩, trivial⟩ rfl rfl
            · first
                | (rw [decide_eq_true_eq]; exact ⟨fun h => ⟨hhd, fun j hj => by by_cases hjk : j = k; subst hjk; exact ⟨by omega, h⟩; exact hA j (by omega)⟩, fun h => (h.2 k (by omega)).2⟩)
                | exact ⟨fun h => Bool.noConfusion h, fun h => absurd h.2 (fun h => absurd (h k (by omega)) (by omega))⟩
                | exact ⟨fun h => Bool.noConfusion h, fun h => absurd (hok.2 ⟨h.1, fun j hj => h.2 j (by omega)⟩) (by decide)⟩
            · first
                | exact ⟨fun _ => (hlg.1 rfl).elim .inl (fun ⟨j, hj, h⟩ => .inr ⟨j, by omega, h⟩), fun _ => rfl⟩
                | (rw [decide_eq_true_eq]; exact ⟨fun h => .inr ⟨k, by omega, by omega⟩, fun h => h.elim (fun h => absurd (hlg.2 (.inl h)) (by decide)) (fun ⟨j, hj, h⟩ => by
                    by_cases hjk : j = k
                    · subst hjk; omega
                    · exact absurd (hlg.2 (.inr ⟨j, by omega, h⟩)) (by decide))⟩)
          | false =>
            conv => whnf
            repeat (refine ⟨⟨_, rfl⟩, ?_⟩; conv => whnf)
            refine condB_ok (by simp; omega) ?_
            conv => whnf
            repeat (refine ⟨⟨_, rfl⟩, ?_⟩; conv => whnf)
            refine ⟨q - 1, [(1, .ptr 0 0 0), (3, .bool (false)), (4, .bool (decide ((N k : Int) > 16384))), (5, .int .i64 ((k + 1 : Nat) : Int))], [some ⟨4, 1, lstG 4 (bkL p h s (.vsl 2 t cap (txG A N C F)))⟩], [some 0], by omega, ⟨k + 1, _, _, rfl, rfl, by omega, ?_, ?_⟩, ?_⟩
            rotate_left 2
            · exact .mk0 ⟨.ptr _ _ _ _ rfl, .eq _ _ rfl (.bool _), .eq _ _ rfl (.bool _), Flat.i e5, trivial⟩ ⟨.old 0 0 _ _ rfl rfl ⟨rfl, Nat.le_refl _, fun i j hi hj => bk_blk flat_txs hi hj rfl⟩, trivial⟩ rfl rfl
            · first
                | (rw [decide_eq_true_eq]; exact ⟨fun h => ⟨hhd, fun j hj => by by_cases hjk : j = k; subst hjk; exact ⟨by omega, h⟩; exact hA j (by omega)⟩, fun h => (h.2 k (by omega)).2⟩)
                | exact ⟨fun h => Bool.noConfusion h, fun h => absurd h.2 (fun h => absurd (h k (by omega)) (by omega))⟩
                | exact ⟨fun h => Bool.noConfusion h, fun h => absurd (hok.2 ⟨h.1, fun j hj => h.2 j (by omega)⟩) (by decide)⟩
            · first
                | exact ⟨fun _ => (hlg.1 rfl).elim .inl (fun ⟨j, hj, h⟩ => .inr ⟨j, by omega, h⟩), fun _ => rfl⟩
                | (rw [decide_eq_true_eq]; exact ⟨fun h => .inr ⟨k, by omega, by omega⟩, fun h => h.elim (fun h => absurd (hlg.2 (.inl h)) (by decide)) (fun ⟨j, hj, h⟩ => by
                    by_cases hjk : j = k
                    · subst hjk; omega
                    · exact absurd (hlg.2 (.inr ⟨j, by omega, h⟩)) (by decide))⟩)
    · have hb : k = t := by simp at hb; omega
      subst hb
      cases ok with
      | false =>
        conv => whnf
        repeat (refine ⟨⟨_, rfl⟩, ?_⟩; conv => whnf)
        exact ⟨by rw [bkE_bad (b := ⟨p, h, s, k, A, N, F⟩) (Classical.byContradiction fun hn => absurd (hok.2 ⟨Classical.byContradiction fun hh => hn (.inl hh), fun j hj => Classical.byContradiction fun hh => hn (.inr ⟨j, hj, hh⟩)⟩) (by decide))], .int _ _⟩
      | true =>
        obtain ⟨hhd, hA⟩ := hok.1 rfl
        have hnb : ¬ bkBad ⟨p, h, s, k, A, N, F⟩ := by
          rintro (hh | ⟨j, hj, hh⟩)
          · exact hh hhd
          · exact hh (hA j hj)
        cases lg with
        | true =>
          conv => whnf
          repeat (refine ⟨⟨_, rfl⟩, ?_⟩; conv => whnf)
          exact ⟨by rw [bkE_long hnb (hlg.1 rfl)], .int _ _⟩
        | false =>
          conv => whnf
          repeat (refine ⟨⟨_, rfl⟩, ?_⟩; conv => whnf)
          exact ⟨by rw [bkE_ok hnb (fun h => absurd (hlg.2 h) (by decide))], .int _ _⟩
theorem S_rbCheck {m : Mem} {K : AV → Mem → Prop} {v x : AV} {b : Bk} (hv : v = bkA b.p b.h b.s x) (hx : ShowsT m x b.t b.A b.N b.F) (ht : b.t ≤ 1000000000) (h : ∀ e, e = bkE b → K (.int .i64 e) m) : ACall Pg F_witanref16_Check [v] m K := by
  subst hv
  obtain ⟨cap, C, hl⟩ := hx
  refine lift_flat (S_rbCheck0 b cap C ht) (.cons _ _ _ _ (lend_bk hl) .nil) ?_
  rintro v rfl
  exact h _ rfl
theorem S_bHeavy0 (b : Bk) (cap : Nat) (C : Nat → Nat) : ACall Pg F_witanlaw16_Heavy [bkA b.p b.h b.s (.vsl 2 b.t cap (txG b.A b.N C b.F))] [] (fun v _ => (v = .bool true ∨ (v = .bool false ∧ b.t ≤ 40 ∧ ∀ k, k < b.t → b.N k ≤ 1000)) ∧ Flat true v) := by
  obtain ⟨p, h, s, t, A, N, F⟩ := b
  dsimp only
  refine B_witanlaw16_Heavy ⟨rfl, ?_⟩
  conv => whnf
  repeat (refine ⟨⟨_, rfl⟩, ?_⟩; conv => whnf)
  refine condB_mk (fun h1 => ?_) (fun h1 => ?_)
  · conv => whnf
    repeat (refine ⟨⟨_, rfl⟩, ?_⟩; conv => whnf)
    exact ⟨.inl rfl, .bool _⟩
  have h1 := of_decide_eq_false h1
  conv => whnf
  repeat (refine ⟨⟨_, rfl⟩, ?_⟩; conv => whnf)
  refine loop_wk mixed (I := fun q l m => ∃ (k : Nat), l = [(1, .ptr 0 0 0), (3, .int .i64 k)] ∧ m = [some ⟨4, 1, lstG 4 (bkL p h s (.vsl 2 t cap (txG A N C F)))⟩] ∧ q + k = t ∧ ∀ j, j < k → N j ≤ 1000) t
    (l0 := [(1, .ptr 0 0 0), (3, .int .i64 (0 : Nat))]) (m0 := [some ⟨4, 1, lstG 4 (bkL p h s (.vsl 2 t cap (txG A N C F)))⟩]) [some 0] ⟨0, rfl, rfl, rfl, fun j hj => absurd hj (Nat.not_lt_zero _)⟩ ?_ ?_
  · exact .mk0 ⟨.ptr _ _ _ _ rfl, Flat.i rfl, trivial⟩ ⟨.old 0 0 _ _ rfl rfl ⟨rfl, Nat.le_refl _, fun i j hi hj => bk_blk flat_txs hi hj rfl⟩, trivial⟩ rfl rfl
  · rintro q l m ⟨k, rfl, rfl, hq, hN⟩
    conv => whnf
    repeat (refine ⟨⟨_, rfl⟩, ?_⟩; conv => whnf)
    refine condB_mk (fun hb => ?_) (fun hb => ?_)
    · have hb : k < t := by simp at hb; omega
      conv => whnf
      repeat (refine ⟨⟨_, rfl⟩, ?_⟩; conv => whnf)
      refine condB_ok (by simp; omega) ?_
      conv => whnf
      repeat (refine ⟨⟨_, rfl⟩, ?_⟩; conv => whnf)
      refine condB_mk (fun h2 => ?_) (fun h2 => ?_)
      · conv => whnf
        repeat (refine ⟨⟨_, rfl⟩, ?_⟩; conv => whnf)
        exact ⟨.inl rfl, .bool _⟩
      have h2 : ¬ ((N k : Int) > 1000) := of_decide_eq_false h2
      conv => whnf
      repeat (refine ⟨⟨_, rfl⟩, ?_⟩; conv => whnf)
      have e5 : IntKind.i64.wrap ((k : Int) + 1) = ((k + 1 : Nat) : Int) := by rw [w64 (by omega) (by omega)]; omega
      refine ⟨q - 1, [(1, .ptr 0 0 0), (3, .int .i64 ((k + 1 : Nat) : Int))], [some ⟨4, 1, lstG 4 (bkL p h s (.vsl 2 t cap (txG A N C F)))⟩], [some 0], by omega, ⟨k + 1, rfl, rfl, by omega, fun j hj => ?_⟩, ?_⟩
      · by_cases hjk : j = k
        · subst hjk; omega
        · exact hN j (by omega)
      · exact .mk0 ⟨.ptr _ _ _ _ rfl, Flat.i e5, trivial⟩ ⟨.old 0 0 _ _ rfl rfl ⟨rfl, Nat.le_refl _, fun i j hi hj => bk_blk flat_txs hi hj rfl⟩, trivial⟩ rfl rfl
    · have hb : k = t := by simp at hb; omega
      subst hb
      conv => whnf
      repeat (refine ⟨⟨_, rfl⟩, ?_⟩; conv => whnf)
      exact ⟨.inr ⟨rfl, by omega, hN⟩, .bool _⟩
theorem S_bHeavy {m : Mem} {K : AV → Mem → Prop} {v x : AV} {b : Bk} (hv : v = bkA b.p b.h b.s x) (hx : ShowsT m x b.t b.A b.N b.F) (h1 : True → K (.bool true) m) (h2 : b.t ≤ 40 → (∀ k, k < b.t → b.N k ≤ 1000) → K (.bool false) m) : ACall Pg F_witanlaw16_Heavy [v] m K := by
  subst hv
  obtain ⟨cap, C, hl⟩ := hx
  refine lift_flat (S_bHeavy0 b cap C) (.cons _ _ _ _ (lend_bk hl) .nil) ?_
  rintro v (rfl | ⟨rfl, g1, g2⟩)
  · exact h1 trivial
  · exact h2 g1 g2
theorem S_kTxs0 (t c1 c2 : Nat) (A A' : Nat → Int) (N N' C C' : Nat → Nat) (F F' : Nat → Nat → Int) (ht : t ≤ 1000000) (hA : ∀ k, k < t → A k = A' k) (hN : ∀ k, k < t → N k = N' k ∧ N k ≤ 1000000) (hF : ∀ k, k < t → ∀ i, i < N k → F k i = F' k i) :
    ACall Pg F_witankeep_Txs [.vsl 2 t c1 (txG A N C F), .vsl 2 t c2 (txG A' N' C' F')] [] (fun v _ => v = .bool true ∧ Flat true v) := by
  refine B_witankeep_Txs ⟨rfl, ?_⟩
  conv => whnf
  repeat (refine ⟨⟨_, rfl⟩, ?_⟩; conv => whnf)
  refine condB_no (by simp) ?_
  conv => whnf
  repeat (refine ⟨⟨_, rfl⟩, ?_⟩; conv => whnf)
  refine loop_wk mixed (I := fun q l m => ∃ (k : Nat), l = [(0, .vsl 2 t c1 (txG A N C F)), (1, .vsl 2 t c2 (txG A' N' C' F')), (5, .int .i64 k)] ∧ m = [] ∧ q + k = t) t
    (l0 := [(0, .vsl 2 t c1 (txG A N C F)), (1, .vsl 2 t c2 (txG A' N' C' F')), (5, .int .i64 (0 : Nat))]) (m0 := []) [] ⟨0, rfl, rfl, rfl⟩ ?_ ?_
  · exact .mk0 ⟨.eq _ _ rfl flat_txs, .eq _ _ rfl flat_txs, Flat.i rfl, trivial⟩ trivial rfl rfl
  · rintro q l m ⟨k, rfl, rfl, hq⟩
    conv => whnf
    repeat (refine ⟨⟨_, rfl⟩, ?_⟩; conv => whnf)
    refine condB_mk (fun hb => ?_) (fun hb => ?_)
    · have hb : k < t := by simp at hb; omega
      obtain ⟨n1, n2⟩ := hN k hb
      conv => whnf
      repeat (refine ⟨⟨_, rfl⟩, ?_⟩; conv => whnf)
      refine condB_ok (by simp; omega) ?_
      conv => whnf
      repeat (refine ⟨⟨_, rfl⟩, ?_⟩; conv => whnf)
      refine condB_ok (by simp; omega) ?_
      conv => whnf
      repeat (refine ⟨⟨_, rfl⟩, ?_⟩; conv => whnf)
      refine condB_yes (by have := hA k hb; show ((!(A k == A' k)) == false) = true; simp [this]) ?_
      conv => whnf
      repeat (refine ⟨⟨_, rfl⟩, ?_⟩; conv => whnf)
      refine condB_ok (by simp; omega) ?_
      conv => whnf
      repeat (refine ⟨⟨_, rfl⟩, ?_⟩; conv => whnf)
      refine condB_ok (by simp; omega) ?_
      conv => whnf
      repeat (refine ⟨⟨_, rfl⟩, ?_⟩; conv => whnf)
      refine S_Bytes (n1 := N k) (n2 := N' k) (f := F k) (g := F' k) Shows.vsl Shows.vsl (by omega) ?_
      rw [sameB_eq.2 ⟨n1, hF k hb⟩]
      conv => whnf
      repeat (refine ⟨⟨_, rfl⟩, ?_⟩; conv => whnf)
      have e5 : IntKind.i64.wrap ((k : Int) + 1) = ((k + 1 : Nat) : Int) := by rw [w64 (by omega) (by omega)]; omega
      refine ⟨q - 1, [(0, .vsl 2 t c1 (txG A N C F)), (1, .vsl 2 t c2 (txG A' N' C' F')), (5, .int .i64 ((k + 1 : Nat) : Int))], [], [], by omega, ⟨k + 1, rfl, rfl, by omega⟩, ?_⟩
      exact .mk0 ⟨.eq _ _ rfl flat_txs, .eq _ _ rfl flat_txs, Flat.i e5, trivial⟩ trivial rfl rfl
    · conv => whnf
      repeat (refine ⟨⟨_, rfl⟩, ?_⟩; conv => whnf)
      exact ⟨rfl, .bool _⟩
theorem S_kTxs {m : Mem} {K : AV → Mem → Prop} {x y : AV} {t : Nat} {A A' : Nat → Int} {N N' : Nat → Nat} {F F' : Nat → Nat → Int} (hx : ShowsT m x t A N F) (hy : ShowsT m y t A' N' F') (ht : t ≤ 1000000) (hA : ∀ k, k < t → A k = A' k) (hN : ∀ k, k < t → N k = N' k ∧ N k ≤ 1000000) (hF : ∀ k, k < t → ∀ i, i < N k → F k i = F' k i) (h : K (.bool true) m) :
    ACall Pg F_witankeep_Txs [x, y] m K := by
  obtain ⟨c1, C, hl⟩ := hx
  obtain ⟨c2, C', hl2⟩ := hy
  refine lift_flat (S_kTxs0 t c1 c2 A A' N N' C C' F F' ht hA hN hF) (.cons _ _ _ _ hl (.cons _ _ _ _ hl2 .nil)) ?_
  rintro v rfl
  exact h
theorem S_kBlock {m : Mem} {K : AV → Mem → Prop} {v w x y : AV} {p h s p' h' s' : Int} {t : Nat} {A A' : Nat → Int} {N N' : Nat → Nat} {F F' : Nat → Nat → Int} (hv : v = bkA p h s x) (hw : w = bkA p' h' s' y) (hx : ShowsT m x t A N F) (hy : ShowsT m y t A' N' F') (hp : p = p') (hh : h = h') (hs : s = s') (ht : t ≤ 1000000) (hA : ∀ k, k < t → A k = A' k) (hN : ∀ k, k < t → N k = N' k ∧ N k ≤ 1000000) (hF : ∀ k, k < t → ∀ i, i < N k → F k i = F' k i) (hK : K (.bool true) m) :
    ACall Pg F_witankeep_Block [v, w] m K := by
  subst hv hw hp hh hs
  obtain ⟨c1, C, hl⟩ := hx
  obtain ⟨c2, C', hl2⟩ := hy
  have h0 : ACall Pg F_witankeep_Block [bkA p h s (.vsl 2 t c1 (txG A N C F)), bkA p h s (.vsl 2 t c2 (txG A' N' C' F'))] [] (fun v _ => v = .bool true ∧ Flat true v) := by
    refine B_witankeep_Block ⟨rfl, ?_⟩
    conv => whnf
    repeat (refine ⟨⟨_, rfl⟩, ?_⟩; conv => whnf)
    refine condB_yes (by simp) ?_
    conv => whnf
    repeat (refine ⟨⟨_, rfl⟩, ?_⟩; conv => whnf)
    refine condB_yes (by simp) ?_
    conv => whnf
    repeat (refine ⟨⟨_, rfl⟩, ?_⟩; conv => whnf)
    refine condB_yes (by simp) ?_
    conv => whnf
    repeat (refine ⟨⟨_, rfl⟩, ?_⟩; conv => whnf)
    refine S_kTxs (t := t) (A := A) (A' := A') (N := N) (N' := N') (F := F) (F' := F') .vsl .vsl ht hA hN hF ?_
    conv => whnf
    repeat (refine ⟨⟨_, rfl⟩, ?_⟩; conv => whnf)
    exact ⟨rfl, .bool _⟩
  refine lift_flat h0 (.cons _ _ _ _ (lend_bk hl) (.cons _ _ _ _ (lend_bk hl2) .nil)) ?_
  rintro v rfl
  exact hK
/-- A row just told, whose payload stands in block l. -/
theorem tx_fz {A : Nat → Int} {N D : Nat → Nat} {F : Nat → Nat → Int} {k c2 l i j : Nat} {v : AV} (hi : i < k + 1) (hj : j < 2) (hv1 : i = k → v = ([.int .i64 (A k), .sl l 0 (N k) c2] : List AV).getD j .un) (hv2 : i ≠ k → v = txG A N D F i j) :
    FzV l ⟨1, N k, bytesG (F k)⟩ v (txG A N (fun i => if i = k then c2 else D i) F i j) := by
  by_cases hik : i = k
  · rw [hv1 hik]
    subst hik
    rcases (show j = 0 ∨ j = 1 by omega) with rfl | rfl
    · exact .inl rfl
    · refine .inr (.inr ⟨0, N i, c2, bytesG (F i), rfl, ?_, by show 0 + N i ≤ N i; omega, fun a b _ _ => by rw [Nat.zero_add]⟩)
      show AV.vsl 1 (N i) (if i = i then c2 else D i) (bytesG (F i)) = _
      rw [if_pos rfl]
  · rw [hv2 hik]
    refine .inl ?_
    unfold txG; simp only [if_neg hik]
theorem S_TwinTxs0 (t cap : Nat) (A : Nat → Int) (N C : Nat → Nat) (F : Nat → Nat → Int) (ht : t ≤ 1000000) (hN : ∀ i, i < t → N i ≤ 1000000) : ACall Pg F_witankeep_TwinTxs [.vsl 2 t cap (txG A N C F)] [] (fun v m' => (v = .nils ∧ t = 0) ∨ ∃ l cap D, v = .sl l 0 t cap ∧ m'[l]? = some (some ⟨2, t, txG A N D F⟩)) := by
  refine B_witankeep_TwinTxs ⟨rfl, ?_⟩
  conv => whnf
  repeat (refine ⟨⟨_, rfl⟩, ?_⟩; conv => whnf)
  refine loop_fz mixed (I := fun q l m => ∃ (k c' : Nat) (D : Nat → Nat), l = [(0, .vsl 2 t cap (txG A N C F)), (3, .sl 0 0 k c'), (4, .int .i64 k)] ∧ m = [some ⟨2, k, txG A N D F⟩] ∧ q + k = t) t
    (l0 := [(0, .vsl 2 t cap (txG A N C F)), (3, .sl 0 0 0 0), (4, .int .i64 (0 : Nat))]) (m0 := [some ⟨2, 0, txG A N (fun _ => 0) F⟩]) [none] ⟨0, 0, _, rfl, rfl, rfl⟩ ?_ ?_
  · exact .mk0 ⟨.eq _ _ rfl flat_txs, .nils _ _, Flat.i rfl, trivial⟩ ⟨.ph _ _ _ rfl, trivial⟩ rfl rfl
  · rintro q l m ⟨k, c', D, rfl, rfl, hq⟩
    conv => whnf
    repeat (refine ⟨⟨_, rfl⟩, ?_⟩; conv => whnf)
    refine condB_mk (fun hb => ?_) (fun hb => ?_)
    · have hb : k < t := by simp at hb; omega
      have h1 := hN k hb
      conv => whnf
      repeat (refine ⟨⟨_, rfl⟩, ?_⟩; conv => whnf)
      refine condB_ok (by simp; omega) ?_
      conv => whnf
      repeat (refine ⟨⟨_, rfl⟩, ?_⟩; conv => whnf)
      refine condB_ok (by simp; omega) ?_
      conv => whnf
      repeat (refine ⟨⟨_, rfl⟩, ?_⟩; conv => whnf)
      refine S_Twin (f := F k) (n := N k) Shows.vsl (by omega) (fun cap2 => ?_)
      conv => whnf
      repeat (refine ⟨⟨_, rfl⟩, ?_⟩; conv => whnf)
      refine condB_ok (app_ok (by first | rfl | simp) rfl rfl (by omega) (by omega)) (fun cap3 hcap3 => ?_)
      conv => whnf
      repeat (refine ⟨⟨_, rfl⟩, ?_⟩; conv => whnf)
      have e5 : IntKind.i64.wrap ((k : Int) + 1) = ((k + 1 : Nat) : Int) := by rw [w64 (by omega) (by omega)]; omega
      refine ⟨q - 1, [(0, .vsl 2 t cap (txG A N C F)), (3, .sl 0 0 (k + 1) cap3), (4, .int .i64 ((k + 1 : Nat) : Int))], [none, none, none, some ⟨2, k + 1, txG A N (fun i => if i = k then cap2 else D i) F⟩], [some ⟨2, k + 1, txG A N (fun i => if i = k then cap2 else D i) F⟩], [some 3], by omega, ⟨k + 1, cap3, _, rfl, rfl, by omega⟩, ?_, ?_⟩
      · refine .step 1 ⟨1, N k, bytesG (F k)⟩ _ [none, none, none, some ⟨2, k + 1, txG A N (fun i => if i = k then cap2 else D i) F⟩] _ rfl (.c (.inl rfl) (.c (.inl rfl) (.c (.inl rfl) (.c (.inr ⟨by decide, _, _, rfl, rfl, rfl, Nat.le_refl _, fun i j hi hj => ?_⟩) .n)))) (.refl _)
        have hi : i < k + 1 := hi
        have hj : j < 2 := hj
        refine tx_fz (D := D) hi hj (fun h => ?_) (fun h => ?_)
        · dsimp only
          rw [catG_ge (by omega), h, Nat.sub_self]
          rcases (show j = 0 ∨ j = 1 by omega) with rfl | rfl <;> rfl
        · dsimp only
          rw [catG_lt (by omega)]
      · exact .mk0 ⟨.eq _ _ rfl flat_txs, .sl _ _ _ _ _ rfl, Flat.i e5, trivial⟩ ⟨.old 0 3 _ _ rfl rfl ⟨rfl, Nat.le_refl _, fun i j hi hj => .eq _ _ rfl (by dsimp only; exact flat_txG)⟩, trivial⟩ rfl rfl
    · have hb : k = t := by simp at hb; omega
      subst hb
      conv => whnf
      repeat (refine ⟨⟨_, rfl⟩, ?_⟩; conv => whnf)
      exact .inr ⟨0, c', D, rfl, rfl⟩
theorem S_TwinTxs {m : Mem} {K : AV → Mem → Prop} {t cap : Nat} {A : Nat → Int} {N C : Nat → Nat} {F : Nat → Nat → Int} (ht : t ≤ 1000000) (hN : ∀ i, i < t → N i ≤ 1000000) (hK : ∀ cap D, memK (m ++ [some ⟨2, t, txG A N D F⟩]) (K (.sl m.length 0 t cap))) : ACall Pg F_witankeep_TwinTxs [.vsl 2 t cap (txG A N C F)] m K := by
  simp only [memK_eq] at hK
  refine (S_TwinTxs0 t cap A N C F ht hN).frame0 false [] (fun _ => rfl) (.cons _ _ _ _ (lend_flat flat_txs) .nil) (fun v m' hv => ?_)
  rcases hv with ⟨rfl, rfl⟩ | ⟨l, cap2, D, rfl, h1⟩
  · exact ⟨.sl m.length 0 0 0, [some ⟨2, 0, txG A N (fun _ => 0) F⟩], [none], Nat.le_refl _, fun i j q hi => by cases i <;> simp at hi, .nils _ _, ⟨.ph _ _ _ (by simp [shiftT]), trivial⟩, hK 0 _⟩
  · refine ⟨.sl m.length 0 t cap2, [some ⟨2, t, txG A N D F⟩], [some l], Nat.le_refl _, fun i j q hi hj => ?_, .sl _ _ _ _ _ (by simp [shiftT]), ⟨.old _ l _ _ (by simp [shiftT]) h1 ⟨rfl, Nat.le_refl _, fun i j hi hj => .eq _ _ rfl (by dsimp only; exact flat_txG)⟩, trivial⟩, hK cap2 D⟩
    cases i <;> cases j <;> simp at hi hj; rfl
/-- A result that is a block (and what stands behind it), whose transactions lie in one block of memory. -/
theorem S_TwinBlock {m : Mem} {K : AV → Mem → Prop} {v : AV} {p h s : Int} {t cap : Nat} {A : Nat → Int} {N C : Nat → Nat} {F : Nat → Nat → Int} (hv : v = bkA p h s (.vsl 2 t cap (txG A N C F))) (ht : t ≤ 1000000) (hN : ∀ i, i < t → N i ≤ 1000000) (hK : ∀ cap D, memK (m ++ [some ⟨2, t, txG A N D F⟩]) (K (bkA p h s (.sl m.length 0 t cap)))) : ACall Pg F_witankeep_TwinBlock [v] m K := by
  subst hv
  have h0 : ACall Pg F_witankeep_TwinBlock [bkA p h s (.vsl 2 t cap (txG A N C F))] [] (fun v m' => ∃ l cap D, v = bkA p h s (.sl l 0 t cap) ∧ m'[l]? = some (some ⟨2, t, txG A N D F⟩)) := by
    refine B_witankeep_TwinBlock ⟨rfl, ?_⟩
    conv => whnf
    repeat (refine ⟨⟨_, rfl⟩, ?_⟩; conv => whnf)
    refine S_TwinTxs ht hN (fun cap2 D => ?_)
    conv => whnf
    repeat (refine ⟨⟨_, rfl⟩, ?_⟩; conv => whnf)
    exact ⟨_, cap2, D, rfl, rfl⟩
  simp only [memK_eq] at hK
  refine h0.frame0 false [] (fun _ => rfl) (.cons _ _ _ _ (lend_flat (flat_bkA flat_txs)) .nil) (fun v m' hv => ?_)
  obtain ⟨l, cap2, D, rfl, h1⟩ := hv
  refine ⟨bkA p h s (.sl m.length 0 t cap2), [some ⟨2, t, txG A N D F⟩], [some l], Nat.le_refl _, fun i j q hi hj => ?_, .agg _ _ (.cons _ _ _ _ (.eq _ _ rfl (.int _ _)) (.cons _ _ _ _ (.eq _ _ rfl (.int _ _)) (.cons _ _ _ _ (.eq _ _ rfl (.int _ _)) (.cons _ _ _ _ (.sl _ _ _ _ _ (by simp [shiftT])) .nil)))), ⟨.old _ l _ _ (by simp [shiftT]) h1 ⟨rfl, Nat.le_refl _, fun i j hi hj => .eq _ _ rfl (by dsimp only; exact flat_txG)⟩, trivial⟩, hK cap2 D⟩
  cases i <;> cases j <;> simp at hi hj; rfl
end Go.Proofs.Ytjflfecdeicccaa
end

section
/- Lemmas for keyed sums; no condition. -/
set_option linter.unusedVariables false
set_option linter.unusedSimpArgs false
set_option maxRecDepth 100000
set_option pp.maxSteps 300
namespace Go.Proofs.Ytjflfecdeicccaa
open Go Go.Wit

theorem outRow2 {s : Nat → Int} {g : Nat → Nat → AV} {l : List AV} (hl : l = List.map (cellG ⟨1, 32, updG ⟨1, 32, g⟩ 0 0 32 ((List.range 32).map fun i => .int .u8 (s i))⟩ 0 0) (List.range 32)) : AV.agg l = .agg (rowL s) ∧ Flat true (.agg l) := by
  have e : l = rowL s := by
    subst hl
    refine List.map_congr_left fun i hi => ?_
    have hi : i < 32 := List.mem_range.mp hi
    rw [cellG_one, Nat.zero_add, updG_all (by omega) hi, List.getD_eq_getElem?_getD, List.getElem?_map, List.getElem?_range hi]
    rfl
  subst e
  exact ⟨rfl, .agg _ flat_rowL⟩

end Go.Proofs.Ytjflfecdeicccaa
end

section
/- The reference sum; no condition. -/
set_option linter.unusedVariables false
set_option linter.unusedSimpArgs false
set_option maxRecDepth 100000
set_option pp.maxSteps 300
namespace Go.Proofs.Ytjflfecdeicccaa
open Go Go.Wit

theorem kRows : kList.map (AV.int .u32) = (List.range 64).map fun i => .int .u32 (kTab i) := rfl

theorem S_k256R {m : Mem} {K : AV → Mem → Prop} (hK : K (.agg ((List.range 64).map fun i => .int .u32 (kTab i))) m) : ACall Pg F_witanref04_k256 [] m K :=
  S_k256 (kRows ▸ hK)

theorem kRow {nv : Bool} {σ : Nat → Option Nat} {t : Nat → Int} {g : Nat → Nat → AV} {i j : Nat} {A : AV} (hi : i < 64) (hj : j < 1) (hA : A = updG ⟨1, 64, g⟩ 0 0 64 ((List.range 64).map fun i => .int .u32 (t i)) i j) : RV nv σ A (u32G t i j) := by
  subst hA
  obtain rfl : j = 0 := by omega
  have : updG ⟨1, 64, g⟩ 0 0 64 ((List.range 64).map fun i => .int .u32 (t i)) i 0 = u32G t i 0 := by
    rw [updG_all (by omega) hi, List.getD_eq_getElem?_getD, List.getElem?_map, List.getElem?_range hi]
    rfl
  rw [this]; exact .eq _ _ rfl (.int _ _)

theorem Wn_ge (b : Nat → Int) : ∀ k i, k ≤ i → Wn b k i = 0
  | 0, _, _ => rfl
  | k + 1, i, h => by
    rw [show Wn b (k + 1) i = Wn b k i from if_neg (by omega)]
    exact Wn_ge b k i (by omega)

/-- A row that a call has made lies in the caller's next block, with room for all of it. -/
theorem lift_rowC {P : Program} {fn : FuncId} {args args0 : List AV} {m : Mem} {K : AV → Mem → Prop} {es n : Nat} {G : Nat → Nat → AV} (h : ACall P fn args0 [] (fun v m' => ∃ l cap N g, v = .sl l 0 n cap ∧ n ≤ cap ∧ m'[l]? = some (some ⟨es, N, g⟩) ∧ n ≤ N ∧ ∀ i j, i < n → j < es → g i j = G i j ∧ Flat true (G i j)))
    (ha : Lends (fun _ => none) (List.range m.length) m args args0) (hK : ∀ cap, n ≤ cap → memK (m ++ [some ⟨es, n, G⟩]) (K (.sl m.length 0 n cap))) : ACall P fn args m K := by
  simp only [memK_eq] at hK
  refine h.frame0 true (List.range m.length) (fun h => by cases h) ha (fun v m' hv => ?_)
  obtain ⟨l, cap, N, g, rfl, hc, h1, h2, h3⟩ := hv
  refine ⟨.sl m.length 0 n cap, [some ⟨es, n, G⟩], [some l], Nat.le_refl _, fun i j q hi hj => ?_, .sl _ _ _ _ _ (by simp [shiftT]), ⟨.old _ l _ _ (by simp [shiftT]) h1 ⟨rfl, h2, fun i j hi hj => ?_⟩, trivial⟩, hK cap hc⟩
  · cases i <;> cases j <;> simp at hi hj; rfl
  · obtain ⟨g1, g2⟩ := h3 i j hi hj
    exact .eq _ _ g1 (show Flat true (g i j) from g1 ▸ g2)

theorem S_refPaddedC0 (n cap : Nat) (f : Nat → Int) (hn : n ≤ 1000000) : ACall Pg F_witanref04_padded [.vsl 1 n cap (bytesG f)] [] (fun v m' => ∃ l cap N g, v = .sl l 0 (padN n) cap ∧ padN n ≤ cap ∧ m'[l]? = some (some ⟨1, N, g⟩) ∧ padN n ≤ N ∧ ∀ i j, i < padN n → j < 1 → g i j = bytesG (padF n f) i j ∧ Flat true (bytesG (padF n f) i j)) := by
  obtain ⟨p1, p2, p3⟩ := padN_ge n
  refine B_witanref04_padded ⟨rfl, ?_⟩
  conv => whnf
  refine condB_ok (app_ok rfl rfl rfl (by omega) (by omega)) (fun cap1 hcap1 => ?_)
  conv => whnf
  refine condB_ok (app_ok (by simp) rfl rfl (by omega) (by omega)) (fun cap2 hcap2 => ?_)
  conv => whnf
  simp only [Nat.zero_add]
  refine loop_wk mixed (I := fun q l m => ∃ (N c : Nat) (g : Nat → Int), l = [(0, .vsl 1 n cap (bytesG f)), (3, .sl 0 0 N c)] ∧ m = [some ⟨1, N, bytesG g⟩] ∧ q + N = padN n - 8 ∧ n + 1 ≤ N ∧ N ≤ c ∧ ∀ j, j < N → g j = padF n f j) (padN n - 8 - (n + 1))
    (l0 := [(0, .vsl 1 n cap (bytesG f)), (3, .sl 0 0 (n + 1) cap2)]) (m0 := [some ⟨1, n + 1, bytesG (padF n f)⟩]) [some 2] ⟨n + 1, cap2, _, rfl, rfl, by omega, by omega, by omega, fun j hj => rfl⟩ ?_ ?_
  · refine .mk0 ⟨.eq _ _ rfl (.vsl _ _ _ _ rfl (fun _ _ _ _ => .int _ _)), .sl _ _ _ _ _ rfl, trivial⟩ ⟨.old 0 2 _ _ rfl rfl ⟨rfl, Nat.le_refl _, fun i j hi hj => ?_⟩, trivial⟩ rfl rfl
    have hj : j < 1 := hj
    have hi : i < n + 1 := hi
    refine .eq _ _ ?_ ?_ <;> (obtain rfl : j = 0 := by omega) <;> dsimp only
    · by_cases h : i < n
      · rw [catG_lt h]
        have : catG 0 (fun _ _ => AV.un) (bytesG f) i 0 = bytesG f i 0 := by rw [catG_ge (by omega)]; rfl
        refine Eq.trans this ?_
        simp only [bytesG, padF, if_pos h]
      · obtain rfl : i = n := by omega
        rw [catG_ge (by omega)]
        simp only [bytesG, padF, if_neg h, if_pos trivial, Nat.sub_self]
        rfl
    · by_cases h : i < n
      · rw [catG_lt h]
        have : catG 0 (fun _ _ => AV.un) (bytesG f) i 0 = bytesG f i 0 := by rw [catG_ge (by omega)]; rfl
        exact (show Flat false (catG 0 (fun _ _ => AV.un) (bytesG f) i 0) from this ▸ .int _ _)
      · obtain rfl : i = n := by omega
        rw [catG_ge (by omega), Nat.sub_self]
        exact .int _ _
  · rintro q l m ⟨N, c, g, rfl, rfl, hq, hN, hNc, hg⟩
    conv => whnf
    rw [show (IntKind.i64.wrap ((N : Int) + 8)).tmod 64 = (((N + 8) % 64 : Nat) : Int) by
      rw [w64 (by omega) (by omega)]; exact tmod_nat (N + 8) 64]
    refine condB_mk (fun hb => ?_) (fun hb => ?_)
    · have hb : N < padN n - 8 := by
        simp at hb
        rcases Nat.lt_or_ge N (padN n - 8) with h | h
        · exact h
        · have : N = padN n - 8 := by omega
          omega
      conv => whnf
      refine condB_ok (app_ok (by simp) rfl rfl (by omega) (by omega)) (fun cap' hcap => ?_)
      conv => whnf
      refine ⟨q - 1, [(0, .vsl 1 n cap (bytesG f)), (3, .sl 0 0 (N + 1) cap')], [some ⟨1, N + 1, bytesG (fun j => if j < N then g j else 0)⟩], [some 2], by omega, ⟨N + 1, cap', _, rfl, rfl, by omega, by omega, by omega, fun j hj => ?_⟩, ?_⟩
      · by_cases h : j < N
        · simp only [if_pos h]; exact hg j h
        · simp only [if_neg h]
          rw [padF, if_neg (by omega), if_neg (by omega), if_pos (by omega)]
      · refine .mk0 ⟨.eq _ _ rfl (.vsl _ _ _ _ rfl (fun _ _ _ _ => .int _ _)), .sl _ _ _ _ _ rfl, trivial⟩ ⟨.old 0 2 _ _ rfl rfl ⟨rfl, Nat.le_refl _, fun i j hi hj => ?_⟩, trivial⟩ rfl rfl
        dsimp only
        refine catW (N := N) (k := 1) (g := g) (g' := fun j => if j < N then g j else 0) rfl rfl (fun i hi => if_pos hi) (fun i hi => ?_) hi hj
        obtain rfl : i = 0 := by omega
        simp only [Nat.add_zero, if_neg (Nat.lt_irrefl N)]; rfl
    · have hb : N = padN n - 8 := by
        simp at hb
        omega
      conv => whnf
      rw [show IntKind.u64.wrap (IntKind.u64.wrap (n : Int) * 8) = ((8 * n : Nat) : Int) by
        rw [wu64, wu64]; omega]
      refine loop_wk mixed (I := fun q l m => ∃ (k : Int) (N c : Nat) (g : Nat → Int), l = [(0, .vsl 1 n cap (bytesG f)), (3, .sl 0 0 N c), (4, .int .u64 ((8 * n : Nat) : Int)), (5, .int .i64 k)] ∧ m = [some ⟨1, N, bytesG g⟩] ∧ (q : Int) = k + 1 ∧ -1 ≤ k ∧ k ≤ 7 ∧ (N : Int) = padN n - 1 - k ∧ N ≤ c ∧ ∀ j, j < N → g j = padF n f j) 8
        (l0 := [(0, .vsl 1 n cap (bytesG f)), (3, .sl 0 0 N c), (4, .int .u64 ((8 * n : Nat) : Int)), (5, .int .i64 7)]) (m0 := [some ⟨1, N, bytesG g⟩]) [some 0] ⟨7, N, c, g, rfl, rfl, by omega, by omega, by omega, by omega, hNc, hg⟩ ?_ ?_
      · refine .mk0 ⟨.eq _ _ rfl (.vsl _ _ _ _ rfl (fun _ _ _ _ => .int _ _)), .sl _ _ _ _ _ rfl, Flat.i rfl, Flat.i rfl, trivial⟩ ⟨.old 0 0 _ _ rfl rfl ⟨rfl, Nat.le_refl _, fun i j hi hj => .eq _ _ rfl (.int _ _)⟩, trivial⟩ rfl rfl
      · clear hb hq hN hNc hg
        rintro q l m ⟨k, N, c, g, rfl, rfl, hq, hk1, hk2, hN, hNc, hg⟩
        conv => whnf
        refine condB_mk (fun hb => ?_) (fun hb => ?_)
        · have hb : 0 ≤ k := by simpa using hb
          conv => whnf
          rw [show IntKind.u64.wrap (8 * IntKind.u64.wrap k) = 8 * k by rw [wu64, wu64]; omega]
          refine condB_ok (decide_eq_true (by omega)) ?_
          conv => whnf
          refine condB_ok (app_ok (by simp) rfl rfl (by omega) (by omega)) (fun cap' hcap => ?_)
          conv => whnf
          rw [w64 (n := k - 1) (by omega) (by omega)]
          refine ⟨q - 1, [(0, .vsl 1 n cap (bytesG f)), (3, .sl 0 0 (N + 1) cap'), (4, .int .u64 ((8 * n : Nat) : Int)), (5, .int .i64 (k - 1))], [some ⟨1, N + 1, bytesG (padF n f)⟩], [some 2], by omega, ⟨k - 1, N + 1, cap', _, rfl, rfl, by omega, by omega, by omega, by omega, by omega, fun j hj => rfl⟩, ?_⟩
          refine .mk0 ⟨.eq _ _ rfl (.vsl _ _ _ _ rfl (fun _ _ _ _ => .int _ _)), .sl _ _ _ _ _ rfl, Flat.i rfl, Flat.i rfl, trivial⟩ ⟨.old 0 2 _ _ rfl rfl ⟨rfl, Nat.le_refl _, fun i j hi hj => ?_⟩, trivial⟩ rfl rfl
          dsimp only
          refine catW (N := N) (k := 1) (g := g) (g' := padF n f) rfl rfl (fun i hi => (hg i hi).symm) (fun i hi => ?_) hi hj
          obtain rfl : i = 0 := by omega
          have e : IntKind.u8.wrap (((8 * n : Nat) : Int).fdiv (2 ^ min (8 * k).toNat IntKind.u64.bits)) = padF n f (N + 0) := by
            rw [IntKind.wrap_u8, Int.fdiv_eq_ediv_of_nonneg _ (Int.pow_nonneg (by omega)), padF, if_neg (by omega), if_neg (by omega), if_neg (by omega)]
            rw [show min (8 * k).toNat IntKind.u64.bits = 8 * (padN n - 1 - (N + 0)) by simp only [IntKind.bits]; omega]
          rw [← e]; rfl
        · have hb : k = -1 := by simp at hb; omega
          conv => whnf
          obtain rfl : N = padN n := by omega
          exact ⟨0, c, padN n, _, rfl, hNc, rfl, Nat.le_refl _, fun i j hi hj => ⟨by simp only [bytesG, hg i hi], .int _ _⟩⟩

theorem S_refPaddedC {m : Mem} {x : AV} {n : Nat} {f : Nat → Int} {K : AV → Mem → Prop} (hx : Shows m x n f) (hn : n ≤ 1000000) (hK : ∀ c, padN n ≤ c + 1 → memK (m ++ [some ⟨1, padN n, bytesG (padF n f)⟩]) (K (.sl m.length 0 (padN n) (c + 1)))) : ACall Pg F_witanref04_padded [x] m K := by
  obtain ⟨cap, hl⟩ := hx
  obtain ⟨p1, p2, p3⟩ := padN_ge n
  refine lift_rowC (S_refPaddedC0 n cap f hn) (.cons _ _ _ _ hl .nil) (fun cap' hc => ?_)
  obtain ⟨c, rfl⟩ : ∃ c, cap' = c + 1 := ⟨cap' - 1, by omega⟩
  exact hK c hc

end Go.Proofs.Ytjflfecdeicccaa
end

