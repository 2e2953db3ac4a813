/- Parts: a length ahead of bytes; no condition. -/
import Derived.Test.YtdobchoiiihfiaaD6
set_option linter.unusedVariables false
set_option linter.unusedSimpArgs false
set_option maxRecDepth 100000
set_option pp.maxSteps 300
namespace Go.Proofs.Ytdobchoiiihfiaa
open Go Go.Wit

/-- Bytes behind bytes. -/
def catB (n : Nat) (f g : Nat → Int) (i : Nat) : Int := if i < n then f i else g (i - n)

theorem S_PutPart0 (n c1 k c2 : Nat) (f g : Nat → Int) (hn : n ≤ 140737488300000) : ACall Pg F_bin_PutPart [.vsl 1 n c1 (bytesG f), .vsl 1 k c2 (bytesG g)] []
    (fun r m' => ∃ n' f' x vs, r = .tup (x :: vs) ∧ (if k ≤ 16384 then n' = n + 4 + k ∧ f' = catB (n + 4) (putB n f k 4) g ∧ vs = [.int .i64 0] else n' = 0 ∧ vs = [.int .i64 4]) ∧ RetB n' f' x m' ∧ Flats true vs) := by
  refine B_bin_PutPart ⟨rfl, ?_⟩
  conv => whnf
  refine condB_mk (fun h1 => ?_) (fun h1 => ?_)
  · conv => whnf
    have h1 : ¬ k ≤ 16384 := by simp at h1; omega
    exact ⟨0, fun _ => 0, .nils, _, rfl, by rw [if_neg h1]; exact ⟨rfl, rfl⟩, .inl ⟨rfl, rfl⟩, .cons _ _ (.int _ _) .nil⟩
  have h1 : k ≤ 16384 := by simp at h1; omega
  conv => whnf
  have hok : putOk k 4 = true := by simp [putOk]; omega
  refine S_Put (f := f) k 4 Shows.vsl (by omega) (fun h => by rw [hok] at h; cases h) (fun _ cap => ?_)
  rw [show Int.toNat 4 = 4 from rfl]
  conv => whnf
  refine condB_ok (app_ok (decide_eq_true (Nat.le_refl _)) rfl rfl (by omega) (by omega)) (fun cap' hcap => ?_)
  conv => whnf
  refine ⟨n + 4 + k, catB (n + 4) (putB n f k 4) g, _, _, rfl, by rw [if_pos h1]; exact ⟨rfl, rfl, rfl⟩, .inr ⟨1, cap', _, _, rfl, rfl, Nat.le_refl _, fun i hi => ?_⟩, .cons _ _ (.int _ _) .nil⟩
  by_cases hin : i < n + 4
  · rw [catG_lt hin, catB, if_pos hin]; rfl
  · rw [catG_ge (by omega), catB, if_neg hin]; rfl

theorem S_PutPart {m : Mem} {x y : AV} {n k : Nat} {f g : Nat → Int} {K : AV → Mem → Prop} (hx : Shows m x n f) (hy : Shows m y k g) (hn : n ≤ 140737488300000)
    (h0 : ¬ k ≤ 16384 → ∀ cap f', memK (m ++ [some ⟨1, 0, bytesG f'⟩]) (K (.tup [.sl m.length 0 0 cap, .int .i64 4])))
    (h1 : k ≤ 16384 → ∀ cap, memK (m ++ [some ⟨1, n + 4 + k, bytesG (catB (n + 4) (putB n f k 4) g)⟩]) (K (.tup [.sl m.length 0 (n + 4 + k) cap, .int .i64 0]))) : ACall Pg F_bin_PutPart [x, y] m K := by
  simp only [memK_eq] at h0 h1
  obtain ⟨c1, hl⟩ := hx
  obtain ⟨c2, hl2⟩ := hy
  refine lift_tup (S_PutPart0 n c1 k c2 f g hn) (.cons _ _ _ _ hl (.cons _ _ _ _ hl2 .nil)) ?_
  intro n' f' cap' vs hR
  by_cases hp : k ≤ 16384
  · rw [if_pos hp] at hR
    obtain ⟨rfl, rfl, rfl⟩ := hR
    exact h1 hp cap'
  · rw [if_neg hp] at hR
    obtain ⟨rfl, rfl⟩ := hR
    exact h0 hp cap' f'

theorem S_refPutPart0 (n c1 k c2 : Nat) (f g : Nat → Int) (hn : n ≤ 140737488300000) : ACall Pg F_witanref10_PutPart [.vsl 1 n c1 (bytesG f), .vsl 1 k c2 (bytesG g)] []
    (fun r m' => ∃ n' f' x vs, r = .tup (x :: vs) ∧ (if k ≤ 16384 then n' = n + 4 + k ∧ f' = catB (n + 4) (putB n f k 4) g ∧ vs = [.int .i64 0] else n' = 0 ∧ vs = [.int .i64 4]) ∧ RetB n' f' x m' ∧ Flats true vs) := by
  refine B_witanref10_PutPart ⟨rfl, ?_⟩
  conv => whnf
  refine condB_mk (fun h1 => ?_) (fun h1 => ?_)
  · conv => whnf
    have h1 : ¬ k ≤ 16384 := by simp at h1; omega
    exact ⟨0, fun _ => 0, .nils, _, rfl, by rw [if_neg h1]; exact ⟨rfl, rfl⟩, .inl ⟨rfl, rfl⟩, .cons _ _ (.int _ _) .nil⟩
  have h1 : k ≤ 16384 := by simp at h1; omega
  conv => whnf
  have hok : putOk k 4 = true := by simp [putOk]; omega
  refine S_refPut (f := f) k 4 Shows.vsl (by omega) (by omega) (fun h => by rw [hok] at h; cases h) (fun _ cap => ?_)
  rw [show Int.toNat 4 = 4 from rfl]
  conv => whnf
  refine condB_ok (app_ok (decide_eq_true (Nat.le_refl _)) rfl rfl (by omega) (by omega)) (fun cap' hcap => ?_)
  conv => whnf
  refine ⟨n + 4 + k, catB (n + 4) (putB n f k 4) g, _, _, rfl, by rw [if_pos h1]; exact ⟨rfl, rfl, rfl⟩, .inr ⟨1, cap', _, _, rfl, rfl, Nat.le_refl _, fun i hi => ?_⟩, .cons _ _ (.int _ _) .nil⟩
  by_cases hin : i < n + 4
  · rw [catG_lt hin, catB, if_pos hin]; rfl
  · rw [catG_ge (by omega), catB, if_neg hin]; rfl

theorem S_refPutPart {m : Mem} {x y : AV} {n k : Nat} {f g : Nat → Int} {K : AV → Mem → Prop} (hx : Shows m x n f) (hy : Shows m y k g) (hn : n ≤ 140737488300000)
    (h0 : ¬ k ≤ 16384 → ∀ cap f', memK (m ++ [some ⟨1, 0, bytesG f'⟩]) (K (.tup [.sl m.length 0 0 cap, .int .i64 4])))
    (h1 : k ≤ 16384 → ∀ cap, memK (m ++ [some ⟨1, n + 4 + k, bytesG (catB (n + 4) (putB n f k 4) g)⟩]) (K (.tup [.sl m.length 0 (n + 4 + k) cap, .int .i64 0]))) : ACall Pg F_witanref10_PutPart [x, y] m K := by
  simp only [memK_eq] at h0 h1
  obtain ⟨c1, hl⟩ := hx
  obtain ⟨c2, hl2⟩ := hy
  refine lift_tup (S_refPutPart0 n c1 k c2 f g hn) (.cons _ _ _ _ hl (.cons _ _ _ _ hl2 .nil)) ?_
  intro n' f' cap' vs hR
  by_cases hp : k ≤ 16384
  · rw [if_pos hp] at hR
    obtain ⟨rfl, rfl, rfl⟩ := hR
    exact h1 hp cap'
  · rw [if_neg hp] at hR
    obtain ⟨rfl, rfl⟩ := hR
    exact h0 hp cap' f'

end Go.Proofs.Ytdobchoiiihfiaa
