/- Rows held against one another; no condition. -/
import Derived.Test.YtdobchoiiihfiaaD3
set_option linter.unusedVariables false
set_option linter.unusedSimpArgs false
set_option maxRecDepth 100000
set_option pp.maxSteps 300
namespace Go.Proofs.Ytdobchoiiihfiaa
open Go Go.Wit

def sameB (n1 : Nat) (f : Nat → Int) (n2 : Nat) (g : Nat → Int) : Bool := decide (n1 = n2) && (List.range n1).all fun i => decide (f i = g i)

theorem sameB_eq {n1 n2 : Nat} {f g : Nat → Int} : sameB n1 f n2 g = true ↔ n1 = n2 ∧ ∀ i, i < n1 → f i = g i := by simp [sameB]

theorem S_Bytes0 (n1 c1 n2 c2 : Nat) (f g : Nat → Int) (h1 : n1 ≤ 140737488355328) : ACall Pg F_witankeep_Bytes [.vsl 1 n1 c1 (bytesG f), .vsl 1 n2 c2 (bytesG g)] []
    (fun r m' => r = .bool (sameB n1 f n2 g) ∧ Flat true r) := by
  refine B_witankeep_Bytes ⟨rfl, ?_⟩
  conv => whnf
  refine condB_mk (fun hc => ?_) (fun hc => ?_)
  · conv => whnf
    have hc : ¬ n1 = n2 := by simp at hc; omega
    exact ⟨by simp [sameB, hc], .bool _⟩
  have hc : n1 = n2 := by simp at hc; omega
  subst hc
  conv => whnf
  refine loop_wk mixed (I := fun q l m => ∃ (k : Nat), l = [(0, .vsl 1 n1 c1 (bytesG f)), (1, .vsl 1 n1 c2 (bytesG g)), (5, .int .i64 k)] ∧ m = [] ∧ q + k = n1 ∧ ∀ i, i < k → f i = g i) n1
    (l0 := [(0, .vsl 1 n1 c1 (bytesG f)), (1, .vsl 1 n1 c2 (bytesG g)), (5, .int .i64 0)]) (m0 := []) [] ⟨0, rfl, rfl, rfl, fun i hi => absurd hi (Nat.not_lt_zero _)⟩ ?_ ?_
  · exact .mk0 ⟨.eq _ _ rfl (.vsl _ _ _ _ rfl (fun _ _ _ _ => .int _ _)), .eq _ _ rfl (.vsl _ _ _ _ rfl (fun _ _ _ _ => .int _ _)), Flat.i rfl, trivial⟩ trivial rfl rfl
  · rintro q l m ⟨k, rfl, rfl, hq, hk⟩
    conv => whnf
    refine condB_mk (fun hb => ?_) (fun hb => ?_)
    · have hb : k < n1 := by simpa using hb
      conv => whnf
      refine condB_ok (by simp; omega) ?_
      conv => whnf
      refine condB_ok (by simp; omega) ?_
      conv => whnf
      refine condB_mk (fun hd => ?_) (fun hd => ?_)
      · conv => whnf
        have hd : f k ≠ g k := by simpa using hd
        refine ⟨?_, .bool _⟩
        have : sameB n1 f n1 g = false := by
          rw [Bool.eq_false_iff]; intro h
          exact hd ((sameB_eq.1 h).2 k hb)
        rw [this]
      · conv => whnf
        have hd : f k = g k := by simpa using hd
        rw [w64 (n := (k : Int) + 1) (by omega) (by omega)]
        refine ⟨q - 1, [(0, .vsl 1 n1 c1 (bytesG f)), (1, .vsl 1 n1 c2 (bytesG g)), (5, .int .i64 ((k + 1 : Nat) : Int))], [], [], by omega, ⟨k + 1, rfl, rfl, by omega, fun i hi => ?_⟩, ?_⟩
        · by_cases hik : i = k
          · rw [hik]; exact hd
          · exact hk i (by omega)
        · exact .mk0 ⟨.eq _ _ rfl (.vsl _ _ _ _ rfl (fun _ _ _ _ => .int _ _)), .eq _ _ rfl (.vsl _ _ _ _ rfl (fun _ _ _ _ => .int _ _)), Flat.i (by omega), trivial⟩ trivial rfl rfl
    · have hb : k = n1 := by simp at hb; omega
      subst hb
      conv => whnf
      refine ⟨?_, .bool _⟩
      rw [sameB_eq.2 ⟨rfl, hk⟩]

theorem S_Bytes {m : Mem} {x y : AV} {n1 n2 : Nat} {f g : Nat → Int} {K : AV → Mem → Prop} (hx : Shows m x n1 f) (hy : Shows m y n2 g) (h1 : n1 ≤ 140737488355328) (h : K (.bool (sameB n1 f n2 g)) m) : ACall Pg F_witankeep_Bytes [x, y] m K := by
  obtain ⟨c1, hl⟩ := hx
  obtain ⟨c2, hl2⟩ := hy
  refine lift_flat (S_Bytes0 n1 c1 n2 c2 f g h1) (.cons _ _ _ _ hl (.cons _ _ _ _ hl2 .nil)) ?_
  rintro v rfl
  exact h
end Go.Proofs.Ytdobchoiiihfiaa
