/- From a told call of a law to what its row asks; no condition. -/
import Derived.Test.YtdobchoiiihfiaaB1
import Derived.Below
set_option linter.unusedVariables false
set_option linter.unusedSimpArgs false
namespace Go.Wit
open Go.RowKit

theorem law_calls {P : Program} {f : FuncId} {args : List AV} {cargs : Array Value} {W : World} {v : AV} {r : Value} (h : ACall P f args [] (fun x _ => x = v)) (hv : VRs W.heap (fun _ => none) (fun _ => False) args cargs.toList)
    (hr : ∀ h L O c, VR h L O v c → c = r) : Calls P f cargs W fun e W' => e = .returned r ∧ Below W.heap.size W W' := by
  let C : Ctx := ⟨fun _ => False, W, fun _ => False, fun _ => none, 0⟩
  have hR : MRel C [] W (fun _ => none) := ⟨rfl, rfl, rfl, Nat.le_refl _, fun _ _ _ => rfl, fun _ _ => rfl, fun l b hl => by simp at hl, fun l l' b b' e e' hl => by simp at hl, fun l hl => absurd hl (Nat.not_lt_zero _), fun b hb => hb.elim, fun b hb => by
    obtain ⟨l, blk, e, h1, _⟩ := hb; simp at h1⟩
  have hO : ∀ b, ¬ OO C [] (fun _ => none) b := by
    rintro b (hb | ⟨l, blk, e, h1, _⟩)
    · exact hb
    · simp at h1
  refine (h.run C W (fun _ => none) cargs hR (hv.ext ⟨fun _ _ h => h, fun _ _ _ => rfl, fun b _ _ => hO b⟩)).mono ?_
  rintro e W' ⟨x, m', c, L', rfl, rfl, hM, hc, _⟩
  exact ⟨by rw [hr _ _ _ _ hc], hM.os, hM.tape, hM.output, hM.size, fun k hk => hM.frame k hk (fun h => h)⟩

theorem law_true {P : Program} {f : FuncId} {args : List AV} {cargs : Array Value} {W : World} (h : ACall P f args [] (fun x _ => x = .bool true)) (hv : VRs W.heap (fun _ => none) (fun _ => False) args cargs.toList) :
    Calls P f cargs W fun e W' => e = .returned (.bool true) ∧ Below W.heap.size W W' :=
  law_calls h hv (fun h L O c hc => by cases hc; rfl)
end Go.Wit
