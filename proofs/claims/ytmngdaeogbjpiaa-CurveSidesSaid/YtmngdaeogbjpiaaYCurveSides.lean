/- Texts of a proof, one behind the other; the last of these: The law CurveSides answers true for all that it may be handed: its row; no condition. -/
import Derived.Test.YtmngdaeogbjpiaaZ6
import Derived.Test.YtmngdaeogbjpiaaRows
import Derived.WalkKit
import Derived.ProofKit
import Derived.OpenShut
import Derived.ShutString
import Derived.ChangeOld
import Derived.Below
import Derived.SizedLaws
section
/- The law CurveSides answers true for all that it may be handed: its row; no condition. -/
namespace Go.Proofs.Ytmngdaeogbjpiaa.curveSides
open Go.ChangeShapes Go.WideShapes Go.ChangeAt Go.RowKit Go.Wit
set_option linter.unusedVariables false
theorem own : ownKnob Try.prog.godebug = none := by kernel_rfl
theorem laid : laidOutB Try.prog = true := by kernel_rfl
set_option maxRecDepth 100000 in
theorem lifted (os : Os) (started : os.Started) (H : Type) (enc : TypeId × Value → H) :
    ReturnsInHanded {} Try.checked os 16 .any (Rows.curveSidesSpec.pre6 enc Try.prog Try.f16 Rows.curveSidesRow.domain false) (Rows.curveSidesSpec.post enc Try.prog Try.f16 false true false false) := by
  refine returnsInHanded_of_change_sized (C := Try.checked) own started (by kernel_rfl) Try.func16
    (ChangeSpec.witness6 (enc := enc) (C := Try.checked) false ⟨#[], #[.agg #[.int .u64 0, .int .u64 0, .int .u64 0, .int .u64 0]], []⟩ 12 (by kernel_rfl) (by kernel_rfl) (by kernel_rfl) (by kernel_rfl)) ?_
  intro W base args ds gs before hval0 hW hcnd hsz0 _
  have hval : ∀ (j : Nat) t v, Try.f16.params[j]? = some t → args[j]? = some v → Value.okWide Try.prog W .any base t v := hval0
  have hW' := hW
  obtain ⟨p, q, hA0, hV, rfl, hfz, hnd⟩ := hW
  have hA : DataW.TrodAll enc Try.prog W 0 (fun _ => true) true Try.f16.params.toList args.toList ds p := hA0
  obtain ⟨rfl, rfl⟩ := trodVars_none hV
  have l0 : ds.length = 1 := trod_len hA
  obtain ⟨d1, ds1, rfl, l1⟩ := cons_of_len l0
  obtain rfl := nil_of_len l1
  refine (law_open (tys := [tNum]) (by kernel_rfl) (fun j t v h1 h2 => hval j t v (by simpa using h1) (by simpa using h2)) hA S_row_CurveSides).mono fun e W' ⟨he, bel⟩ => ?_
  subst he
  exact ⟨_, rfl, _, _, _, [], _, [], hW', trodAll_mk1 (shut_bool Try.underlying4 _), shut_vals laid bel (by kernel_rfl) hA, rfl, bel.frame _, fun h => by cases h⟩
theorem over : Rows.curveSidesRow.holds Try.pinned (OpenSpec.ofChange Rows.curveSidesSpec) :=
  OpenClaim.holds_of_wide 16 Try.f16 rfl rfl rfl rfl rfl rfl rfl ⟨rfl, rfl, rfl, rfl, rfl⟩ rfl rfl rfl rfl rfl (by kernel_rfl) Try.func16 (by kernel_rfl)
    (of_decide_eq_true (by kernel_rfl)) (by unfold Func.isWrapper; first | (rw [if_pos (by decide +kernel)]; kernel_rfl) | (rw [if_neg (by decide +kernel)]; exact ⟨rfl, rfl⟩))
    (fun os started H enc _ => lifted os started H enc)
theorem proved : Rows.CurveSidesSaid := over
#print axioms proved
end Go.Proofs.Ytmngdaeogbjpiaa.curveSides
namespace Go.Proofs.Ytmngdaeogbjpiaa
/-- The row, under a short name, for the claim. -/
theorem curveSides_holds : Rows.CurveSidesSaid := curveSides.proved
end Go.Proofs.Ytmngdaeogbjpiaa
end

