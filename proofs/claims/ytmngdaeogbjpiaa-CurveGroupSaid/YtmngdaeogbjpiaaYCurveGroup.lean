/- Texts of a proof, one behind the other; the last of these: The law CurveGroup answers true for all that it may be handed: its row; no condition. -/
import Derived.Test.YtmngdaeogbjpiaaZ5
import Derived.Test.YtmngdaeogbjpiaaRows
import Derived.WalkKit
import Derived.ProofKit
import Derived.OpenShut
import Derived.ShutString
import Derived.ChangeOld
import Derived.Below
import Derived.SizedLaws
section
/- The laws of sums, lines, multiples, doubles of points; no condition. -/
set_option linter.unusedVariables false
set_option linter.unusedSimpArgs false
set_option maxRecDepth 100000
set_option pp.maxSteps 1500
namespace Go.Proofs.Ytmngdaeogbjpiaa
open Go Go.Wit

theorem S_CurveGroup (a b c : Nat) (ha : a < w256) (hb : b < w256) (hc : c < w256) : ACall Pg F_witanlaw03_CurveGroup [numA a, numA b, numA c] [] (fun r _ => r = .bool true) := by
  refine B_witanlaw03_CurveGroup ⟨rfl, ?_⟩
  conv => whnf
  refine T_Base ha (fun P oP hP => ?_)
  clear hP
  conv => whnf
  repeat (refine ⟨⟨[], rfl⟩, ?_⟩; conv => whnf)
  refine T_Base hb (fun Q oQ hQ => ?_)
  clear hQ
  conv => whnf
  repeat (refine ⟨⟨[], rfl⟩, ?_⟩; conv => whnf)
  refine T_Base hc (fun R oR hR => ?_)
  clear hR
  conv => whnf
  repeat (refine ⟨⟨[], rfl⟩, ?_⟩; conv => whnf)
  refine T_Add oP oQ (fun X oX hX => ?_)
  conv => whnf
  refine T_Add oQ oP (fun Y oY hY => ?_)
  rw [padd_comm, ← hX] at hY
  rw [hY]
  conv => whnf
  refine S_kPt_eq (P := X) ?_
  conv => whnf
  refine S_Check_ok oX ?_
  conv => whnf
  refine T_Add oX oR (fun U oU hU => ?_)
  conv => whnf
  refine T_Add oQ oR (fun V oV hV => ?_)
  conv => whnf
  refine T_Add oP oV (fun W oW hW => ?_)
  have hUW : W = U := by rw [hW, hV, hU, hX, padd_assoc crvP oP oQ oR]
  rw [hUW]
  conv => whnf
  refine T_Neg oP (fun N oN hN => ?_)
  conv => whnf
  refine T_Add oP oN (fun Z oZ hZ => ?_)
  have hZ : Z = .inf := by rw [hZ, hN, padd_neg]
  rw [hZ]
  conv => whnf
  refine T_Base (n := 0) (by decide) (fun O oO hO => ?_)
  conv => whnf
  repeat (refine ⟨⟨[], rfl⟩, ?_⟩; conv => whnf)
  refine T_Add oP oO (fun T oT hT => ?_)
  have hT : T = P := by rw [hT, hO]; exact padd_inf P
  rw [hT]
  conv => whnf
  repeat (refine ⟨⟨[], rfl⟩, ?_⟩; conv => whnf)
  refine S_kPt_eq (P := U) ?_
  conv => whnf
  refine S_kPt_eq (P := P) ?_
  conv => whnf
  refine S_wakes03 ?_
  conv => whnf

theorem S_row_CurveGroup (avs : List AV) (h : okVs [tNum, tNum, tNum] avs) : ∃ avs', Retold avs avs' ∧ ACall Pg F_witanlaw03_CurveGroup avs' [] (fun x _ => x = .bool true) := by
  obtain ⟨a, _, rfl, h1, b, _, rfl, h2, c, _, rfl, h3, rfl⟩ := h
  obtain ⟨a, ha, rfl⟩ := ok_num h1
  obtain ⟨b, hb, rfl⟩ := ok_num h2
  obtain ⟨c, hc, rfl⟩ := ok_num h3
  exact ⟨_, .cons (Retold1.refl _) (.cons (Retold1.refl _) (.cons (Retold1.refl _) .nil)), S_CurveGroup a b c ha hb hc⟩

end Go.Proofs.Ytmngdaeogbjpiaa
end

section
/- The law CurveGroup answers true for all that it may be handed: its row; no condition. -/
namespace Go.Proofs.Ytmngdaeogbjpiaa.curveGroup
open Go.ChangeShapes Go.WideShapes Go.ChangeAt Go.RowKit Go.Wit
set_option linter.unusedVariables false
theorem own : ownKnob Try.prog.godebug = none := by kernel_rfl
theorem laid : laidOutB Try.prog = true := by kernel_rfl
set_option maxRecDepth 100000 in
theorem lifted (os : Os) (started : os.Started) (H : Type) (enc : TypeId × Value → H) :
    ReturnsInHanded {} Try.checked os 7 .any (Rows.curveGroupSpec.pre6 enc Try.prog Try.f7 Rows.curveGroupRow.domain false) (Rows.curveGroupSpec.post enc Try.prog Try.f7 false true false false) := by
  refine returnsInHanded_of_change_sized (C := Try.checked) own started (by kernel_rfl) Try.func7
    (ChangeSpec.witness6 (enc := enc) (C := Try.checked) false ⟨#[], #[.agg #[.int .u64 0, .int .u64 0, .int .u64 0, .int .u64 0], .agg #[.int .u64 0, .int .u64 0, .int .u64 0, .int .u64 0], .agg #[.int .u64 0, .int .u64 0, .int .u64 0, .int .u64 0]], []⟩ 12 (by kernel_rfl) (by kernel_rfl) (by kernel_rfl) (by kernel_rfl)) ?_
  intro W base args ds gs before hval0 hW hcnd hsz0 _
  have hval : ∀ (j : Nat) t v, Try.f7.params[j]? = some t → args[j]? = some v → Value.okWide Try.prog W .any base t v := hval0
  have hW' := hW
  obtain ⟨p, q, hA0, hV, rfl, hfz, hnd⟩ := hW
  have hA : DataW.TrodAll enc Try.prog W 0 (fun _ => true) true Try.f7.params.toList args.toList ds p := hA0
  obtain ⟨rfl, rfl⟩ := trodVars_none hV
  have l0 : ds.length = 3 := trod_len hA
  obtain ⟨d1, ds1, rfl, l1⟩ := cons_of_len l0
  obtain ⟨d2, ds2, rfl, l2⟩ := cons_of_len l1
  obtain ⟨d3, ds3, rfl, l3⟩ := cons_of_len l2
  obtain rfl := nil_of_len l3
  refine (law_open (tys := [tNum, tNum, tNum]) (by kernel_rfl) (fun j t v h1 h2 => hval j t v (by simpa using h1) (by simpa using h2)) hA S_row_CurveGroup).mono fun e W' ⟨he, bel⟩ => ?_
  subst he
  exact ⟨_, rfl, _, _, _, [], _, [], hW', trodAll_mk1 (shut_bool Try.underlying4 _), shut_vals laid bel (by kernel_rfl) hA, rfl, bel.frame _, fun h => by cases h⟩
theorem over : Rows.curveGroupRow.holds Try.pinned (OpenSpec.ofChange Rows.curveGroupSpec) :=
  OpenClaim.holds_of_wide 7 Try.f7 rfl rfl rfl rfl rfl rfl rfl ⟨rfl, rfl, rfl, rfl, rfl⟩ rfl rfl rfl rfl rfl (by kernel_rfl) Try.func7 (by kernel_rfl)
    (of_decide_eq_true (by kernel_rfl)) (by unfold Func.isWrapper; first | (rw [if_pos (by decide +kernel)]; kernel_rfl) | (rw [if_neg (by decide +kernel)]; exact ⟨rfl, rfl⟩))
    (fun os started H enc _ => lifted os started H enc)
theorem proved : Rows.CurveGroupSaid := over
#print axioms proved
end Go.Proofs.Ytmngdaeogbjpiaa.curveGroup
namespace Go.Proofs.Ytmngdaeogbjpiaa
/-- The row, under a short name, for the claim. -/
theorem curveGroup_holds : Rows.CurveGroupSaid := curveGroup.proved
end Go.Proofs.Ytmngdaeogbjpiaa
end

