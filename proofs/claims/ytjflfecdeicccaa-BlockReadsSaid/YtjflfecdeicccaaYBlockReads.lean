/- Texts of a proof, one behind the other; the last of these: The law BlockReads answers true for all that it may be handed: its row; no condition. -/
import Derived.Test.YtjflfecdeicccaaZ6
import Derived.Test.YtjflfecdeicccaaRows
import Derived.WalkKit
import Derived.ProofKit
import Derived.OpenShut
import Derived.ShutString
import Derived.ChangeOld
import Derived.Below
import Derived.SizedLaws
section
/- BlockReads; no condition. -/
set_option linter.unusedVariables false
set_option linter.unusedSimpArgs false
set_option maxRecDepth 100000
set_option pp.maxSteps 3000
set_option pp.deepTerms false
set_option pp.deepTerms.threshold 7
namespace Go.Proofs.Ytjflfecdeicccaa
open Go Go.Wit

set_option maxHeartbeats 4000000 in
theorem S_BlockReads (n cap : Nat) (f : Nat → Int) (hf : ∀ i, i < n → 0 ≤ f i ∧ f i ≤ 255) :
    ACall Pg F_witanlaw16_BlockReads [.vsl 1 n cap (bytesG f)] [] (fun x _ => x = .bool true) := by
  refine B_witanlaw16_BlockReads ⟨rfl, ?_⟩
  conv => whnf
  repeat (refine ⟨⟨_, rfl⟩, ?_⟩; conv => whnf)
  refine condB_mk (fun hn => ?_) (fun hn => ?_)
  · conv => whnf
    repeat (refine ⟨⟨_, rfl⟩, ?_⟩; conv => whnf)
  have hn : ¬ (n : Int) > 4000 := of_decide_eq_false hn
  conv => whnf
  repeat (refine ⟨⟨_, rfl⟩, ?_⟩; conv => whnf)
  refine S_Twin (f := f) Shows.vsl (by omega) (fun cap1 => ?_)
  conv => whnf
  repeat (refine ⟨⟨_, rfl⟩, ?_⟩; conv => whnf)
  refine S_bRead (l := 0) (Nb := n) (n := n) f rfl (fun i hi => rfl) (Nat.le_refl _) (by omega) hf (fun hg c D => ?_) (fun hbad => ?_)
  · rw [rowL]
    conv => whnf
    repeat (refine ⟨⟨_, rfl⟩, ?_⟩; conv => whnf)
    refine S_rRead f (by omega) hf (fun _ c2 D2 => ?_) (fun hbad => absurd hg hbad)
    rw [rowL]
    conv => whnf
    repeat (refine ⟨⟨_, rfl⟩, ?_⟩; conv => whnf)
    refine S_Bytes (n1 := n) (n2 := n) (f := f) (g := f) (Shows.sl rfl (Nat.le_of_eq (Nat.zero_add _)) fun i hi => by rw [Nat.zero_add]) Shows.vsl (by omega) ?_
    rw [sameB_eq.2 ⟨rfl, fun _ _ => rfl⟩]
    conv => whnf
    repeat (refine ⟨⟨_, rfl⟩, ?_⟩; conv => whnf)
    have hok := bk_ok hg.2.2.2
    have ht := hok.t
    refine S_kBlock (p := 0) (h := (rdBk f).h) (s := (rdBk f).s) (p' := 0) (h' := (rdBk f).h) (s' := (rdBk f).s) (x := .sl 1 0 (rdBk f).t c) (y := .sl 4 0 (rdBk f).t c2) (t := (rdBk f).t) (A := (rdBk f).A) (A' := (rdBk f).A) (N := (rdBk f).N) (N' := (rdBk f).N) (F := (rdBk f).F) (F' := (rdBk f).F) (bkA_at rfl) (bkA_at rfl) (.own rfl (Nat.le_refl _)) (.own rfl (Nat.le_refl _)) rfl rfl rfl (by omega) (fun _ _ => rfl) (fun k hk => ⟨rfl, by have := hok.N k hk; omega⟩) (fun _ _ _ _ => rfl) ?_
    conv => whnf
    repeat (refine ⟨⟨_, rfl⟩, ?_⟩; conv => whnf)
    refine condB_yes (Eq.trans (b := ((!(eqR (fun i => f (8 + i)) (fun i => f (8 + i)))) == false)) rfl (by rw [eqR_refl]; rfl)) ?_
    conv => whnf
    repeat (refine ⟨⟨_, rfl⟩, ?_⟩; conv => whnf)
    refine S_bBytes (b := rdBk f) (q := fun i => f (8 + i)) (x := .sl 1 0 (rdBk f).t c) rfl (bkA_at rfl) (.own rfl (Nat.le_refl _)) (by omega) (fun hE cap3 n3 f3 hn3 hf3 => ?_) (fun e he he0 => absurd (he.trans hg.2.2.2) he0)
    obtain ⟨w1, w2⟩ := rd_write hf hg
    obtain rfl : n3 = n := hn3.trans w1
    conv => whnf
    repeat (refine ⟨⟨_, rfl⟩, ?_⟩; conv => whnf)
    refine S_Bytes (n1 := n3) (n2 := n3) (f := f3) (g := f) (Shows.sl rfl (Nat.le_of_eq (Nat.zero_add _)) fun i hi => by rw [Nat.zero_add]) Shows.vsl (by omega) ?_
    rw [sameB_eq.2 ⟨rfl, fun i hi => by rw [hf3]; exact w2 i hi⟩]
    conv => whnf
    repeat (refine ⟨⟨_, rfl⟩, ?_⟩; conv => whnf)
    refine S_wakes16 ?_
    conv => whnf
    repeat (refine ⟨⟨_, rfl⟩, ?_⟩; conv => whnf)
  · rw [rowL]
    conv => whnf
    repeat (refine ⟨⟨_, rfl⟩, ?_⟩; conv => whnf)
    refine S_rRead f (by omega) hf (fun hg => absurd hg hbad) (fun _ => ?_)
    rw [rowL]
    conv => whnf
    repeat (refine ⟨⟨_, rfl⟩, ?_⟩; conv => whnf)
    refine S_Bytes (n1 := n) (n2 := n) (f := f) (g := f) (Shows.sl rfl (Nat.le_of_eq (Nat.zero_add _)) fun i hi => by rw [Nat.zero_add]) Shows.vsl (by omega) ?_
    rw [sameB_eq.2 ⟨rfl, fun _ _ => rfl⟩]
    conv => whnf
    repeat (refine ⟨⟨_, rfl⟩, ?_⟩; conv => whnf)
    refine S_kBlock (p := 0) (h := 0) (s := 0) (p' := 0) (h' := 0) (s' := 0) (x := .nils) (y := .nils) (t := 0) (A := fun _ => 0) (A' := fun _ => 0) (N := fun _ => 0) (N' := fun _ => 0) (F := fun _ _ => 0) (F' := fun _ _ => 0) (bkA_at rfl) (bkA_at rfl) .nils .nils rfl rfl rfl (by decide) (fun _ _ => rfl) (fun k hk => ⟨rfl, by decide⟩) (fun _ _ _ _ => rfl) ?_
    conv => whnf
    repeat (refine ⟨⟨_, rfl⟩, ?_⟩; conv => whnf)
    refine S_wakes16 ?_
    conv => whnf
    repeat (refine ⟨⟨_, rfl⟩, ?_⟩; conv => whnf)
theorem S_row_BlockReads (avs : List AV) (h : okVs [.sl 1 (.int .u8)] avs) : ∃ avs', Retold avs avs' ∧ ACall Pg F_witanlaw16_BlockReads avs' [] (fun x _ => x = .bool true) := by
  obtain ⟨v1, _, rfl, h1, rfl⟩ := h
  obtain ⟨n, cap, f, r1, _, _, hf⟩ := ok_bytes h1
  exact ⟨_, .cons r1 .nil, S_BlockReads n cap f hf⟩
end Go.Proofs.Ytjflfecdeicccaa
end

section
/- The law BlockReads answers true for all that it may be handed: its row; no condition. -/
namespace Go.Proofs.Ytjflfecdeicccaa.blockReads
open Go.ChangeShapes Go.WideShapes Go.ChangeAt Go.RowKit Go.Wit
set_option linter.unusedVariables false
theorem own : ownKnob Try.prog.godebug = none := by kernel_rfl
theorem laid : laidOutB Try.prog = true := by kernel_rfl
set_option maxRecDepth 100000 in
theorem lifted (os : Os) (started : os.Started) (H : Type) (enc : TypeId × Value → H) :
    ReturnsInHanded {} Try.checked os 5 .any (Rows.blockReadsSpec.pre6 enc Try.prog Try.f5 Rows.blockReadsRow.domain false) (Rows.blockReadsSpec.post enc Try.prog Try.f5 false true false false) := by
  refine returnsInHanded_of_change_sized (C := Try.checked) own started (by kernel_rfl) Try.func5
    (ChangeSpec.witness6 (enc := enc) (C := Try.checked) false ⟨#[], #[.slice none 0 0], []⟩ 12 (by kernel_rfl) (by kernel_rfl) (by kernel_rfl) (by kernel_rfl)) ?_
  intro W base args ds gs before hval0 hW hcnd hsz0 _
  have hval : ∀ (j : Nat) t v, Try.f5.params[j]? = some t → args[j]? = some v → Value.okWide Try.prog W .any base t v := hval0
  have hW' := hW
  obtain ⟨p, q, hA0, hV, rfl, hfz, hnd⟩ := hW
  have hA : DataW.TrodAll enc Try.prog W 0 (fun _ => true) true Try.f5.params.toList args.toList ds p := hA0
  obtain ⟨rfl, rfl⟩ := trodVars_none hV
  have l0 : ds.length = 1 := trod_len hA
  obtain ⟨d1, ds1, rfl, l1⟩ := cons_of_len l0
  obtain rfl := nil_of_len l1
  refine (law_open (tys := [.sl 1 (.int .u8)]) (by kernel_rfl) (fun j t v h1 h2 => hval j t v (by simpa using h1) (by simpa using h2)) hA S_row_BlockReads).mono fun e W' ⟨he, bel⟩ => ?_
  subst he
  exact ⟨_, rfl, _, _, _, [], _, [], hW', trodAll_mk1 (shut_bool Try.underlying4 _), shut_vals laid bel (by kernel_rfl) hA, rfl, bel.frame _, fun h => by cases h⟩
theorem over : Rows.blockReadsRow.holds Try.pinned (OpenSpec.ofChange Rows.blockReadsSpec) :=
  OpenClaim.holds_of_wide 5 Try.f5 rfl rfl rfl rfl rfl rfl rfl ⟨rfl, rfl, rfl, rfl, rfl⟩ rfl rfl rfl rfl rfl (by kernel_rfl) Try.func5 (by kernel_rfl)
    (of_decide_eq_true (by kernel_rfl)) (by unfold Func.isWrapper; first | (rw [if_pos (by decide +kernel)]; kernel_rfl) | (rw [if_neg (by decide +kernel)]; exact ⟨rfl, rfl⟩))
    (fun os started H enc _ => lifted os started H enc)
theorem proved : Rows.BlockReadsSaid := over
#print axioms proved
end Go.Proofs.Ytjflfecdeicccaa.blockReads
namespace Go.Proofs.Ytjflfecdeicccaa
/-- The row, under a short name, for the claim. -/
theorem blockReads_holds : Rows.BlockReadsSaid := blockReads.proved
end Go.Proofs.Ytjflfecdeicccaa
end

