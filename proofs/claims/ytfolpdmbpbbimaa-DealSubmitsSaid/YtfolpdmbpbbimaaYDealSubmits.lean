/- Texts of a proof, one behind the other; the last of these: The law DealSubmits answers true for all that it may be handed: its row; no condition. -/
import Derived.Test.YtfolpdmbpbbimaaZ7
import Derived.Test.YtfolpdmbpbbimaaRows
import Derived.WalkKit
import Derived.ProofKit
import Derived.OpenShut
import Derived.ShutString
import Derived.ChangeOld
import Derived.Below
import Derived.SizedLaws
section
/- DealSubmits; no condition. -/
set_option linter.unusedVariables false
set_option linter.unusedSimpArgs false
set_option maxRecDepth 100000
set_option pp.maxSteps 6000
set_option pp.deepTerms false
set_option pp.deepTerms.threshold 7
namespace Go.Proofs.Ytfolpdmbpbbimaa
open Go Go.Wit

theorem S_HoldsE {m : Mem} {K : AV → Mem → Prop} {a b k : Pt Fp} {c r : Nat} {u v w z : AV} (hu : u = ptA a) (hw : w = ptA b) (hz : z = ptA k) (hv : v = prA c r) (hc : c < w256) (hr : r < w256) (oa : On a) (ob : On b) (ok : On k) (h : ∀ x, x = hoB a b k c r → K (.tup [.bool x, .int .i64 0]) m) : ACall Pg F_dleq_Holds [u, w, z, v] m K := by
  subst hv hu hw hz; exact S_Holds hc hr oa ob ok h
theorem T_BaseE {m : Mem} {K : AV → Mem → Prop} {v : AV} {n : Nat} (hv : v = numA n) (hn : n < w256) (h : ∀ P, On P → P = nmul n gG → K (ptA P) m) : ACall Pg F_curve_Base [v] m K := by
  subst hv; exact T_Base hn h
theorem S_kPtE {m : Mem} {K : AV → Mem → Prop} {v w : AV} {P : Pt Fp} (hv : v = ptA P) (hw : w = ptA P) (h : K (.bool true) m) : ACall Pg F_witankeep_Point [v, w] m K := by
  subst hv hw; exact S_kPt_eq h
theorem chk_sub {P : Pt Fp} {c r : Nat} {S : Nat → Nat → Int} {I : Nat → Bool} {X Y : Nat → Nat} (oP : On P) (hI : isI P = false) (hc : c < nN) (hr : r < nN) : chkE 4 (isI P) (xN P) (yN P) nB 0 0 I X Y 0 c r = 0 := by
  unfold chkE
  rw [if_pos (by decide), if_pos (by unfold empP; simp), if_neg (by decide), if_neg (by decide), if_neg (by decide), if_pos rfl]
  unfold subE
  rw [if_pos ⟨hI, P, oP, rfl⟩, if_pos ⟨hc, hr⟩]
theorem chk_reg {P : Pt Fp} {s : ByteArray} {I : Nat → Bool} {X Y : Nat → Nat} (oP : On P) (hI : isI P = false) (hs : labOK s = true) : chkE 1 (isI P) (xN P) (yN P) s 0 0 I X Y 0 0 0 = 0 := by
  unfold chkE
  rw [if_pos (by decide), if_pos (by unfold empP; simp), if_pos rfl, if_pos ⟨hI, P, oP, rfl⟩, if_pos hs]
theorem S_DealSubmits (n cap : Nat) (f : Nat → Int) (hf : ∀ i, i < n → 0 ≤ f i ∧ f i ≤ 255) :
    ACall Pg F_witanlaw21_DealSubmits [.vsl 1 n cap (bytesG f)] [] (fun v _ => v = .bool true) := by
  refine B_witanlaw21_DealSubmits ⟨rfl, ?_⟩
  conv => whnf
  repeat (refine ⟨⟨_, rfl⟩, ?_⟩; conv => whnf)
  refine condB_mk (fun hn => ?_) (fun hn => ?_)
  · conv => whnf
    repeat (refine ⟨⟨_, rfl⟩, ?_⟩; conv => whnf)
  have hn : n ≤ 100 := by simp at hn; omega
  conv => whnf
  repeat (refine ⟨⟨_, rfl⟩, ?_⟩; conv => whnf)
  refine S_Submit (n := n) (f := f) Shows.vsl (by omega) hf (fun _ A c r oA hA hc hr hc1 hr1 => ?_) (fun h => absurd h (by omega))
  conv => whnf
  repeat (refine ⟨⟨_, rfl⟩, ?_⟩; conv => whnf)
  refine S_Poly (n := n) (t := 0) (f := f) Shows.vsl (by omega) (by decide) hf (fun a c1 ha ha1 ha0 => ?_)
  conv => whnf
  repeat (refine ⟨⟨_, rfl⟩, ?_⟩; conv => whnf)
  refine S_Secret (n := n) (f := f) Shows.vsl (by omega) hf (fun _ s hs hs1 hs0 => ?_) (fun h => absurd h (by omega))
  conv => whnf
  repeat (refine ⟨⟨_, rfl⟩, ?_⟩; conv => whnf)
  refine S_Register (n := n) (f := f) (s := ⟨#[120]⟩) Shows.vsl (by omega) (by decide) hf (fun _ _ R t ht oR hR => ?_) (fun _ h => absurd h (by rw [lab_x]; decide)) (fun h => absurd h (by omega))
  rw [← ha] at hA hc hr
  rw [← hs] at hR
  have hAI : isI A = false := by rw [hA]; exact nmul_fin h_on rfl ha0 (ha1 0)
  have hRI : isI R = false := by rw [hR]; exact base_fin hs0 hs1
  clear ha hs
  conv => whnf
  repeat (refine ⟨⟨_, rfl⟩, ?_⟩; conv => whnf)
  refine S_cBase (fun H hH oH => ?_)
  conv => whnf
  repeat (refine ⟨⟨_, rfl⟩, ?_⟩; conv => whnf)
  refine T_TimesE (n := a 0) (P := H) (num_at rfl) rfl (Nat.lt_trans (ha1 0) (by decide)) oH (fun B oB hB => ?_)
  obtain rfl : A = B := by rw [hA, hB, hH]
  conv => whnf
  repeat (refine ⟨⟨_, rfl⟩, ?_⟩; conv => whnf)
  refine T_BaseE (n := a 0) (num_at rfl) (Nat.lt_trans (ha1 0) (by decide)) (fun D oD hD => ?_)
  conv => whnf
  repeat (refine ⟨⟨_, rfl⟩, ?_⟩; conv => whnf)
  refine S_cBase (fun H2 hH2 oH2 => ?_)
  conv => whnf
  repeat (refine ⟨⟨_, rfl⟩, ?_⟩; conv => whnf)
  refine S_HoldsE (a := D) (b := H2) (k := A) (c := c) (r := r) rfl rfl rfl rfl (Nat.lt_trans hc1 (by decide)) (Nat.lt_trans hr1 (by decide)) oD oH2 oA (fun x hx => ?_)
  obtain rfl : x = true := by rw [hx, hD, hH2, hA, hr, hc]; exact hoB_prf h_on
  clear hx hc hr
  conv => whnf
  repeat (refine ⟨⟨_, rfl⟩, ?_⟩; conv => whnf)
  refine S_kPtE (P := A) rfl rfl ?_
  conv => whnf
  repeat (refine ⟨⟨_, rfl⟩, ?_⟩; conv => whnf)
  refine T_BaseE (n := s) rfl (Nat.lt_trans hs1 (by decide)) (fun E oE hE => ?_)
  obtain rfl : R = E := by rw [hR, hE]
  conv => whnf
  repeat (refine ⟨⟨_, rfl⟩, ?_⟩; conv => whnf)
  refine S_kPtE (P := R) rfl rfl ?_
  conv => whnf
  repeat (refine ⟨⟨_, rfl⟩, ?_⟩; conv => whnf)
  refine S_aCheck (k := 4) (i := isI A) (x := xN A) (y := yN A) (s := nB) (sl := .nils) (co := .nils) (ns := 0) (S := fun _ _ => 0) (nc := 0) (I := fun _ => false) (X := fun _ => 0) (Y := fun _ => 0) (ag := 0) (c := c) (r := r) rfl ShowsG.nils ShowsG.nils (xN_w A) (yN_w A) (Nat.lt_trans hc1 (by decide)) (Nat.lt_trans hr1 (by decide)) (by decide) (fun j hj => absurd hj (by omega)) (fun j hj => absurd hj (by omega)) (fun e he => ?_)
  rw [chk_sub (S := fun _ _ => 0) oA hAI hc1 hr1] at he
  subst he
  conv => whnf
  repeat (refine ⟨⟨_, rfl⟩, ?_⟩; conv => whnf)
  refine S_aCheck (k := 1) (i := isI R) (x := xN R) (y := yN R) (s := t) (sl := .nils) (co := .nils) (ns := 0) (S := fun _ _ => 0) (nc := 0) (I := fun _ => false) (X := fun _ => 0) (Y := fun _ => 0) (ag := 0) (c := 0) (r := 0) rfl ShowsG.nils ShowsG.nils (xN_w R) (yN_w R) (by decide) (by decide) (by rw [ht]; decide) (fun j hj => absurd hj (by omega)) (fun j hj => absurd hj (by omega)) (fun e he => ?_)
  rw [chk_reg oR hRI (by rw [ht]; exact lab_x)] at he
  subst he
  conv => whnf
  repeat (refine ⟨⟨_, rfl⟩, ?_⟩; conv => whnf)
  refine S_wakes21 ?_
  conv => whnf
  repeat (refine ⟨⟨_, rfl⟩, ?_⟩; conv => whnf)
theorem S_row_DealSubmits (avs : List AV) (h : okVs [.sl 1 (.int .u8)] avs) : ∃ avs', Retold avs avs' ∧ ACall Pg F_witanlaw21_DealSubmits avs' [] (fun x _ => x = .bool true) := by
  obtain ⟨p, _, rfl, h1, rfl⟩ := h
  obtain ⟨n, c1, f, r1, _, _, hF⟩ := ok_bytes h1
  exact ⟨_, .cons r1 .nil, S_DealSubmits n c1 f hF⟩
end Go.Proofs.Ytfolpdmbpbbimaa
end

section
/- The law DealSubmits answers true for all that it may be handed: its row; no condition. -/
namespace Go.Proofs.Ytfolpdmbpbbimaa.dealSubmits
open Go.ChangeShapes Go.WideShapes Go.ChangeAt Go.RowKit Go.Wit
set_option linter.unusedVariables false
theorem own : ownKnob Try.prog.godebug = none := by kernel_rfl
theorem laid : laidOutB Try.prog = true := by kernel_rfl
set_option maxRecDepth 100000 in
theorem lifted (os : Os) (started : os.Started) (H : Type) (enc : TypeId × Value → H) :
    ReturnsInHanded {} Try.checked os 9 .any (Rows.dealSubmitsSpec.pre6 enc Try.prog Try.f9 Rows.dealSubmitsRow.domain false) (Rows.dealSubmitsSpec.post enc Try.prog Try.f9 false true false false) := by
  refine returnsInHanded_of_change_sized (C := Try.checked) own started (by kernel_rfl) Try.func9
    (ChangeSpec.witness6 (enc := enc) (C := Try.checked) false ⟨#[], #[.slice none 0 0], []⟩ 12 (by kernel_rfl) (by kernel_rfl) (by kernel_rfl) (by kernel_rfl)) ?_
  intro W base args ds gs before hval0 hW hcnd hsz0 _
  have hval : ∀ (j : Nat) t v, Try.f9.params[j]? = some t → args[j]? = some v → Value.okWide Try.prog W .any base t v := hval0
  have hW' := hW
  obtain ⟨p, q, hA0, hV, rfl, hfz, hnd⟩ := hW
  have hA : DataW.TrodAll enc Try.prog W 0 (fun _ => true) true Try.f9.params.toList args.toList ds p := hA0
  obtain ⟨rfl, rfl⟩ := trodVars_none hV
  have l0 : ds.length = 1 := trod_len hA
  obtain ⟨d1, ds1, rfl, l1⟩ := cons_of_len l0
  obtain rfl := nil_of_len l1
  refine (law_open (tys := [.sl 1 (.int .u8)]) (by kernel_rfl) (fun j t v h1 h2 => hval j t v (by simpa using h1) (by simpa using h2)) hA S_row_DealSubmits).mono fun e W' ⟨he, bel⟩ => ?_
  subst he
  exact ⟨_, rfl, _, _, _, [], _, [], hW', trodAll_mk1 (shut_bool Try.underlying4 _), shut_vals laid bel (by kernel_rfl) hA, rfl, bel.frame _, fun h => by cases h⟩
theorem over : Rows.dealSubmitsRow.holds Try.pinned (OpenSpec.ofChange Rows.dealSubmitsSpec) :=
  OpenClaim.holds_of_wide 9 Try.f9 rfl rfl rfl rfl rfl rfl rfl ⟨rfl, rfl, rfl, rfl, rfl⟩ rfl rfl rfl rfl rfl (by kernel_rfl) Try.func9 (by kernel_rfl)
    (of_decide_eq_true (by kernel_rfl)) (by unfold Func.isWrapper; first | (rw [if_pos (by decide +kernel)]; kernel_rfl) | (rw [if_neg (by decide +kernel)]; exact ⟨rfl, rfl⟩))
    (fun os started H enc _ => lifted os started H enc)
theorem proved : Rows.DealSubmitsSaid := over
#print axioms proved
end Go.Proofs.Ytfolpdmbpbbimaa.dealSubmits
namespace Go.Proofs.Ytfolpdmbpbbimaa
/-- The row, under a short name, for the claim. -/
theorem dealSubmits_holds : Rows.DealSubmitsSaid := dealSubmits.proved
end Go.Proofs.Ytfolpdmbpbbimaa
end

