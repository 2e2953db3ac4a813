/- Texts of a proof, one behind the other; the last of these: The law ShaExact answers true for all that it may be handed: its row; no condition. -/
import Derived.Test.YtjflfecdeicccaaZ5
import Derived.Test.YtjflfecdeicccaaRows
import Derived.WalkKit
import Derived.ProofKit
import Derived.OpenShut
import Derived.ShutString
import Derived.ChangeOld
import Derived.Below
import Derived.SizedLaws
section
/- ShaExact; no condition. -/
set_option linter.unusedVariables false
set_option linter.unusedSimpArgs false
set_option maxRecDepth 100000
set_option pp.maxSteps 3000
set_option pp.deepTerms false
set_option pp.deepTerms.threshold 7
namespace Go.Proofs.Ytjflfecdeicccaa
open Go Go.Wit

theorem eqf_of {p : Prop} [Decidable p] (h : (decide p == false) = true) : ¬ p := by simpa using h
theorem S_ShaExact (n c1 : Nat) (f : Nat → Int) (k c2 : Nat) (g : Nat → Int) (hf : ∀ i, i < n → 0 ≤ f i ∧ f i ≤ 255) (hg : ∀ i, i < k → 0 ≤ g i ∧ g i ≤ 255) :
    ACall Pg F_witanlaw04_ShaExact [.vsl 1 n c1 (bytesG f), .vsl 1 k c2 (bytesG g)] [] (fun x _ => x = .bool true) := by
  refine B_witanlaw04_ShaExact ⟨rfl, ?_⟩
  conv => whnf
  repeat (refine ⟨⟨_, rfl⟩, ?_⟩; conv => whnf)
  refine condB_mk (fun hn => ?_) (fun hn => ?_)
  rotate_left
  · conv => whnf
    repeat (refine ⟨⟨_, rfl⟩, ?_⟩; conv => whnf)
  have hn := eqf_of hn
  conv => whnf
  repeat (refine ⟨⟨_, rfl⟩, ?_⟩; conv => whnf)
  refine condB_mk (fun hk => ?_) (fun hk => ?_)
  · conv => whnf
    repeat (refine ⟨⟨_, rfl⟩, ?_⟩; conv => whnf)
  have hk : ¬ (k : Int) > 3000 := of_decide_eq_false hk
  conv => whnf
  repeat (refine ⟨⟨_, rfl⟩, ?_⟩; conv => whnf)
  refine S_Twin (f := f) Shows.vsl (by omega) (fun cap1 => ?_)
  conv => whnf
  repeat (refine ⟨⟨_, rfl⟩, ?_⟩; conv => whnf)
  refine S_Twin (f := g) Shows.vsl (by omega) (fun cap2 => ?_)
  conv => whnf
  repeat (refine ⟨⟨_, rfl⟩, ?_⟩; conv => whnf)
  refine S_SumR (n := k) (f := g) (Shows.sl rfl (Nat.le_of_eq (Nat.zero_add _)) fun i hi => by rw [Nat.zero_add]) (by omega) hg (fun s1 hs1 hb1 => ?_)
  rw [rowL]
  conv => whnf
  repeat (refine ⟨⟨_, rfl⟩, ?_⟩; conv => whnf)
  refine S_Sum256R (n := k) (f := g) Shows.vsl (by omega) hg (fun s2 hs2 hb2 => ?_)
  obtain rfl : s2 = s1 := hs2.trans hs1.symm
  rw [rowL]
  conv => whnf
  repeat (refine ⟨⟨_, rfl⟩, ?_⟩; conv => whnf)
  refine S_Mac (n := n) (k := k) (f := f) (g := g) (Shows.sl rfl (Nat.le_of_eq (Nat.zero_add _)) fun i hi => by rw [Nat.zero_add]) (Shows.sl rfl (Nat.le_of_eq (Nat.zero_add _)) fun i hi => by rw [Nat.zero_add]) (by omega) (by omega) hf hg (fun s3 hs3 hb3 => ?_)
  rw [rowL]
  conv => whnf
  repeat (refine ⟨⟨_, rfl⟩, ?_⟩; conv => whnf)
  refine S_RMac (n := n) (k := k) (f := f) (g := g) Shows.vsl Shows.vsl (by omega) (by omega) hf hg (fun s4 hs4 hb4 => ?_)
  obtain rfl : s4 = s3 := hs4.trans hs3.symm
  rw [rowL]
  conv => whnf
  repeat (refine ⟨⟨_, rfl⟩, ?_⟩; conv => whnf)
  refine S_Bytes (n1 := 32) (n2 := 32) (f := s2) (g := s2) (Shows.any rfl (by simp) (fun i hi => rowAt hi rfl)) (Shows.any rfl (by simp) (fun i hi => rowAt hi rfl)) (by omega) ?_
  rw [sameB_eq.2 ⟨rfl, fun _ _ => rfl⟩]
  conv => whnf
  repeat (refine ⟨⟨_, rfl⟩, ?_⟩; conv => whnf)
  refine S_Bytes (n1 := 32) (n2 := 32) (f := s4) (g := s4) (Shows.any rfl (by simp) (fun i hi => rowAt hi rfl)) (Shows.any rfl (by simp) (fun i hi => rowAt hi rfl)) (by omega) ?_
  rw [sameB_eq.2 ⟨rfl, fun _ _ => rfl⟩]
  conv => whnf
  repeat (refine ⟨⟨_, rfl⟩, ?_⟩; conv => whnf)
  refine S_Bytes (n1 := n) (n2 := n) (f := f) (g := f) (Shows.sl rfl (Nat.le_of_eq (Nat.zero_add _)) fun i hi => by rw [Nat.zero_add]) Shows.vsl (by omega) ?_
  rw [sameB_eq.2 ⟨rfl, fun _ _ => rfl⟩]
  conv => whnf
  repeat (refine ⟨⟨_, rfl⟩, ?_⟩; conv => whnf)
  refine S_Bytes (n1 := k) (n2 := k) (f := g) (g := g) (Shows.sl rfl (Nat.le_of_eq (Nat.zero_add _)) fun i hi => by rw [Nat.zero_add]) Shows.vsl (by omega) ?_
  rw [sameB_eq.2 ⟨rfl, fun _ _ => rfl⟩]
  conv => whnf
  repeat (refine ⟨⟨_, rfl⟩, ?_⟩; conv => whnf)
  refine S_wakes ?_
  conv => whnf
  repeat (refine ⟨⟨_, rfl⟩, ?_⟩; conv => whnf)
theorem S_row_ShaExact (avs : List AV) (h : okVs [.sl 1 (.int .u8), .sl 1 (.int .u8)] avs) : ∃ avs', Retold avs avs' ∧ ACall Pg F_witanlaw04_ShaExact avs' [] (fun x _ => x = .bool true) := by
  obtain ⟨v1, _, rfl, h1, v2, _, rfl, h2, rfl⟩ := h
  obtain ⟨n, c1, f, r1, _, _, hf⟩ := ok_bytes h1
  obtain ⟨k, c2, g, r2, _, _, hg⟩ := ok_bytes h2
  exact ⟨_, .cons r1 (.cons r2 .nil), S_ShaExact n c1 f k c2 g hf hg⟩
end Go.Proofs.Ytjflfecdeicccaa
end

section
/- The law ShaExact answers true for all that it may be handed: its row; no condition. -/
namespace Go.Proofs.Ytjflfecdeicccaa.shaExact
open Go.ChangeShapes Go.WideShapes Go.ChangeAt Go.RowKit Go.Wit
set_option linter.unusedVariables false
theorem own : ownKnob Try.prog.godebug = none := by kernel_rfl
theorem laid : laidOutB Try.prog = true := by kernel_rfl
set_option maxRecDepth 100000 in
theorem lifted (os : Os) (started : os.Started) (H : Type) (enc : TypeId × Value → H) :
    ReturnsInHanded {} Try.checked os 3 .any (Rows.shaExactSpec.pre6 enc Try.prog Try.f3 Rows.shaExactRow.domain false) (Rows.shaExactSpec.post enc Try.prog Try.f3 false true false false) := by
  refine returnsInHanded_of_change_sized (C := Try.checked) own started (by kernel_rfl) Try.func3
    (ChangeSpec.witness6 (enc := enc) (C := Try.checked) false ⟨#[], #[.slice none 0 0, .slice none 0 0], []⟩ 12 (by kernel_rfl) (by kernel_rfl) (by kernel_rfl) (by kernel_rfl)) ?_
  intro W base args ds gs before hval0 hW hcnd hsz0 _
  have hval : ∀ (j : Nat) t v, Try.f3.params[j]? = some t → args[j]? = some v → Value.okWide Try.prog W .any base t v := hval0
  have hW' := hW
  obtain ⟨p, q, hA0, hV, rfl, hfz, hnd⟩ := hW
  have hA : DataW.TrodAll enc Try.prog W 0 (fun _ => true) true Try.f3.params.toList args.toList ds p := hA0
  obtain ⟨rfl, rfl⟩ := trodVars_none hV
  have l0 : ds.length = 2 := trod_len hA
  obtain ⟨d1, ds1, rfl, l1⟩ := cons_of_len l0
  obtain ⟨d2, ds2, rfl, l2⟩ := cons_of_len l1
  obtain rfl := nil_of_len l2
  refine (law_open (tys := [.sl 1 (.int .u8), .sl 1 (.int .u8)]) (by kernel_rfl) (fun j t v h1 h2 => hval j t v (by simpa using h1) (by simpa using h2)) hA S_row_ShaExact).mono fun e W' ⟨he, bel⟩ => ?_
  subst he
  exact ⟨_, rfl, _, _, _, [], _, [], hW', trodAll_mk1 (shut_bool Try.underlying4 _), shut_vals laid bel (by kernel_rfl) hA, rfl, bel.frame _, fun h => by cases h⟩
theorem over : Rows.shaExactRow.holds Try.pinned (OpenSpec.ofChange Rows.shaExactSpec) :=
  OpenClaim.holds_of_wide 3 Try.f3 rfl rfl rfl rfl rfl rfl rfl ⟨rfl, rfl, rfl, rfl, rfl⟩ rfl rfl rfl rfl rfl (by kernel_rfl) Try.func3 (by kernel_rfl)
    (of_decide_eq_true (by kernel_rfl)) (by unfold Func.isWrapper; first | (rw [if_pos (by decide +kernel)]; kernel_rfl) | (rw [if_neg (by decide +kernel)]; exact ⟨rfl, rfl⟩))
    (fun os started H enc _ => lifted os started H enc)
theorem proved : Rows.ShaExactSaid := over
#print axioms proved
end Go.Proofs.Ytjflfecdeicccaa.shaExact
namespace Go.Proofs.Ytjflfecdeicccaa
/-- The row, under a short name, for the claim. -/
theorem shaExact_holds : Rows.ShaExactSaid := shaExact.proved
end Go.Proofs.Ytjflfecdeicccaa
end

