/- Texts of a proof, one behind the other; the last of these: The law BlockCut answers true for all that it may be handed: its row; no condition. -/
import Derived.Test.YtjflfecdeicccaaZ6
import Derived.Test.YtjflfecdeicccaaRows
import Derived.WalkKit
import Derived.ProofKit
import Derived.OpenShut
import Derived.ShutString
import Derived.ChangeOld
import Derived.Below
import Derived.SizedLaws
section
/- BlockCut; no condition. -/
set_option linter.unusedVariables false
set_option linter.unusedSimpArgs false
set_option maxRecDepth 100000
set_option pp.maxSteps 3000
set_option pp.deepTerms false
set_option pp.deepTerms.threshold 7
namespace Go.Proofs.Ytjflfecdeicccaa
open Go Go.Wit

set_option maxHeartbeats 4000000 in
theorem S_BlockCut (q : Nat → Int) (b : Bk) (cap : Nat) (C : Nat → Nat) (cut more : Int) (hq : ∀ i, i < 32 → 0 ≤ q i ∧ q i ≤ 255) (hb : BkZ b) (hm : 0 ≤ more ∧ more ≤ 255) :
    ACall Pg F_witanlaw16_BlockCut [.agg (rowL q), bkA b.p b.h b.s (.vsl 2 b.t cap (txG b.A b.N C b.F)), .int .i64 cut, .int .u8 more] [] (fun x _ => x = .bool true) := by
  refine B_witanlaw16_BlockCut ⟨rfl, ?_⟩
  rw [rowL]
  conv => whnf
  repeat (refine ⟨⟨_, rfl⟩, ?_⟩; conv => whnf)
  refine S_bHeavy (b := b) (x := .vsl 2 b.t cap (txG b.A b.N C b.F)) (bkA_at rfl) .vsl (fun _ => ?_) (fun ht hN => ?_)
  · conv => whnf
    repeat (refine ⟨⟨_, rfl⟩, ?_⟩; conv => whnf)
  conv => whnf
  repeat (refine ⟨⟨_, rfl⟩, ?_⟩; conv => whnf)
  refine S_bBytes (b := b) (q := q) (x := .vsl 2 b.t cap (txG b.A b.N C b.F)) rfl (bkA_at rfl) .vsl (by omega) (fun hE cap3 n f hn hf => ?_) (fun e2 he2 he0 cap3 f => ?_)
  · have hok := bk_ok hE
    have hle := bkLen_le hok (Nat.le_refl _)
    have h41 : 41 ≤ n := by rw [hn]; exact bkLen_41
    have hfb : ∀ i, i < n → 0 ≤ f i ∧ f i ≤ 255 := fun i hi => by
      rw [hf]; rw [hn] at hi; exact bkF_byte hq hb.F i hi
    conv => whnf
    repeat (refine ⟨⟨_, rfl⟩, ?_⟩; conv => whnf)
    refine condB_no (by simp; omega) ?_
    conv => whnf
    repeat (refine ⟨⟨_, rfl⟩, ?_⟩; conv => whnf)
    refine S_Twin (n := n) (f := f) (Shows.sl rfl (Nat.le_of_eq (Nat.zero_add _)) fun i hi => by rw [Nat.zero_add]) (by omega) (fun cap4 => ?_)
    conv => whnf
    repeat (refine ⟨⟨_, rfl⟩, ?_⟩; conv => whnf)
    refine condB_ok (app_ok (by first | rfl | simp) rfl rfl (by omega) (by omega)) (fun cap5 hcap5 => ?_)
    conv => whnf
    repeat (refine ⟨⟨_, rfl⟩, ?_⟩; conv => whnf)
    have hfe : ∀ j, j < bkLen b b.t → f j = bkF b q b.t j := fun j _ => by rw [hf]
    refine S_bRead (l := 5) (Nb := n + 1) (n := n + 1) (fun i => if i < n then f i else more) rfl (fun i hi => ?_) (Nat.le_refl _) (by omega) (fun i hi => ?_) (fun hg => absurd hg (rd_bad hok (fun j hj => by rw [← hn] at hj; simp only [if_pos hj]; rw [hf]) (by omega))) (fun _ => ?_)
    · by_cases h : i < n
      · rw [catG_lt h, if_pos h]; rfl
      · obtain rfl : i = n := by omega
        rw [catG_ge (Nat.le_refl _), if_neg h, Nat.sub_self]; rfl
    · split
      · exact hfb i (by assumption)
      · exact hm
    rw [rowL]
    conv => whnf
    repeat (refine ⟨⟨_, rfl⟩, ?_⟩; conv => whnf)
    have en : IntKind.u64.wrap (n : Int) = n := by rw [wu64]; omega
    obtain ⟨k, hk, hkn⟩ : ∃ k : Nat, (IntKind.u64.wrap cut).tmod (n : Int) = k ∧ k < n := by
      have h0 : 0 ≤ IntKind.u64.wrap cut := by rw [wu64]; omega
      have h1 := Int.emod_nonneg (IntKind.u64.wrap cut) (show (n : Int) ≠ 0 by omega)
      have h2 := Int.emod_lt_of_pos (IntKind.u64.wrap cut) (show (0 : Int) < n by omega)
      refine ⟨((IntKind.u64.wrap cut).tmod (n : Int)).toNat, ?_, ?_⟩
      · rw [Int.tmod_eq_emod_of_nonneg h0]; omega
      · rw [Int.tmod_eq_emod_of_nonneg h0]; omega
    have ek : IntKind.i64.wrap ((IntKind.u64.wrap cut).tmod (IntKind.u64.wrap (n : Int))) = (k : Int) := by rw [en, hk, w64 (by omega) (by omega)]
    refine condB_ok (b := (kbeq .u64 .u64 && !(IntKind.u64.wrap (n : Int) == 0))) (by rw [en]; simp [kbeq]; omega) ?_
    conv => whnf
    repeat (refine ⟨⟨_, rfl⟩, ?_⟩; conv => whnf)
    rw [ek]
    refine condB_ok (by simp; omega) ?_
    conv => whnf
    repeat (refine ⟨⟨_, rfl⟩, ?_⟩; conv => whnf)
    refine S_bRead (l := 2) (Nb := n) (n := k) f rfl (fun i hi => rfl) (by omega) (by omega) (fun i hi => hfb i (by omega)) (fun hg => absurd hg (rd_bad hok hfe (by omega))) (fun _ => ?_)
    rw [rowL]
    conv => whnf
    repeat (refine ⟨⟨_, rfl⟩, ?_⟩; conv => whnf)
    refine S_kBlock (p := 0) (h := 0) (s := 0) (p' := 0) (h' := 0) (s' := 0) (x := .nils) (y := .nils) (t := 0) (A := fun _ => 0) (A' := fun _ => 0) (N := fun _ => 0) (N' := fun _ => 0) (F := fun _ _ => 0) (F' := fun _ _ => 0) (bkA_at rfl) (bkA_at rfl) .nils .nils rfl rfl rfl (by decide) (fun _ _ => rfl) (fun k hk => ⟨rfl, by decide⟩) (fun _ _ _ _ => rfl) ?_
    conv => whnf
    repeat (refine ⟨⟨_, rfl⟩, ?_⟩; conv => whnf)
    refine S_wakes16 ?_
    conv => whnf
    repeat (refine ⟨⟨_, rfl⟩, ?_⟩; conv => whnf)
  · conv => whnf
    repeat (refine ⟨⟨_, rfl⟩, ?_⟩; conv => whnf)
    refine condB_yes (by simpa using he0) ?_
    conv => whnf
    repeat (refine ⟨⟨_, rfl⟩, ?_⟩; conv => whnf)
    refine S_wakes16 ?_
    conv => whnf
    repeat (refine ⟨⟨_, rfl⟩, ?_⟩; conv => whnf)
theorem S_row_BlockCut (avs : List AV) (h : okVs [t32, tBlock, .int .i64, .int .u8] avs) : ∃ avs', Retold avs avs' ∧ ACall Pg F_witanlaw16_BlockCut avs' [] (fun x _ => x = .bool true) := by
  obtain ⟨v1, _, rfl, h1, v2, _, rfl, h2, v3, _, rfl, h3, v4, _, rfl, h4, rfl⟩ := h
  obtain ⟨q, rfl, hq⟩ := ok_arr32 h1
  obtain ⟨b, cap, C, r2, hb⟩ := ok_block h2
  obtain ⟨x, rfl, _, _⟩ := ok_int h3
  obtain ⟨y, rfl, y1, y2⟩ := ok_int h4
  exact ⟨_, .cons (Retold1.refl _) (.cons r2 (.cons (Retold1.refl _) (.cons (Retold1.refl _) .nil))), S_BlockCut q b cap C x y hq hb ⟨y1, y2⟩⟩
end Go.Proofs.Ytjflfecdeicccaa
end

section
/- The law BlockCut answers true for all that it may be handed: its row; no condition. -/
namespace Go.Proofs.Ytjflfecdeicccaa.blockCut
open Go.ChangeShapes Go.WideShapes Go.ChangeAt Go.RowKit Go.Wit
set_option linter.unusedVariables false
theorem own : ownKnob Try.prog.godebug = none := by kernel_rfl
theorem laid : laidOutB Try.prog = true := by kernel_rfl
set_option maxRecDepth 100000 in
theorem lifted (os : Os) (started : os.Started) (H : Type) (enc : TypeId × Value → H) :
    ReturnsInHanded {} Try.checked os 6 .any (Rows.blockCutSpec.pre6 enc Try.prog Try.f6 Rows.blockCutRow.domain false) (Rows.blockCutSpec.post enc Try.prog Try.f6 false true false false) := by
  refine returnsInHanded_of_change_sized (C := Try.checked) own started (by kernel_rfl) Try.func6
    (ChangeSpec.witness6 (enc := enc) (C := Try.checked) false ⟨#[], #[.agg #[.int .u8 0, .int .u8 0, .int .u8 0, .int .u8 0, .int .u8 0, .int .u8 0, .int .u8 0, .int .u8 0, .int .u8 0, .int .u8 0, .int .u8 0, .int .u8 0, .int .u8 0, .int .u8 0, .int .u8 0, .int .u8 0, .int .u8 0, .int .u8 0, .int .u8 0, .int .u8 0, .int .u8 0, .int .u8 0, .int .u8 0, .int .u8 0, .int .u8 0, .int .u8 0, .int .u8 0, .int .u8 0, .int .u8 0, .int .u8 0, .int .u8 0, .int .u8 0], .agg #[.int .i64 0, .int .i64 0, .int .i64 0, .slice none 0 0], .int .i64 0, .int .u8 0], []⟩ 12 (by kernel_rfl) (by kernel_rfl) (by kernel_rfl) (by kernel_rfl)) ?_
  intro W base args ds gs before hval0 hW hcnd hsz0 _
  have hval : ∀ (j : Nat) t v, Try.f6.params[j]? = some t → args[j]? = some v → Value.okWide Try.prog W .any base t v := hval0
  have hW' := hW
  obtain ⟨p, q, hA0, hV, rfl, hfz, hnd⟩ := hW
  have hA : DataW.TrodAll enc Try.prog W 0 (fun _ => true) true Try.f6.params.toList args.toList ds p := hA0
  obtain ⟨rfl, rfl⟩ := trodVars_none hV
  have l0 : ds.length = 4 := trod_len hA
  obtain ⟨d1, ds1, rfl, l1⟩ := cons_of_len l0
  obtain ⟨d2, ds2, rfl, l2⟩ := cons_of_len l1
  obtain ⟨d3, ds3, rfl, l3⟩ := cons_of_len l2
  obtain ⟨d4, ds4, rfl, l4⟩ := cons_of_len l3
  obtain rfl := nil_of_len l4
  refine (law_open (tys := [t32, tBlock, .int .i64, .int .u8]) (by kernel_rfl) (fun j t v h1 h2 => hval j t v (by simpa using h1) (by simpa using h2)) hA S_row_BlockCut).mono fun e W' ⟨he, bel⟩ => ?_
  subst he
  exact ⟨_, rfl, _, _, _, [], _, [], hW', trodAll_mk1 (shut_bool Try.underlying4 _), shut_vals laid bel (by kernel_rfl) hA, rfl, bel.frame _, fun h => by cases h⟩
theorem over : Rows.blockCutRow.holds Try.pinned (OpenSpec.ofChange Rows.blockCutSpec) :=
  OpenClaim.holds_of_wide 6 Try.f6 rfl rfl rfl rfl rfl rfl rfl ⟨rfl, rfl, rfl, rfl, rfl⟩ rfl rfl rfl rfl rfl (by kernel_rfl) Try.func6 (by kernel_rfl)
    (of_decide_eq_true (by kernel_rfl)) (by unfold Func.isWrapper; first | (rw [if_pos (by decide +kernel)]; kernel_rfl) | (rw [if_neg (by decide +kernel)]; exact ⟨rfl, rfl⟩))
    (fun os started H enc _ => lifted os started H enc)
theorem proved : Rows.BlockCutSaid := over
#print axioms proved
end Go.Proofs.Ytjflfecdeicccaa.blockCut
namespace Go.Proofs.Ytjflfecdeicccaa
/-- The row, under a short name, for the claim. -/
theorem blockCut_holds : Rows.BlockCutSaid := blockCut.proved
end Go.Proofs.Ytjflfecdeicccaa
end

