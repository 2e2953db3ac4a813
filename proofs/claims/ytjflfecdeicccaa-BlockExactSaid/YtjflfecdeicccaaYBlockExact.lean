/- Texts of a proof, one behind the other; the last of these: The law BlockExact answers true for all that it may be handed: its row; no condition. -/
import Derived.Test.YtjflfecdeicccaaZ6
import Derived.Test.YtjflfecdeicccaaRows
import Derived.WalkKit
import Derived.ProofKit
import Derived.OpenShut
import Derived.ShutString
import Derived.ChangeOld
import Derived.Below
import Derived.SizedLaws
section
/- BlockExact; no condition. -/
set_option linter.unusedVariables false
set_option linter.unusedSimpArgs false
set_option maxRecDepth 100000
set_option pp.maxSteps 3000
set_option pp.deepTerms false
set_option pp.deepTerms.threshold 7
namespace Go.Proofs.Ytjflfecdeicccaa
open Go Go.Wit

set_option maxHeartbeats 4000000 in
theorem S_BlockExact (q : Nat → Int) (b : Bk) (cap : Nat) (C : Nat → Nat) (hq : ∀ i, i < 32 → 0 ≤ q i ∧ q i ≤ 255) (hb : BkZ b) :
    ACall Pg F_witanlaw16_BlockExact [.agg (rowL q), bkA b.p b.h b.s (.vsl 2 b.t cap (txG b.A b.N C b.F))] [] (fun x _ => x = .bool true) := by
  refine B_witanlaw16_BlockExact ⟨rfl, ?_⟩
  rw [rowL]
  conv => whnf
  repeat (refine ⟨⟨_, rfl⟩, ?_⟩; conv => whnf)
  refine S_bHeavy (b := b) (x := .vsl 2 b.t cap (txG b.A b.N C b.F)) (bkA_at rfl) .vsl (fun _ => ?_) (fun ht hN => ?_)
  · conv => whnf
    repeat (refine ⟨⟨_, rfl⟩, ?_⟩; conv => whnf)
  conv => whnf
  repeat (refine ⟨⟨_, rfl⟩, ?_⟩; conv => whnf)
  refine S_TwinBlock (p := b.p) (h := b.h) (s := b.s) (t := b.t) (cap := cap) (A := b.A) (N := b.N) (C := C) (F := b.F) (bkA_at rfl) (by omega) (fun i hi => by have := hN i hi; omega) (fun cap2 D => ?_)
  conv => whnf
  repeat (refine ⟨⟨_, rfl⟩, ?_⟩; conv => whnf)
  refine S_rbCheck (b := b) (x := .vsl 2 b.t cap (txG b.A b.N C b.F)) (bkA_at rfl) .vsl (by omega) (fun e he => ?_)
  conv => whnf
  repeat (refine ⟨⟨_, rfl⟩, ?_⟩; conv => whnf)
  refine S_bBytes (b := b) (q := q) (x := .sl 2 0 b.t cap2) rfl (bkA_at rfl) (.own rfl (Nat.le_refl _)) (by omega) (fun hE cap3 n f hn hf => ?_) (fun e2 he2 he0 cap3 f => ?_)
  · obtain rfl : e = 0 := he.trans hE
    conv => whnf
    repeat (refine ⟨⟨_, rfl⟩, ?_⟩; conv => whnf)
    refine S_bHash (b := b) (q := q) (x := .sl 2 0 b.t cap2) rfl (bkA_at rfl) (.own rfl (Nat.le_refl _)) (by omega) hq hb.F (fun _ s hs => ?_) (fun e he he0 => absurd (he.trans hE) he0)
    rw [rowL]
    conv => whnf
    repeat (refine ⟨⟨_, rfl⟩, ?_⟩; conv => whnf)
    refine S_bCheck (b := b) (x := .sl 2 0 b.t cap2) (bkA_at rfl) (.own rfl (Nat.le_refl _)) (by omega) (fun e3 he3 => ?_)
    obtain rfl : e3 = 0 := he3.trans hE
    conv => whnf
    repeat (refine ⟨⟨_, rfl⟩, ?_⟩; conv => whnf)
    refine S_kBlock (p := b.p) (h := b.h) (s := b.s) (p' := b.p) (h' := b.h) (s' := b.s) (x := .sl 2 0 b.t cap2) (y := .vsl 2 b.t cap (txG b.A b.N C b.F)) (t := b.t) (A := b.A) (A' := b.A) (N := b.N) (N' := b.N) (F := b.F) (F' := b.F) (bkA_at rfl) (bkA_at rfl) (.own rfl (Nat.le_refl _)) .vsl rfl rfl rfl (by omega) (fun _ _ => rfl) (fun k hk => ⟨rfl, by have := hN k hk; omega⟩) (fun _ _ _ _ => rfl) ?_
    conv => whnf
    repeat (refine ⟨⟨_, rfl⟩, ?_⟩; conv => whnf)
    refine S_rBytes (b := b) (q := q) (x := .vsl 2 b.t cap (txG b.A b.N C b.F)) rfl (bkA_at rfl) .vsl hE (fun cap4 n2 f2 hn2 hf2 => ?_)
    obtain rfl : n2 = n := hn2.trans hn.symm
    obtain rfl : f2 = f := hf2.trans hf.symm
    conv => whnf
    repeat (refine ⟨⟨_, rfl⟩, ?_⟩; conv => whnf)
    have hok := bk_ok hE
    have hle := bkLen_le hok (Nat.le_refl _)
    have hfb : ∀ i, i < n2 → 0 ≤ f2 i ∧ f2 i ≤ 255 := fun i hi => by
      rw [hf]; rw [hn] at hi; exact bkF_byte hq hb.F i hi
    refine S_Bytes (n1 := n2) (n2 := n2) (f := f2) (g := f2) (Shows.sl rfl (Nat.le_of_eq (Nat.zero_add _)) fun i hi => by rw [Nat.zero_add]) (Shows.sl rfl (Nat.le_of_eq (Nat.zero_add _)) fun i hi => by rw [Nat.zero_add]) (by omega) ?_
    rw [sameB_eq.2 ⟨rfl, fun _ _ => rfl⟩]
    conv => whnf
    repeat (refine ⟨⟨_, rfl⟩, ?_⟩; conv => whnf)
    refine S_rHash (b := b) (q := q) (x := .vsl 2 b.t cap (txG b.A b.N C b.F)) rfl (bkA_at rfl) .vsl hE hq hb.F (fun s2 hs2 => ?_)
    obtain rfl : s2 = s := hs2.trans hs.symm
    rw [rowL]
    conv => whnf
    repeat (refine ⟨⟨_, rfl⟩, ?_⟩; conv => whnf)
    refine condB_no (Eq.trans (b := (!(eqR s2 s2))) rfl (by rw [eqR_refl]; rfl)) ?_
    conv => whnf
    repeat (refine ⟨⟨_, rfl⟩, ?_⟩; conv => whnf)
    have hfe : ∀ j, j < bkLen b b.t → f2 j = bkF b q b.t j := fun j _ => by rw [hf]
    have hback := rd_back hok hfe
    refine S_bRead (l := 4) (Nb := n2) (n := n2) f2 rfl (fun i hi => rfl) (Nat.le_refl _) (by omega) hfb (fun hg c3 D2 => ?_) (fun hbad => absurd (by rw [hn]; exact rd_good hok hfe) hbad)
    rw [rowL]
    conv => whnf
    repeat (refine ⟨⟨_, rfl⟩, ?_⟩; conv => whnf)
    refine condB_yes (Eq.trans (b := (eqR (fun i => f2 (8 + i)) q == true)) rfl (by rw [eqR_iff.2 hback.2.2.2.1]; rfl)) ?_
    conv => whnf
    repeat (refine ⟨⟨_, rfl⟩, ?_⟩; conv => whnf)
    have ht2 : (rdBk f2).t = b.t := hback.1
    have hrows := hback.2.2.2.2.2
    refine S_kBlock (p := 0) (h := (rdBk f2).h) (s := (rdBk f2).s) (p' := 0) (h' := b.h) (s' := b.s) (x := .sl 7 0 (rdBk f2).t c3) (y := .vsl 2 b.t cap (txG b.A b.N C b.F)) (t := b.t) (A := (rdBk f2).A) (A' := b.A) (N := (rdBk f2).N) (N' := b.N) (F := (rdBk f2).F) (F' := b.F) (bkA_at rfl) (bkA_at rfl) (by rw [← ht2]; exact .own rfl (Nat.le_refl _)) .vsl rfl hback.2.1 hback.2.2.1 (by omega) (fun k hk => (hrows k hk).1) (fun k hk => ⟨(hrows k hk).2.1, by have := hN k hk; rw [(hrows k hk).2.1]; omega⟩) (fun k hk i hi => (hrows k hk).2.2 i (by rw [← (hrows k hk).2.1]; exact hi)) ?_
    conv => whnf
    repeat (refine ⟨⟨_, rfl⟩, ?_⟩; conv => whnf)
    refine S_wakes16 ?_
    conv => whnf
    repeat (refine ⟨⟨_, rfl⟩, ?_⟩; conv => whnf)
  · have hce : e2 = e := he2.trans he.symm
    subst hce
    conv => whnf
    repeat (refine ⟨⟨_, rfl⟩, ?_⟩; conv => whnf)
    refine S_bHash (b := b) (q := q) (x := .sl 2 0 b.t cap2) rfl (bkA_at rfl) (.own rfl (Nat.le_refl _)) (by omega) hq hb.F (fun h0 => absurd (he.trans h0) he0) (fun e3 he3 _ => ?_)
    obtain rfl : e3 = e2 := he3.trans he.symm
    rw [rowL]
    conv => whnf
    repeat (refine ⟨⟨_, rfl⟩, ?_⟩; conv => whnf)
    refine S_bCheck (b := b) (x := .sl 2 0 b.t cap2) (bkA_at rfl) (.own rfl (Nat.le_refl _)) (by omega) (fun e4 he4 => ?_)
    obtain rfl : e4 = e3 := he4.trans he.symm
    conv => whnf
    repeat (refine ⟨⟨_, rfl⟩, ?_⟩; conv => whnf)
    refine condB_yes (by simp) ?_
    conv => whnf
    repeat (refine ⟨⟨_, rfl⟩, ?_⟩; conv => whnf)
    refine condB_yes (by simp) ?_
    conv => whnf
    repeat (refine ⟨⟨_, rfl⟩, ?_⟩; conv => whnf)
    refine condB_yes (by simp) ?_
    conv => whnf
    repeat (refine ⟨⟨_, rfl⟩, ?_⟩; conv => whnf)
    refine S_kBlock (p := b.p) (h := b.h) (s := b.s) (p' := b.p) (h' := b.h) (s' := b.s) (x := .sl 2 0 b.t cap2) (y := .vsl 2 b.t cap (txG b.A b.N C b.F)) (t := b.t) (A := b.A) (A' := b.A) (N := b.N) (N' := b.N) (F := b.F) (F' := b.F) (bkA_at rfl) (bkA_at rfl) (.own rfl (Nat.le_refl _)) .vsl rfl rfl rfl (by omega) (fun _ _ => rfl) (fun k hk => ⟨rfl, by have := hN k hk; omega⟩) (fun _ _ _ _ => rfl) ?_
    conv => whnf
    repeat (refine ⟨⟨_, rfl⟩, ?_⟩; conv => whnf)
    refine condB_yes (by simpa using he0) ?_
    conv => whnf
    repeat (refine ⟨⟨_, rfl⟩, ?_⟩; conv => whnf)
    refine S_wakes16 ?_
    conv => whnf
    repeat (refine ⟨⟨_, rfl⟩, ?_⟩; conv => whnf)
theorem S_row_BlockExact (avs : List AV) (h : okVs [t32, tBlock] avs) : ∃ avs', Retold avs avs' ∧ ACall Pg F_witanlaw16_BlockExact avs' [] (fun x _ => x = .bool true) := by
  obtain ⟨v1, _, rfl, h1, v2, _, rfl, h2, rfl⟩ := h
  obtain ⟨q, rfl, hq⟩ := ok_arr32 h1
  obtain ⟨b, cap, C, r2, hb⟩ := ok_block h2
  exact ⟨_, .cons (Retold1.refl _) (.cons r2 .nil), S_BlockExact q b cap C hq hb⟩
end Go.Proofs.Ytjflfecdeicccaa
end

section
/- The law BlockExact answers true for all that it may be handed: its row; no condition. -/
namespace Go.Proofs.Ytjflfecdeicccaa.blockExact
open Go.ChangeShapes Go.WideShapes Go.ChangeAt Go.RowKit Go.Wit
set_option linter.unusedVariables false
theorem own : ownKnob Try.prog.godebug = none := by kernel_rfl
theorem laid : laidOutB Try.prog = true := by kernel_rfl
set_option maxRecDepth 100000 in
theorem lifted (os : Os) (started : os.Started) (H : Type) (enc : TypeId × Value → H) :
    ReturnsInHanded {} Try.checked os 8 .any (Rows.blockExactSpec.pre6 enc Try.prog Try.f8 Rows.blockExactRow.domain false) (Rows.blockExactSpec.post enc Try.prog Try.f8 false true false false) := by
  refine returnsInHanded_of_change_sized (C := Try.checked) own started (by kernel_rfl) Try.func8
    (ChangeSpec.witness6 (enc := enc) (C := Try.checked) false ⟨#[], #[.agg #[.int .u8 0, .int .u8 0, .int .u8 0, .int .u8 0, .int .u8 0, .int .u8 0, .int .u8 0, .int .u8 0, .int .u8 0, .int .u8 0, .int .u8 0, .int .u8 0, .int .u8 0, .int .u8 0, .int .u8 0, .int .u8 0, .int .u8 0, .int .u8 0, .int .u8 0, .int .u8 0, .int .u8 0, .int .u8 0, .int .u8 0, .int .u8 0, .int .u8 0, .int .u8 0, .int .u8 0, .int .u8 0, .int .u8 0, .int .u8 0, .int .u8 0, .int .u8 0], .agg #[.int .i64 0, .int .i64 0, .int .i64 0, .slice none 0 0]], []⟩ 12 (by kernel_rfl) (by kernel_rfl) (by kernel_rfl) (by kernel_rfl)) ?_
  intro W base args ds gs before hval0 hW hcnd hsz0 _
  have hval : ∀ (j : Nat) t v, Try.f8.params[j]? = some t → args[j]? = some v → Value.okWide Try.prog W .any base t v := hval0
  have hW' := hW
  obtain ⟨p, q, hA0, hV, rfl, hfz, hnd⟩ := hW
  have hA : DataW.TrodAll enc Try.prog W 0 (fun _ => true) true Try.f8.params.toList args.toList ds p := hA0
  obtain ⟨rfl, rfl⟩ := trodVars_none hV
  have l0 : ds.length = 2 := trod_len hA
  obtain ⟨d1, ds1, rfl, l1⟩ := cons_of_len l0
  obtain ⟨d2, ds2, rfl, l2⟩ := cons_of_len l1
  obtain rfl := nil_of_len l2
  refine (law_open (tys := [t32, tBlock]) (by kernel_rfl) (fun j t v h1 h2 => hval j t v (by simpa using h1) (by simpa using h2)) hA S_row_BlockExact).mono fun e W' ⟨he, bel⟩ => ?_
  subst he
  exact ⟨_, rfl, _, _, _, [], _, [], hW', trodAll_mk1 (shut_bool Try.underlying4 _), shut_vals laid bel (by kernel_rfl) hA, rfl, bel.frame _, fun h => by cases h⟩
theorem over : Rows.blockExactRow.holds Try.pinned (OpenSpec.ofChange Rows.blockExactSpec) :=
  OpenClaim.holds_of_wide 8 Try.f8 rfl rfl rfl rfl rfl rfl rfl ⟨rfl, rfl, rfl, rfl, rfl⟩ rfl rfl rfl rfl rfl (by kernel_rfl) Try.func8 (by kernel_rfl)
    (of_decide_eq_true (by kernel_rfl)) (by unfold Func.isWrapper; first | (rw [if_pos (by decide +kernel)]; kernel_rfl) | (rw [if_neg (by decide +kernel)]; exact ⟨rfl, rfl⟩))
    (fun os started H enc _ => lifted os started H enc)
theorem proved : Rows.BlockExactSaid := over
#print axioms proved
end Go.Proofs.Ytjflfecdeicccaa.blockExact
namespace Go.Proofs.Ytjflfecdeicccaa
/-- The row, under a short name, for the claim. -/
theorem blockExact_holds : Rows.BlockExactSaid := blockExact.proved
end Go.Proofs.Ytjflfecdeicccaa
end

