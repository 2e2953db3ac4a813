/- Texts of a proof, one behind the other; the last of these: The law BlockSizes answers true for all that it may be handed: its row; no condition. -/
import Derived.Test.YtjflfecdeicccaaZ6
import Derived.Test.YtjflfecdeicccaaRows
import Derived.WalkKit
import Derived.ProofKit
import Derived.OpenShut
import Derived.ShutString
import Derived.ChangeOld
import Derived.Below
import Derived.SizedLaws
section
/- BlockSizes; no condition. -/
set_option linter.unusedVariables false
set_option linter.unusedSimpArgs false
set_option maxRecDepth 100000
set_option pp.maxSteps 3000
set_option pp.deepTerms false
set_option pp.deepTerms.threshold 7
namespace Go.Proofs.Ytjflfecdeicccaa
open Go Go.Wit

theorem cell_row {q : Nat → Int} : AV.agg (List.map (cellG ⟨1, 32, bytesG q⟩ 0 0) (List.range 32)) = .agg (rowL q) := by
  refine congrArg AV.agg (List.map_congr_left fun k _ => ?_)
  show _ = AV.int .u8 (q k)
  rw [cellG_def]
  dsimp only
  cases hb : Nat.blt (0 + k) 1 with
  | true =>
    have hk : k = 0 := by rw [Nat.blt_eq] at hb; omega
    subst hk
    rfl
  | false =>
    show AV.int .u8 (q (0 + (0 + k) / 1)) = _
    rw [Nat.zero_add, Nat.zero_add, Nat.div_one]
def bkP (b : Bk) (p : Int) : Bk := ⟨p, b.h, b.s, b.t, b.A, b.N, b.F⟩
theorem bkP_len {b : Bk} {p : Int} : ∀ {k : Nat}, bkLen (bkP b p) k = bkLen b k
  | 0 => rfl
  | k + 1 => by simp only [bkLen]; rw [bkP_len (k := k)]; rfl
theorem bkP_F {b : Bk} {p : Int} {q : Nat → Int} : ∀ {k : Nat}, bkF (bkP b p) q k = bkF b q k
  | 0 => rfl
  | k + 1 => by simp only [bkF]; rw [bkP_F (k := k), bkP_len]; rfl
theorem bkP_E {b : Bk} {p : Int} (hp : 0 ≤ p) (h : bkE b = 0) : bkE (bkP b p) = 0 := by
  have hk := bk_ok h
  exact bkE_of ⟨hk.h, hk.s, hk.t, hk.A, hk.N⟩ (by show -1 ≤ p; omega)
theorem same_par {b : Bk} {q q' : Nat → Int} {t : Nat} : sameB (bkLen b t) (bkF b q t) (bkLen b t) (bkF b q' t) = eqR q q' := by
  rw [Bool.eq_iff_iff, sameB_eq, eqR_iff]
  constructor
  · intro h i hi
    have := h.2 (8 + i) (Nat.lt_of_lt_of_le (by omega) bkLen_41)
    rwa [bkF_q hi, bkF_q hi] at this
  · intro h
    refine ⟨rfl, fun j _ => ?_⟩
    by_cases hj : j < 8 ∨ 40 ≤ j
    · exact bkF_par hj
    · obtain ⟨i, rfl⟩ : ∃ i, j = 8 + i := ⟨j - 8, by omega⟩
      rw [bkF_q (by omega), bkF_q (by omega)]
      exact h i (by omega)
set_option maxHeartbeats 4000000 in
theorem S_BlockSizes (q q' : Nat → Int) (b : Bk) (cap : Nat) (C : Nat → Nat) (p : Int) (hq : ∀ i, i < 32 → 0 ≤ q i ∧ q i ≤ 255) (hq' : ∀ i, i < 32 → 0 ≤ q' i ∧ q' i ≤ 255) (hb : BkZ b) :
    ACall Pg F_witanlaw16_BlockSizes [.agg (rowL q), .agg (rowL q'), bkA b.p b.h b.s (.vsl 2 b.t cap (txG b.A b.N C b.F)), .int .i64 p] [] (fun x _ => x = .bool true) := by
  refine B_witanlaw16_BlockSizes ⟨rfl, ?_⟩
  rw [rowL, rowL]
  conv => whnf
  repeat (refine ⟨⟨_, rfl⟩, ?_⟩; conv => whnf)
  refine S_bHeavy (b := b) (x := .vsl 2 b.t cap (txG b.A b.N C b.F)) (bkA_at rfl) .vsl (fun _ => ?_) (fun ht hN => ?_)
  · conv => whnf
    repeat (refine ⟨⟨_, rfl⟩, ?_⟩; conv => whnf)
  conv => whnf
  repeat (refine ⟨⟨_, rfl⟩, ?_⟩; conv => whnf)
  refine condB_mk (fun hp => ?_) (fun hp => ?_)
  · conv => whnf
    repeat (refine ⟨⟨_, rfl⟩, ?_⟩; conv => whnf)
  have hp : ¬ p < 0 := of_decide_eq_false hp
  conv => whnf
  repeat (refine ⟨⟨_, rfl⟩, ?_⟩; conv => whnf)
  refine S_bBytes (b := b) (q := q) (x := .vsl 2 b.t cap (txG b.A b.N C b.F)) rfl (bkA_at rfl) .vsl (by omega) (fun hE cap3 n f hn hf => ?_) (fun e2 he2 he0 cap3 f => ?_)
  rotate_left
  · conv => whnf
    repeat (refine ⟨⟨_, rfl⟩, ?_⟩; conv => whnf)
    refine condB_yes (by simpa using he0) ?_
    conv => whnf
    repeat (refine ⟨⟨_, rfl⟩, ?_⟩; conv => whnf)
    refine S_wakes16 ?_
    conv => whnf
    repeat (refine ⟨⟨_, rfl⟩, ?_⟩; conv => whnf)
  have hok := bk_ok hE
  have hle := bkLen_le hok (Nat.le_refl _)
  have hfb : ∀ i, i < n → 0 ≤ f i ∧ f i ≤ 255 := fun i hi => by
    rw [hf]; rw [hn] at hi; exact bkF_byte hq hb.F i hi
  conv => whnf
  repeat (refine ⟨⟨_, rfl⟩, ?_⟩; conv => whnf)
  refine loop_wk mixed (I := fun w l m => ∃ k : Nat, l = [(3, .int .i64 p), (4, .ptr 0 0 0), (5, .ptr 1 0 0), (6, .ptr 2 0 0), (9, .sl 3 0 n cap3), (11, .int .i64 (bkLen b k : Nat)), (12, .int .i64 k)] ∧ m = [some ⟨1, 32, bytesG q⟩, some ⟨1, 32, bytesG q'⟩, some ⟨4, 1, lstG 4 (bkL b.p b.h b.s (.vsl 2 b.t cap (txG b.A b.N C b.F)))⟩, some ⟨1, n, bytesG f⟩] ∧ w + k = b.t) b.t
    (l0 := [(3, .int .i64 p), (4, .ptr 0 0 0), (5, .ptr 1 0 0), (6, .ptr 2 0 0), (9, .sl 3 0 n cap3), (11, .int .i64 (bkLen b 0 : Nat)), (12, .int .i64 (0 : Nat))]) (m0 := [some ⟨1, 32, bytesG q⟩, some ⟨1, 32, bytesG q'⟩, some ⟨4, 1, lstG 4 (bkL b.p b.h b.s (.vsl 2 b.t cap (txG b.A b.N C b.F)))⟩, some ⟨1, n, bytesG f⟩]) [some 0, some 1, some 2, some 3] ⟨0, rfl, rfl, rfl⟩ ?_ ?_
  · refine .mk0 ⟨Flat.i rfl, .ptr _ _ _ _ rfl, .ptr _ _ _ _ rfl, .ptr _ _ _ _ rfl, .sl _ _ _ _ _ rfl, Flat.i rfl, Flat.i rfl, trivial⟩ ⟨.old 0 0 _ _ rfl rfl ⟨rfl, Nat.le_refl _, fun i j hi hj => ?_⟩, .old 1 1 _ _ rfl rfl ⟨rfl, Nat.le_refl _, fun i j hi hj => ?_⟩, .old 2 2 _ _ rfl rfl ⟨rfl, Nat.le_refl _, fun i j hi hj => bk_blk flat_txs hi hj rfl⟩, .old 3 3 _ _ rfl rfl ⟨rfl, Nat.le_refl _, fun i j hi hj => .eq _ _ rfl (.int _ _)⟩, trivial⟩ rfl rfl
    · have hi : i < 32 := hi
      have hj : j < 1 := hj
      obtain rfl : j = 0 := by omega
      refine RV.of (Eq.trans (b := (rowL q).getD (i * 1 + 0) .un) rfl ?_) (.int _ _)
      rw [Nat.mul_one, Nat.add_zero]
      exact rowL_get hi
    · have hi : i < 32 := hi
      have hj : j < 1 := hj
      obtain rfl : j = 0 := by omega
      refine RV.of (Eq.trans (b := (rowL q').getD (i * 1 + 0) .un) rfl ?_) (.int _ _)
      rw [Nat.mul_one, Nat.add_zero]
      exact rowL_get hi
  · rintro w l m ⟨k, rfl, rfl, hk⟩
    conv => whnf
    repeat (refine ⟨⟨_, rfl⟩, ?_⟩; conv => whnf)
    refine condB_mk (fun hc => ?_) (fun hc => ?_)
    · have hc : k < b.t := by simp at hc; omega
      have h1 := bkLen_le hok (k := k) (by omega)
      have h2 := hN k hc
      conv => whnf
      repeat (refine ⟨⟨_, rfl⟩, ?_⟩; conv => whnf)
      refine condB_ok (by simp; omega) ?_
      conv => whnf
      repeat (refine ⟨⟨_, rfl⟩, ?_⟩; conv => whnf)
      have e5 : IntKind.i64.wrap ((k : Int) + 1) = ((k + 1 : Nat) : Int) := by rw [w64 (by omega) (by omega)]; omega
      have e6 : IntKind.i64.wrap (IntKind.i64.wrap ((bkLen b k : Nat) + 5) + (b.N k : Nat)) = ((bkLen b (k + 1) : Nat) : Int) := by
        rw [w64 (n := ((bkLen b k : Nat) : Int) + 5) (by omega) (by omega), w64 (by omega) (by omega)]
        simp only [bkLen]; omega
      refine ⟨w - 1, [(3, .int .i64 p), (4, .ptr 0 0 0), (5, .ptr 1 0 0), (6, .ptr 2 0 0), (9, .sl 3 0 n cap3), (11, .int .i64 (bkLen b (k + 1) : Nat)), (12, .int .i64 ((k + 1 : Nat) : Int))], [some ⟨1, 32, bytesG q⟩, some ⟨1, 32, bytesG q'⟩, some ⟨4, 1, lstG 4 (bkL b.p b.h b.s (.vsl 2 b.t cap (txG b.A b.N C b.F)))⟩, some ⟨1, n, bytesG f⟩], [some 0, some 1, some 2, some 3], by omega, ⟨k + 1, rfl, rfl, by omega⟩, ?_⟩
      exact .mk0 ⟨Flat.i rfl, .ptr _ _ _ _ rfl, .ptr _ _ _ _ rfl, .ptr _ _ _ _ rfl, .sl _ _ _ _ _ rfl, Flat.i e6, Flat.i e5, trivial⟩ ⟨.old 0 0 _ _ rfl rfl ⟨rfl, Nat.le_refl _, fun i j hi hj => .eq _ _ rfl (.int _ _)⟩, .old 1 1 _ _ rfl rfl ⟨rfl, Nat.le_refl _, fun i j hi hj => .eq _ _ rfl (.int _ _)⟩, .old 2 2 _ _ rfl rfl ⟨rfl, Nat.le_refl _, fun i j hi hj => bk_blk flat_txs hi hj rfl⟩, .old 3 3 _ _ rfl rfl ⟨rfl, Nat.le_refl _, fun i j hi hj => .eq _ _ rfl (.int _ _)⟩, trivial⟩ rfl rfl
    · have hc : k = b.t := by simp at hc; omega
      subst hc
      conv => whnf
      repeat (refine ⟨⟨_, rfl⟩, ?_⟩; conv => whnf)
      refine S_bHash (b := b) (q := q) (x := .vsl 2 b.t cap (txG b.A b.N C b.F)) cell_row (bkA_at rfl) .vsl (by omega) hq hb.F (fun _ s hs => ?_) (fun e he he0 => absurd (he.trans hE) he0)
      rw [rowL]
      conv => whnf
      repeat (refine ⟨⟨_, rfl⟩, ?_⟩; conv => whnf)
      refine S_TwinBlock (p := b.p) (h := b.h) (s := b.s) (t := b.t) (cap := cap) (A := b.A) (N := b.N) (C := C) (F := b.F) (bkA_at rfl) (by omega) (fun i hi => by have := hN i hi; omega) (fun cap2 D => ?_)
      conv => whnf
      repeat (refine ⟨⟨_, rfl⟩, ?_⟩; conv => whnf)
      refine S_bBytes (b := bkP b p) (q := q) (x := .sl 5 0 b.t cap2) cell_row (bkA_at rfl) (.own rfl (Nat.le_refl _)) (by show b.t ≤ _; omega) (fun _ cap4 n2 f2 hn2 hf2 => ?_) (fun e he he0 => absurd (he.trans (bkP_E (by omega) hE)) he0)
      have hn2 : n2 = n := by rw [hn2, hn]; exact bkP_len
      have hf2 : f2 = f := by rw [hf2, hf]; exact bkP_F
      subst hn2 hf2
      conv => whnf
      repeat (refine ⟨⟨_, rfl⟩, ?_⟩; conv => whnf)
      refine S_bBytes (b := b) (q := q') (x := .vsl 2 b.t cap (txG b.A b.N C b.F)) cell_row (bkA_at rfl) .vsl (by omega) (fun _ cap5 n3 f3 hn3 hf3 => ?_) (fun e he he0 => absurd (he.trans hE) he0)
      obtain rfl : n3 = n2 := hn3.trans hn.symm
      conv => whnf
      repeat (refine ⟨⟨_, rfl⟩, ?_⟩; conv => whnf)
      have h41 : 41 ≤ n3 := by rw [hn]; exact bkLen_41
      have htt := hok.t
      refine condB_yes (by rw [hn]; simp) ?_
      conv => whnf
      repeat (refine ⟨⟨_, rfl⟩, ?_⟩; conv => whnf)
      refine S_SumR (n := n3) (f := f2) (Shows.sl rfl (Nat.le_of_eq (Nat.zero_add _)) fun i hi => by rw [Nat.zero_add]) (by omega) hfb (fun s2 hs2 _ => ?_)
      obtain rfl : s2 = s := by rw [hs2, hs, hn, hf]
      rw [rowL]
      conv => whnf
      repeat (refine ⟨⟨_, rfl⟩, ?_⟩; conv => whnf)
      refine condB_yes (Eq.trans (b := ((!(eqR s2 s2)) == false)) rfl (by rw [eqR_refl]; rfl)) ?_
      conv => whnf
      repeat (refine ⟨⟨_, rfl⟩, ?_⟩; conv => whnf)
      refine S_Bytes (n1 := n3) (n2 := n3) (f := f2) (g := f2) (Shows.sl rfl (Nat.le_of_eq (Nat.zero_add _)) fun i hi => by rw [Nat.zero_add]) (Shows.sl rfl (Nat.le_of_eq (Nat.zero_add _)) fun i hi => by rw [Nat.zero_add]) (by omega) ?_
      rw [sameB_eq.2 ⟨rfl, fun _ _ => rfl⟩]
      conv => whnf
      repeat (refine ⟨⟨_, rfl⟩, ?_⟩; conv => whnf)
      refine S_Bytes (n1 := n3) (n2 := n3) (f := f2) (g := f3) (Shows.sl rfl (Nat.le_of_eq (Nat.zero_add _)) fun i hi => by rw [Nat.zero_add]) (Shows.sl rfl (Nat.le_of_eq (Nat.zero_add _)) fun i hi => by rw [Nat.zero_add]) (by omega) ?_
      obtain ⟨tt, htt2⟩ : ∃ tt, tt = sameB n3 f2 n3 f3 := ⟨_, rfl⟩
      have htt3 : tt = eqR q q' := by rw [htt2, hn, hf, hf3]; exact same_par
      rw [← htt2]
      conv => whnf
      repeat (refine ⟨⟨_, rfl⟩, ?_⟩; conv => whnf)
      refine condB_yes (Eq.trans (b := ((tt == eqR q q') == true)) rfl (by rw [htt3]; simp)) ?_
      conv => whnf
      repeat (refine ⟨⟨_, rfl⟩, ?_⟩; conv => whnf)
      refine condB_ok (by simp; omega) ?_
      conv => whnf
      repeat (refine ⟨⟨_, rfl⟩, ?_⟩; conv => whnf)
      refine condB_ok (by simp; omega) ?_
      conv => whnf
      repeat (refine ⟨⟨_, rfl⟩, ?_⟩; conv => whnf)
      have hpre : ∀ i, i < 8 → f2 i = f3 i := fun i hi => by rw [hf, hf3]; exact bkF_par (.inl hi)
      have hpost : ∀ i, 40 ≤ i → f2 i = f3 i := fun i hi => by rw [hf, hf3]; exact bkF_par (.inr hi)
      refine S_Bytes (n1 := 8) (n2 := 8) (f := f2) (g := f3) (Shows.sl rfl (by omega) fun i hi => by rw [show 0 + 0 + i = i by omega]) (Shows.sl rfl (by omega) fun i hi => by rw [show 0 + 0 + i = i by omega]) (by omega) ?_
      rw [sameB_eq.2 ⟨rfl, fun i hi => hpre i hi⟩]
      conv => whnf
      repeat (refine ⟨⟨_, rfl⟩, ?_⟩; conv => whnf)
      refine condB_ok (by simp; omega) ?_
      conv => whnf
      repeat (refine ⟨⟨_, rfl⟩, ?_⟩; conv => whnf)
      refine condB_ok (by simp; omega) ?_
      conv => whnf
      repeat (refine ⟨⟨_, rfl⟩, ?_⟩; conv => whnf)
      refine S_Bytes (n1 := n3 - 40) (n2 := n3 - 40) (f := fun i => f2 (40 + i)) (g := fun i => f3 (40 + i)) (Shows.sl rfl (by omega) fun i hi => by rw [show 0 + Int.toNat 40 + i = 40 + i by omega]) (Shows.sl rfl (by omega) fun i hi => by rw [show 0 + Int.toNat 40 + i = 40 + i by omega]) (by omega) ?_
      rw [sameB_eq.2 ⟨rfl, fun i hi => hpost _ (by omega)⟩]
      conv => whnf
      repeat (refine ⟨⟨_, rfl⟩, ?_⟩; conv => whnf)
      refine S_wakes16 ?_
      conv => whnf
      repeat (refine ⟨⟨_, rfl⟩, ?_⟩; conv => whnf)
theorem S_row_BlockSizes (avs : List AV) (h : okVs [t32, t32, tBlock, .int .i64] avs) : ∃ avs', Retold avs avs' ∧ ACall Pg F_witanlaw16_BlockSizes avs' [] (fun x _ => x = .bool true) := by
  obtain ⟨v1, _, rfl, h1, v2, _, rfl, h2, v3, _, rfl, h3, v4, _, rfl, h4, rfl⟩ := h
  obtain ⟨q, rfl, hq⟩ := ok_arr32 h1
  obtain ⟨q', rfl, hq'⟩ := ok_arr32 h2
  obtain ⟨b, cap, C, r3, hb⟩ := ok_block h3
  obtain ⟨y, rfl, y1, y2⟩ := ok_int h4
  exact ⟨_, .cons (Retold1.refl _) (.cons (Retold1.refl _) (.cons r3 (.cons (Retold1.refl _) .nil))), S_BlockSizes q q' b cap C y hq hq' hb⟩
end Go.Proofs.Ytjflfecdeicccaa
end

section
/- The law BlockSizes answers true for all that it may be handed: its row; no condition. -/
namespace Go.Proofs.Ytjflfecdeicccaa.blockSizes
open Go.ChangeShapes Go.WideShapes Go.ChangeAt Go.RowKit Go.Wit
set_option linter.unusedVariables false
theorem own : ownKnob Try.prog.godebug = none := by kernel_rfl
theorem laid : laidOutB Try.prog = true := by kernel_rfl
set_option maxRecDepth 100000 in
theorem lifted (os : Os) (started : os.Started) (H : Type) (enc : TypeId × Value → H) :
    ReturnsInHanded {} Try.checked os 7 .any (Rows.blockSizesSpec.pre6 enc Try.prog Try.f7 Rows.blockSizesRow.domain false) (Rows.blockSizesSpec.post enc Try.prog Try.f7 false true false false) := by
  refine returnsInHanded_of_change_sized (C := Try.checked) own started (by kernel_rfl) Try.func7
    (ChangeSpec.witness6 (enc := enc) (C := Try.checked) false ⟨#[], #[.agg #[.int .u8 0, .int .u8 0, .int .u8 0, .int .u8 0, .int .u8 0, .int .u8 0, .int .u8 0, .int .u8 0, .int .u8 0, .int .u8 0, .int .u8 0, .int .u8 0, .int .u8 0, .int .u8 0, .int .u8 0, .int .u8 0, .int .u8 0, .int .u8 0, .int .u8 0, .int .u8 0, .int .u8 0, .int .u8 0, .int .u8 0, .int .u8 0, .int .u8 0, .int .u8 0, .int .u8 0, .int .u8 0, .int .u8 0, .int .u8 0, .int .u8 0, .int .u8 0], .agg #[.int .u8 0, .int .u8 0, .int .u8 0, .int .u8 0, .int .u8 0, .int .u8 0, .int .u8 0, .int .u8 0, .int .u8 0, .int .u8 0, .int .u8 0, .int .u8 0, .int .u8 0, .int .u8 0, .int .u8 0, .int .u8 0, .int .u8 0, .int .u8 0, .int .u8 0, .int .u8 0, .int .u8 0, .int .u8 0, .int .u8 0, .int .u8 0, .int .u8 0, .int .u8 0, .int .u8 0, .int .u8 0, .int .u8 0, .int .u8 0, .int .u8 0, .int .u8 0], .agg #[.int .i64 0, .int .i64 0, .int .i64 0, .slice none 0 0], .int .i64 0], []⟩ 12 (by kernel_rfl) (by kernel_rfl) (by kernel_rfl) (by kernel_rfl)) ?_
  intro W base args ds gs before hval0 hW hcnd hsz0 _
  have hval : ∀ (j : Nat) t v, Try.f7.params[j]? = some t → args[j]? = some v → Value.okWide Try.prog W .any base t v := hval0
  have hW' := hW
  obtain ⟨p, q, hA0, hV, rfl, hfz, hnd⟩ := hW
  have hA : DataW.TrodAll enc Try.prog W 0 (fun _ => true) true Try.f7.params.toList args.toList ds p := hA0
  obtain ⟨rfl, rfl⟩ := trodVars_none hV
  have l0 : ds.length = 4 := trod_len hA
  obtain ⟨d1, ds1, rfl, l1⟩ := cons_of_len l0
  obtain ⟨d2, ds2, rfl, l2⟩ := cons_of_len l1
  obtain ⟨d3, ds3, rfl, l3⟩ := cons_of_len l2
  obtain ⟨d4, ds4, rfl, l4⟩ := cons_of_len l3
  obtain rfl := nil_of_len l4
  refine (law_open (tys := [t32, t32, tBlock, .int .i64]) (by kernel_rfl) (fun j t v h1 h2 => hval j t v (by simpa using h1) (by simpa using h2)) hA S_row_BlockSizes).mono fun e W' ⟨he, bel⟩ => ?_
  subst he
  exact ⟨_, rfl, _, _, _, [], _, [], hW', trodAll_mk1 (shut_bool Try.underlying4 _), shut_vals laid bel (by kernel_rfl) hA, rfl, bel.frame _, fun h => by cases h⟩
theorem over : Rows.blockSizesRow.holds Try.pinned (OpenSpec.ofChange Rows.blockSizesSpec) :=
  OpenClaim.holds_of_wide 7 Try.f7 rfl rfl rfl rfl rfl rfl rfl ⟨rfl, rfl, rfl, rfl, rfl⟩ rfl rfl rfl rfl rfl (by kernel_rfl) Try.func7 (by kernel_rfl)
    (of_decide_eq_true (by kernel_rfl)) (by unfold Func.isWrapper; first | (rw [if_pos (by decide +kernel)]; kernel_rfl) | (rw [if_neg (by decide +kernel)]; exact ⟨rfl, rfl⟩))
    (fun os started H enc _ => lifted os started H enc)
theorem proved : Rows.BlockSizesSaid := over
#print axioms proved
end Go.Proofs.Ytjflfecdeicccaa.blockSizes
namespace Go.Proofs.Ytjflfecdeicccaa
/-- The row, under a short name, for the claim. -/
theorem blockSizes_holds : Rows.BlockSizesSaid := blockSizes.proved
end Go.Proofs.Ytjflfecdeicccaa
end

