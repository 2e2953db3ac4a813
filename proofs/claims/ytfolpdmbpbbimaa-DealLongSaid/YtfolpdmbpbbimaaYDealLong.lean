/- Texts of a proof, one behind the other; the last of these: The law DealLong answers true for all that it may be handed: its row; no condition. -/
import Derived.Test.YtfolpdmbpbbimaaZ9
import Derived.Test.YtfolpdmbpbbimaaRows
import Derived.WalkKit
import Derived.ProofKit
import Derived.OpenShut
import Derived.ShutString
import Derived.ChangeOld
import Derived.Below
import Derived.SizedLaws
section
/- DealLong; no condition. -/
set_option linter.unusedVariables false
set_option linter.unusedSimpArgs false
set_option maxRecDepth 100000
set_option pp.maxSteps 6000
set_option pp.deepTerms false
set_option pp.deepTerms.threshold 7
namespace Go.Proofs.Ytfolpdmbpbbimaa
open Go Go.Wit

theorem flat_sh {e : Int} {b : Bool} : Flat true (.tup [noPt, numA 0, .bool b, .int .i64 e]) := .tup _ (.cons _ _ (flat_no _) (.cons _ _ flat_numA (.cons _ _ (.bool _) (.cons _ _ (.int _ _) .nil))))
/-- What another dealer has sent, of no dealers. -/
theorem S_shareN {m : Mem} {x : AV} {K : AV → Mem → Prop} {n : Nat} {f : Nat → Int} (hx : Shows m x n f) (hn : n ≤ 1000000) (hf : ∀ i, i < n → 0 ≤ f i ∧ f i ≤ 255) (h : K (.tup [noPt, numA 0, .bool false, .int .i64 (if n ≤ 16384 then 5 else 4)]) m) : ACall Pg F_deal_share [x, .nils, .int .i64 1, .int .i64 2] m K := by
  have h0 : ∀ cap, ACall Pg F_deal_share [.vsl 1 n cap (bytesG f), .nils, .int .i64 1, .int .i64 2] [] (fun v _ => v = .tup [noPt, numA 0, .bool false, .int .i64 (if n ≤ 16384 then 5 else 4)] ∧ Flat true v) := fun cap => by
    refine B_deal_share ⟨rfl, ?_⟩
    conv => whnf
    repeat (refine ⟨⟨_, rfl⟩, ?_⟩; conv => whnf)
    refine S_Secret (n := n) (f := f) Shows.vsl hn hf (fun hn2 a ha ha1 ha0 => ?_) (fun hn2 => ?_)
    · rw [if_pos hn2]
      clear ha
      conv => whnf
      repeat (refine ⟨⟨_, rfl⟩, ?_⟩; conv => whnf)
      refine B_judge_Place ⟨rfl, ?_⟩
      conv => whnf
      repeat (refine ⟨⟨_, rfl⟩, ?_⟩; conv => whnf)
      refine B_judge_dealer ⟨rfl, ?_⟩
      conv => whnf
      repeat (refine ⟨⟨_, rfl⟩, ?_⟩; conv => whnf)
      refine B_judge_dealer ⟨rfl, ?_⟩
      conv => whnf
      repeat (refine ⟨⟨_, rfl⟩, ?_⟩; conv => whnf)
      refine S_dnum (n := 0) (D := fun _ => ⟨0, false, 0, 0, nB, 0, false, 0, fun _ _ => 0, 0, fun _ => false, fun _ => 0, fun _ => 0, false, false, false, 0, 0⟩) ShowsD.nils (fun b hb => ?_)
      have hb : b = false := by rw [hb]; rfl
      subst hb
      conv => whnf
      repeat (refine ⟨⟨_, rfl⟩, ?_⟩; conv => whnf)
      refine B_deal_share_1 ⟨rfl, ?_⟩
      conv => whnf
      repeat (refine ⟨⟨_, rfl⟩, ?_⟩; conv => whnf)
      refine ⟨rfl, ?_⟩
      show Flat true (.tup [noPt, numA 0, .bool false, .int .i64 5])
      exact flat_sh
    · rw [if_neg (by omega)]
      conv => whnf
      repeat (refine ⟨⟨_, rfl⟩, ?_⟩; conv => whnf)
      refine B_deal_share_1 ⟨rfl, ?_⟩
      conv => whnf
      repeat (refine ⟨⟨_, rfl⟩, ?_⟩; conv => whnf)
      refine ⟨rfl, ?_⟩
      show Flat true (.tup [noPt, numA 0, .bool false, .int .i64 4])
      exact flat_sh
  obtain ⟨cap, hl⟩ := hx
  refine lift_flat (h0 cap) (.cons _ _ _ _ hl (.cons _ _ _ _ (lend_flat .nils) (.cons _ _ _ _ lend_int (.cons _ _ _ _ lend_int .nil)))) ?_
  rintro v rfl
  exact h
theorem S_ShareN {m : Mem} {x : AV} {K : AV → Mem → Prop} {n : Nat} {f : Nat → Int} (hx : Shows m x n f) (hn : n ≤ 1000000) (hf : ∀ i, i < n → 0 ≤ f i ∧ f i ≤ 255) (h : K (.tup [numA 0, .bool false, .int .i64 (if n ≤ 16384 then 5 else 4)]) m) : ACall Pg F_deal_Share [x, .nils, .int .i64 1, .int .i64 2] m K := by
  have h0 : ∀ cap, ACall Pg F_deal_Share [.vsl 1 n cap (bytesG f), .nils, .int .i64 1, .int .i64 2] [] (fun v _ => v = .tup [numA 0, .bool false, .int .i64 (if n ≤ 16384 then 5 else 4)] ∧ Flat true v) := fun cap => by
    refine B_deal_Share ⟨rfl, ?_⟩
    conv => whnf
    repeat (refine ⟨⟨_, rfl⟩, ?_⟩; conv => whnf)
    refine S_shareN (n := n) (f := f) Shows.vsl hn hf ?_
    generalize (if n ≤ 16384 then (5 : Int) else 4) = e
    conv => whnf
    repeat (refine ⟨⟨_, rfl⟩, ?_⟩; conv => whnf)
    refine ⟨rfl, ?_⟩
    show Flat true (.tup [numA 0, .bool false, .int .i64 e])
    exact .tup _ (.cons _ _ flat_numA (.cons _ _ (.bool _) (.cons _ _ (.int _ _) .nil)))
  obtain ⟨cap, hl⟩ := hx
  refine lift_flat (h0 cap) (.cons _ _ _ _ hl (.cons _ _ _ _ (lend_flat .nils) (.cons _ _ _ _ lend_int (.cons _ _ _ _ lend_int .nil)))) ?_
  rintro v rfl
  exact h
theorem S_DisputeN {m : Mem} {x : AV} {K : AV → Mem → Prop} {n : Nat} {f : Nat → Int} (hx : Shows m x n f) (hn : n ≤ 1000000) (hf : ∀ i, i < n → 0 ≤ f i ∧ f i ≤ 255) (h : K (.tup [act0, .int .i64 (if n ≤ 16384 then 5 else 4)]) m) : ACall Pg F_deal_Dispute [x, .nils, .int .i64 1, .int .i64 2] m K := by
  have h0 : ∀ cap, ACall Pg F_deal_Dispute [.vsl 1 n cap (bytesG f), .nils, .int .i64 1, .int .i64 2] [] (fun v _ => v = .tup [act0, .int .i64 (if n ≤ 16384 then 5 else 4)] ∧ Flat true v) := fun cap => by
    refine B_deal_Dispute ⟨rfl, ?_⟩
    conv => whnf
    repeat (refine ⟨⟨_, rfl⟩, ?_⟩; conv => whnf)
    refine S_shareN (n := n) (f := f) Shows.vsl hn hf ?_
    obtain ⟨e, he, he0⟩ : ∃ e : Int, e = (if n ≤ 16384 then (5 : Int) else 4) ∧ e ≠ 0 := ⟨_, rfl, by split <;> decide⟩
    rw [← he]
    conv => whnf
    repeat (refine ⟨⟨_, rfl⟩, ?_⟩; conv => whnf)
    refine condB_yes (by simpa using he0) ?_
    conv => whnf
    repeat (refine ⟨⟨_, rfl⟩, ?_⟩; conv => whnf)
    refine ⟨rfl, ?_⟩
    show Flat true (.tup [act0, .int .i64 e])
    exact flat_acte
  obtain ⟨cap, hl⟩ := hx
  refine lift_flat (h0 cap) (.cons _ _ _ _ hl (.cons _ _ _ _ (lend_flat .nils) (.cons _ _ _ _ lend_int (.cons _ _ _ _ lend_int .nil)))) ?_
  rintro v rfl
  exact h
theorem lend_dl {m : Mem} {B : List Nat} {d : Dl} {sl co sl' co' : AV} (h1 : Lend (fun _ => none) B m sl sl') (h2 : Lend (fun _ => none) B m co co') (j : Nat) : Lend (fun _ => none) B m ((dlL d sl co).getD j .un) ((dlL d sl' co').getD j .un) := by
  by_cases hj : j < 26
  · have : j = 0 ∨ j = 1 ∨ j = 2 ∨ j = 3 ∨ j = 4 ∨ j = 5 ∨ j = 6 ∨ j = 7 ∨ j = 8 ∨ j = 9 ∨ j = 10 ∨ j = 11 ∨ j = 12 ∨ j = 13 ∨ j = 14 ∨ j = 15 ∨ j = 16 ∨ j = 17 ∨ j = 18 ∨ j = 19 ∨ j = 20 ∨ j = 21 ∨ j = 22 ∨ j = 23 ∨ j = 24 ∨ j = 25 := by omega
    rcases this with rfl | rfl | rfl | rfl | rfl | rfl | rfl | rfl | rfl | rfl | rfl | rfl | rfl | rfl | rfl | rfl | rfl | rfl | rfl | rfl | rfl | rfl | rfl | rfl | rfl | rfl
    all_goals first
      | exact h1
      | exact h2
      | exact .rv _ _ (.eq _ _ rfl (.int _ _))
      | exact .rv _ _ (.eq _ _ rfl (.bool _))
      | exact .rv _ _ (.eq _ _ rfl (.str _))
  · rw [List.getD_eq_getElem?_getD, List.getElem?_eq_none (by show 26 ≤ j; omega), List.getD_eq_getElem?_getD, List.getElem?_eq_none (by show 26 ≤ j; omega)]
    exact .rv _ _ (.un _)
theorem ShowsD.one {m : Mem} {l cap N : Nat} {g : Nat → Nat → AV} {d : Dl} (h : m[l]? = some (some ⟨26, N, g⟩)) (hN : 1 ≤ N) (h1 : d.ns = 0) (h2 : d.nc = 0) {ls : List AV} (hls : dlL d .nils .nils = ls) (hg : ∀ j, j < 26 → g 0 j = ls.getD j .un) : ShowsD m (.sl l 0 1 cap) 1 (fun _ => d) := by
  refine ⟨cap, fun _ => 0, fun _ => 0, .slR l 0 1 cap ⟨26, N, g⟩ _ (List.mem_range.2 (lt_of_get h)) h hN (fun i j hi hj => ?_)⟩
  obtain rfl : i = 0 := by omega
  rw [show (Blk.mk 26 N g).get (0 + 0) j = g 0 j from rfl, hg j hj, ← hls]
  unfold dlG
  rw [h1, h2]
  exact lend_dl (.nils _ _) (.nils _ _) j
theorem all26 {p : Nat → Prop} (h : p 0 ∧ p 1 ∧ p 2 ∧ p 3 ∧ p 4 ∧ p 5 ∧ p 6 ∧ p 7 ∧ p 8 ∧ p 9 ∧ p 10 ∧ p 11 ∧ p 12 ∧ p 13 ∧ p 14 ∧ p 15 ∧ p 16 ∧ p 17 ∧ p 18 ∧ p 19 ∧ p 20 ∧ p 21 ∧ p 22 ∧ p 23 ∧ p 24 ∧ p 25) : ∀ j, j < 26 → p j := fun j hj => by
  have : j = 0 ∨ j = 1 ∨ j = 2 ∨ j = 3 ∨ j = 4 ∨ j = 5 ∨ j = 6 ∨ j = 7 ∨ j = 8 ∨ j = 9 ∨ j = 10 ∨ j = 11 ∨ j = 12 ∨ j = 13 ∨ j = 14 ∨ j = 15 ∨ j = 16 ∨ j = 17 ∨ j = 18 ∨ j = 19 ∨ j = 20 ∨ j = 21 ∨ j = 22 ∨ j = 23 ∨ j = 24 ∨ j = 25 := by omega
  rcases this with rfl | rfl | rfl | rfl | rfl | rfl | rfl | rfl | rfl | rfl | rfl | rfl | rfl | rfl | rfl | rfl | rfl | rfl | rfl | rfl | rfl | rfl | rfl | rfl | rfl | rfl
  all_goals simp [h]
abbrev zD : Dl := ⟨0, false, 0, 0, nB, 0, false, 0, fun _ _ => 0, 0, fun _ => false, fun _ => 0, fun _ => 0, false, false, false, 0, 0⟩
/-- A dealer of whom only the key is told. -/
abbrev keyD (P : Pt Fp) : Dl := ⟨0, isI P, xN P, yN P, nB, 0, false, 0, fun _ _ => 0, 0, fun _ => false, fun _ => 0, fun _ => 0, false, false, false, 0, 0⟩
theorem keyL (P : Pt Fp) : dlL (keyD P) .nils .nils = [.int .i64 0, .bool (isI P), .int .u64 (lim (xN P) 0), .int .u64 (lim (xN P) 1), .int .u64 (lim (xN P) 2), .int .u64 (lim (xN P) 3), .int .u64 (lim (yN P) 0), .int .u64 (lim (yN P) 1), .int .u64 (lim (yN P) 2), .int .u64 (lim (yN P) 3), .str nB, .int .i64 0, .bool false, .nils, .nils, .bool false, .bool false, .bool false, .int .u64 0, .int .u64 0, .int .u64 0, .int .u64 0, .int .u64 0, .int .u64 0, .int .u64 0, .int .u64 0] := by
  simp only [dlL, lim_zero]
theorem zeroL : dlL zD .nils .nils = [.int .i64 0, .bool false, .int .u64 0, .int .u64 0, .int .u64 0, .int .u64 0, .int .u64 0, .int .u64 0, .int .u64 0, .int .u64 0, .str nB, .int .i64 0, .bool false, .nils, .nils, .bool false, .bool false, .bool false, .int .u64 0, .int .u64 0, .int .u64 0, .int .u64 0, .int .u64 0, .int .u64 0, .int .u64 0, .int .u64 0] := by
  simp only [dlL, lim_zero]
theorem S_FAddE {m : Mem} {K : AV → Mem → Prop} {v w : AV} {a b : Nat} (hv : v = numA a) (hw : w = numA b) (ha : a < w256) (hb : b < w256) (h : ∀ r, r = (a + b) % nN → K (numA r) m) : ACall Pg F_field_Add [.int .i64 1, v, w] m K := by
  subst hv hw; exact S_FAdd_1 ha hb h
theorem S_FinalN {m : Mem} {x z : AV} {K : AV → Mem → Prop} {n : Nat} {f : Nat → Int} {d : Dl} (hx : Shows m x n f) (hz : ShowsD m z 1 (fun _ => d)) (hbd : d.bd = false) (hn : n ≤ 16384) (hf : ∀ i, i < n → 0 ≤ f i ∧ f i ≤ 255) (h : ∀ w, K (.tup [numA w, .int .i64 0]) m) : ACall Pg F_deal_Final [x, .int .i64 1, z, .int .i64 1] m K := by
  have h0 : ∀ cap c1 d1 d2, ACall Pg F_deal_Final [.vsl 1 n cap (bytesG f), .int .i64 1, .vsl 26 1 c1 (dlG (fun _ => d) d1 d2), .int .i64 1] [] (fun v _ => (∃ w, v = .tup [numA w, .int .i64 0]) ∧ Flat true v) := fun cap c1 d1 d2 => by
    refine B_deal_Final ⟨rfl, ?_⟩
    conv => whnf
    repeat (refine ⟨⟨_, rfl⟩, ?_⟩; conv => whnf)
    refine S_Poly (n := n) (t := 1) (f := f) Shows.vsl hn (by decide) hf (fun c cc hc hcN _ => ?_)
    clear hc
    conv => whnf
    repeat (refine ⟨⟨_, rfl⟩, ?_⟩; conv => whnf)
    refine S_dnum (n := 1) (D := fun _ => d) (i := 1) ShowsD.vsl (fun b hb => ?_)
    have hb : b = true := by rw [hb]; rfl
    subst hb
    conv => whnf
    repeat (refine ⟨⟨_, rfl⟩, ?_⟩; conv => whnf)
    refine loop_rounds mixed 2 ?_
    conv => whnf
    repeat (refine ⟨⟨_, rfl⟩, ?_⟩; conv => whnf)
    refine S_place (i := 1) (by decide) ?_
    conv => whnf
    repeat (refine ⟨⟨_, rfl⟩, ?_⟩; conv => whnf)
    refine S_Eval (n := 1 + 1) (x := 1) (c := c) (ShowsG.sl rfl (by omega) (fun i j _ _ => ⟨by rw [Nat.zero_add], flat_numsG⟩)) (by decide) (fun i _ => Nat.lt_trans (hcN i) (by decide)) (by omega) (fun z hz hz1 => ?_)
    conv => whnf
    repeat (refine ⟨⟨_, rfl⟩, ?_⟩; conv => whnf)
    refine condB_no (Eq.trans (b := d.bd) rfl hbd) ?_
    conv => whnf
    repeat (refine ⟨⟨_, rfl⟩, ?_⟩; conv => whnf)
    refine S_FAddE (a := 0) (b := z) rfl rfl (by decide) hz1 (fun w hw => ?_)
    clear hw
    conv => whnf
    repeat (refine ⟨⟨_, rfl⟩, ?_⟩; conv => whnf)
    show Flat true (.tup [numA w, .int .i64 0])
    exact flat_ne1
  obtain ⟨cap, hl⟩ := hx
  obtain ⟨c1, d1, d2, hl2⟩ := hz
  refine lift_flat (h0 cap c1 d1 d2) (.cons _ _ _ _ hl (.cons _ _ _ _ lend_int (.cons _ _ _ _ hl2 (.cons _ _ _ _ lend_int .nil)))) ?_
  rintro v ⟨w, rfl⟩
  exact h w
theorem S_FinalL {m : Mem} {x z : AV} {K : AV → Mem → Prop} {n : Nat} {f : Nat → Int} {D : Nat → Dl} {r : Nat} {t me : Int} (hx : Shows m x n f) (hz : ShowsD m z r D) (hn : 16384 < n) (h : K (.tup [numA 0, .int .i64 4]) m) : ACall Pg F_deal_Final [x, .int .i64 t, z, .int .i64 me] m K := by
  have h0 : ∀ cap c1 d1 d2, ACall Pg F_deal_Final [.vsl 1 n cap (bytesG f), .int .i64 t, .vsl 26 r c1 (dlG D d1 d2), .int .i64 me] [] (fun v _ => v = .tup [numA 0, .int .i64 4] ∧ Flat true v) := fun cap c1 d1 d2 => by
    refine B_deal_Final ⟨rfl, ?_⟩
    conv => whnf
    repeat (refine ⟨⟨_, rfl⟩, ?_⟩; conv => whnf)
    refine S_Poly_long (n := n) (f := f) Shows.vsl hn (fun cap g => ?_)
    conv => whnf
    repeat (refine ⟨⟨_, rfl⟩, ?_⟩; conv => whnf)
    refine ⟨rfl, ?_⟩
    show Flat true (.tup [numA 0, .int .i64 4])
    exact flat_ne1
  obtain ⟨cap, hl⟩ := hx
  obtain ⟨c1, d1, d2, hl2⟩ := hz
  refine lift_flat (h0 cap c1 d1 d2) (.cons _ _ _ _ hl (.cons _ _ _ _ lend_int (.cons _ _ _ _ hl2 (.cons _ _ _ _ lend_int .nil)))) ?_
  rintro v rfl
  exact h
theorem mod2 (x : Int) : IntKind.i64.wrap ((IntKind.u64.wrap x).tmod 2) = 0 ∨ IntKind.i64.wrap ((IntKind.u64.wrap x).tmod 2) = 1 := by
  obtain ⟨u, hu⟩ : ∃ u : Nat, IntKind.u64.wrap x = u := ⟨(IntKind.u64.wrap x).toNat, by rw [wu64]; omega⟩
  rw [hu, show (2 : Int) = ((2 : Nat) : Int) from rfl, tmod_nn, w64 (by omega) (by omega)]
  omega
theorem S_DealLong (x : Int) : ACall Pg F_witanlaw21_DealLong [.int .i64 x] [] (fun v _ => v = .bool true) := by
  refine B_witanlaw21_DealLong ⟨rfl, ?_⟩
  conv => whnf
  repeat (refine ⟨⟨_, rfl⟩, ?_⟩; conv => whnf)
  rcases mod2 x with e | e
  · rw [e]
    conv => whnf
    repeat (refine ⟨⟨_, rfl⟩, ?_⟩; conv => whnf)
    generalize hN : (IntKind.i64.wrap (16384 + 0)).toNat = N
    have hN2 : N = 16384 := by rw [← hN]; decide
    clear hN
    have hf : ∀ i, i < N → 0 ≤ (fun _ => 0 : Nat → Int) i ∧ (fun _ => 0 : Nat → Int) i ≤ 255 := fun _ _ => ⟨Int.le_refl _, by show (0 : Int) ≤ 255; decide⟩
    refine S_Secret (n := N) (f := fun _ => 0) (Shows.slG rfl (Nat.le_of_eq (Nat.zero_add _)) (fun j hj => rfl)) (by omega) hf (fun _ a ha ha1 ha0 => ?_) (fun h => absurd h (by omega))
    clear ha
    conv => whnf
    repeat (refine ⟨⟨_, rfl⟩, ?_⟩; conv => whnf)
    refine S_Poly (n := N) (t := 1) (f := fun _ => 0) (Shows.slG rfl (Nat.le_of_eq (Nat.zero_add _)) (fun j hj => rfl)) (by omega) (by decide) hf (fun c cc hc hcN _ => ?_)
    clear hc
    conv => whnf
    repeat (refine ⟨⟨_, rfl⟩, ?_⟩; conv => whnf)
    refine S_Register (n := N) (f := fun _ => 0) (s := ⟨#[120]⟩) (Shows.slG rfl (Nat.le_of_eq (Nat.zero_add _)) (fun j hj => rfl)) (by omega) (by decide) hf (fun _ _ R u hu oR hR => ?_) (fun _ h => absurd h (by rw [lab_x]; decide)) (fun h => absurd h (by omega))
    clear hR
    conv => whnf
    repeat (refine ⟨⟨_, rfl⟩, ?_⟩; conv => whnf)
    refine T_Base (n := 1) (by decide) (fun P oP hP => ?_)
    clear hP
    conv => whnf
    repeat (refine ⟨⟨_, rfl⟩, ?_⟩; conv => whnf)
    refine S_Post (n := N) (t := 1) (f := fun _ => 0) (r := 1) (D := fun _ => keyD P) (me := 1) (Shows.slG rfl (Nat.le_of_eq (Nat.zero_add _)) (fun j hj => rfl)) (ShowsD.one rfl (by decide) rfl rfl (keyL P) (fun j hj => ?_)) (by omega) (by decide) hf (by decide) (by decide) (fun k hk => ?_) (fun S Q k1 k2 hS hQ => ?_)
    rotate_left
    · have e9 : ptOf (keyD P) = P := ptOf_eq oP rfl
      dsimp only
      rw [e9]
      exact ⟨oP, rfl, xN_w P, yN_w P⟩
    · clear hS hQ
      conv => whnf
      repeat (refine ⟨⟨_, rfl⟩, ?_⟩; conv => whnf)
      refine S_ShareN (n := N) (f := fun _ => 0) (Shows.slG rfl (Nat.le_of_eq (Nat.zero_add _)) (fun j hj => rfl)) (by omega) hf ?_
      rw [if_pos (by omega)]
      conv => whnf
      repeat (refine ⟨⟨_, rfl⟩, ?_⟩; conv => whnf)
      refine S_DisputeN (n := N) (f := fun _ => 0) (Shows.slG rfl (Nat.le_of_eq (Nat.zero_add _)) (fun j hj => rfl)) (by omega) hf ?_
      rw [if_pos (by omega)]
      conv => whnf
      repeat (refine ⟨⟨_, rfl⟩, ?_⟩; conv => whnf)
      refine S_Submit (n := N) (f := fun _ => 0) (Shows.slG rfl (Nat.le_of_eq (Nat.zero_add _)) (fun j hj => rfl)) (by omega) hf (fun _ B b1 b2 oB hB hb1 hb2 _ _ => ?_) (fun h => absurd h (by omega))
      clear hB hb1 hb2
      conv => whnf
      repeat (refine ⟨⟨_, rfl⟩, ?_⟩; conv => whnf)
      refine S_FinalN (n := N) (f := fun _ => 0) (d := zD) (Shows.slG rfl (Nat.le_of_eq (Nat.zero_add _)) (fun j hj => rfl)) (ShowsD.one rfl (by decide) rfl rfl zeroL (fun j hj => ?_)) rfl (by omega) hf (fun w => ?_)
      · have : j = 0 ∨ j = 1 ∨ j = 2 ∨ j = 3 ∨ j = 4 ∨ j = 5 ∨ j = 6 ∨ j = 7 ∨ j = 8 ∨ j = 9 ∨ j = 10 ∨ j = 11 ∨ j = 12 ∨ j = 13 ∨ j = 14 ∨ j = 15 ∨ j = 16 ∨ j = 17 ∨ j = 18 ∨ j = 19 ∨ j = 20 ∨ j = 21 ∨ j = 22 ∨ j = 23 ∨ j = 24 ∨ j = 25 := by omega
        rcases this with rfl | rfl | rfl | rfl | rfl | rfl | rfl | rfl | rfl | rfl | rfl | rfl | rfl | rfl | rfl | rfl | rfl | rfl | rfl | rfl | rfl | rfl | rfl | rfl | rfl | rfl
        all_goals rfl
      conv => whnf
      repeat (refine ⟨⟨_, rfl⟩, ?_⟩; conv => whnf)
      refine S_wakes21 ?_
      conv => whnf
      repeat (refine ⟨⟨_, rfl⟩, ?_⟩; conv => whnf)
    have : j = 0 ∨ j = 1 ∨ j = 2 ∨ j = 3 ∨ j = 4 ∨ j = 5 ∨ j = 6 ∨ j = 7 ∨ j = 8 ∨ j = 9 ∨ j = 10 ∨ j = 11 ∨ j = 12 ∨ j = 13 ∨ j = 14 ∨ j = 15 ∨ j = 16 ∨ j = 17 ∨ j = 18 ∨ j = 19 ∨ j = 20 ∨ j = 21 ∨ j = 22 ∨ j = 23 ∨ j = 24 ∨ j = 25 := by omega
    rcases this with rfl | rfl | rfl | rfl | rfl | rfl | rfl | rfl | rfl | rfl | rfl | rfl | rfl | rfl | rfl | rfl | rfl | rfl | rfl | rfl | rfl | rfl | rfl | rfl | rfl | rfl
    all_goals rfl
  · rw [e]
    conv => whnf
    repeat (refine ⟨⟨_, rfl⟩, ?_⟩; conv => whnf)
    generalize hN : (IntKind.i64.wrap (16384 + 1)).toNat = N
    have hN2 : N = 16385 := by rw [← hN]; decide
    clear hN
    have hf : ∀ i, i < N → 0 ≤ (fun _ => 0 : Nat → Int) i ∧ (fun _ => 0 : Nat → Int) i ≤ 255 := fun _ _ => ⟨Int.le_refl _, by show (0 : Int) ≤ 255; decide⟩
    refine S_Secret (n := N) (f := fun _ => 0) (Shows.slG rfl (Nat.le_of_eq (Nat.zero_add _)) (fun j hj => rfl)) (by omega) hf (fun h => absurd h (by omega)) (fun _ => ?_)
    conv => whnf
    repeat (refine ⟨⟨_, rfl⟩, ?_⟩; conv => whnf)
    refine S_Poly_long (n := N) (f := fun _ => 0) (Shows.slG rfl (Nat.le_of_eq (Nat.zero_add _)) (fun j hj => rfl)) (by omega) (fun c1 g1 => ?_)
    conv => whnf
    repeat (refine ⟨⟨_, rfl⟩, ?_⟩; conv => whnf)
    refine S_Register (n := N) (f := fun _ => 0) (s := ⟨#[120]⟩) (Shows.slG rfl (Nat.le_of_eq (Nat.zero_add _)) (fun j hj => rfl)) (by omega) (by decide) hf (fun h => absurd h (by omega)) (fun h => absurd h (by omega)) (fun _ => ?_)
    conv => whnf
    repeat (refine ⟨⟨_, rfl⟩, ?_⟩; conv => whnf)
    refine T_Base (n := 1) (by decide) (fun P oP hP => ?_)
    clear hP
    conv => whnf
    repeat (refine ⟨⟨_, rfl⟩, ?_⟩; conv => whnf)
    refine S_Post_long (n := N) (f := fun _ => 0) (r := 1) (D := fun _ => keyD P) (Shows.slG rfl (Nat.le_of_eq (Nat.zero_add _)) (fun j hj => rfl)) (ShowsD.one rfl (by decide) rfl rfl (keyL P) (fun j hj => ?_)) (by omega) ?_
    · have : j = 0 ∨ j = 1 ∨ j = 2 ∨ j = 3 ∨ j = 4 ∨ j = 5 ∨ j = 6 ∨ j = 7 ∨ j = 8 ∨ j = 9 ∨ j = 10 ∨ j = 11 ∨ j = 12 ∨ j = 13 ∨ j = 14 ∨ j = 15 ∨ j = 16 ∨ j = 17 ∨ j = 18 ∨ j = 19 ∨ j = 20 ∨ j = 21 ∨ j = 22 ∨ j = 23 ∨ j = 24 ∨ j = 25 := by omega
      rcases this with rfl | rfl | rfl | rfl | rfl | rfl | rfl | rfl | rfl | rfl | rfl | rfl | rfl | rfl | rfl | rfl | rfl | rfl | rfl | rfl | rfl | rfl | rfl | rfl | rfl | rfl
      all_goals rfl
    conv => whnf
    repeat (refine ⟨⟨_, rfl⟩, ?_⟩; conv => whnf)
    refine S_ShareN (n := N) (f := fun _ => 0) (Shows.slG rfl (Nat.le_of_eq (Nat.zero_add _)) (fun j hj => rfl)) (by omega) hf ?_
    rw [if_neg (by omega)]
    conv => whnf
    repeat (refine ⟨⟨_, rfl⟩, ?_⟩; conv => whnf)
    refine S_DisputeN (n := N) (f := fun _ => 0) (Shows.slG rfl (Nat.le_of_eq (Nat.zero_add _)) (fun j hj => rfl)) (by omega) hf ?_
    rw [if_neg (by omega)]
    conv => whnf
    repeat (refine ⟨⟨_, rfl⟩, ?_⟩; conv => whnf)
    refine S_Submit (n := N) (f := fun _ => 0) (Shows.slG rfl (Nat.le_of_eq (Nat.zero_add _)) (fun j hj => rfl)) (by omega) hf (fun h => absurd h (by omega)) (fun _ => ?_)
    conv => whnf
    repeat (refine ⟨⟨_, rfl⟩, ?_⟩; conv => whnf)
    refine S_FinalL (n := N) (f := fun _ => 0) (r := 1) (D := fun _ => zD) (Shows.slG rfl (Nat.le_of_eq (Nat.zero_add _)) (fun j hj => rfl)) (ShowsD.one rfl (by decide) rfl rfl zeroL (fun j hj => ?_)) (by omega) ?_
    · have : j = 0 ∨ j = 1 ∨ j = 2 ∨ j = 3 ∨ j = 4 ∨ j = 5 ∨ j = 6 ∨ j = 7 ∨ j = 8 ∨ j = 9 ∨ j = 10 ∨ j = 11 ∨ j = 12 ∨ j = 13 ∨ j = 14 ∨ j = 15 ∨ j = 16 ∨ j = 17 ∨ j = 18 ∨ j = 19 ∨ j = 20 ∨ j = 21 ∨ j = 22 ∨ j = 23 ∨ j = 24 ∨ j = 25 := by omega
      rcases this with rfl | rfl | rfl | rfl | rfl | rfl | rfl | rfl | rfl | rfl | rfl | rfl | rfl | rfl | rfl | rfl | rfl | rfl | rfl | rfl | rfl | rfl | rfl | rfl | rfl | rfl
      all_goals rfl
    conv => whnf
    repeat (refine ⟨⟨_, rfl⟩, ?_⟩; conv => whnf)
    refine loop_rounds mixed 9 ?_
    conv => whnf
    repeat (refine ⟨⟨_, rfl⟩, ?_⟩; conv => whnf)
    refine S_wakes21 ?_
    conv => whnf
    repeat (refine ⟨⟨_, rfl⟩, ?_⟩; conv => whnf)
theorem S_row_DealLong (avs : List AV) (h : okVs [.int .i64] avs) : ∃ avs', Retold avs avs' ∧ ACall Pg F_witanlaw21_DealLong avs' [] (fun x _ => x = .bool true) := by
  obtain ⟨p, _, rfl, h1, rfl⟩ := h
  obtain ⟨x, rfl, _, _⟩ := ok_int h1
  exact ⟨_, .cons (Retold1.refl _) .nil, S_DealLong x⟩
end Go.Proofs.Ytfolpdmbpbbimaa
end

section
/- The law DealLong answers true for all that it may be handed: its row; no condition. -/
namespace Go.Proofs.Ytfolpdmbpbbimaa.dealLong
open Go.ChangeShapes Go.WideShapes Go.ChangeAt Go.RowKit Go.Wit
set_option linter.unusedVariables false
theorem own : ownKnob Try.prog.godebug = none := by kernel_rfl
theorem laid : laidOutB Try.prog = true := by kernel_rfl
set_option maxRecDepth 100000 in
theorem lifted (os : Os) (started : os.Started) (H : Type) (enc : TypeId × Value → H) :
    ReturnsInHanded {} Try.checked os 10 .any (Rows.dealLongSpec.pre6 enc Try.prog Try.f10 Rows.dealLongRow.domain false) (Rows.dealLongSpec.post enc Try.prog Try.f10 false true false false) := by
  refine returnsInHanded_of_change_sized (C := Try.checked) own started (by kernel_rfl) Try.func10
    (ChangeSpec.witness6 (enc := enc) (C := Try.checked) false ⟨#[], #[.int .i64 0], []⟩ 12 (by kernel_rfl) (by kernel_rfl) (by kernel_rfl) (by kernel_rfl)) ?_
  intro W base args ds gs before hval0 hW hcnd hsz0 _
  have hval : ∀ (j : Nat) t v, Try.f10.params[j]? = some t → args[j]? = some v → Value.okWide Try.prog W .any base t v := hval0
  have hW' := hW
  obtain ⟨p, q, hA0, hV, rfl, hfz, hnd⟩ := hW
  have hA : DataW.TrodAll enc Try.prog W 0 (fun _ => true) true Try.f10.params.toList args.toList ds p := hA0
  obtain ⟨rfl, rfl⟩ := trodVars_none hV
  have l0 : ds.length = 1 := trod_len hA
  obtain ⟨d1, ds1, rfl, l1⟩ := cons_of_len l0
  obtain rfl := nil_of_len l1
  refine (law_open (tys := [.int .i64]) (by kernel_rfl) (fun j t v h1 h2 => hval j t v (by simpa using h1) (by simpa using h2)) hA S_row_DealLong).mono fun e W' ⟨he, bel⟩ => ?_
  subst he
  exact ⟨_, rfl, _, _, _, [], _, [], hW', trodAll_mk1 (shut_bool Try.underlying4 _), shut_vals laid bel (by kernel_rfl) hA, rfl, bel.frame _, fun h => by cases h⟩
theorem over : Rows.dealLongRow.holds Try.pinned (OpenSpec.ofChange Rows.dealLongSpec) :=
  OpenClaim.holds_of_wide 10 Try.f10 rfl rfl rfl rfl rfl rfl rfl ⟨rfl, rfl, rfl, rfl, rfl⟩ rfl rfl rfl rfl rfl (by kernel_rfl) Try.func10 (by kernel_rfl)
    (of_decide_eq_true (by kernel_rfl)) (by unfold Func.isWrapper; first | (rw [if_pos (by decide +kernel)]; kernel_rfl) | (rw [if_neg (by decide +kernel)]; exact ⟨rfl, rfl⟩))
    (fun os started H enc _ => lifted os started H enc)
theorem proved : Rows.DealLongSaid := over
#print axioms proved
end Go.Proofs.Ytfolpdmbpbbimaa.dealLong
namespace Go.Proofs.Ytfolpdmbpbbimaa
/-- The row, under a short name, for the claim. -/
theorem dealLong_holds : Rows.DealLongSaid := dealLong.proved
end Go.Proofs.Ytfolpdmbpbbimaa
end

