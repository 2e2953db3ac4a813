/- Texts of a proof, one behind the other; the last of these: The law DealSecrets answers true for all that it may be handed: its row; no condition. -/
import Derived.Test.YtfolpdmbpbbimaaZ7
import Derived.Test.YtfolpdmbpbbimaaRows
import Derived.WalkKit
import Derived.ProofKit
import Derived.OpenShut
import Derived.ShutString
import Derived.ChangeOld
import Derived.Below
import Derived.SizedLaws
section
/- DealSecrets; no condition. -/
set_option linter.unusedVariables false
set_option linter.unusedSimpArgs false
set_option maxRecDepth 100000
set_option pp.maxSteps 6000
set_option pp.deepTerms false
set_option pp.deepTerms.threshold 7
namespace Go.Proofs.Ytfolpdmbpbbimaa
open Go Go.Wit

theorem mod6 (x : Int) : ∃ A : Nat, IntKind.i64.wrap ((IntKind.u64.wrap x).tmod 6) = (A : Int) ∧ A < 6 := by
  obtain ⟨u, hu⟩ : ∃ u : Nat, IntKind.u64.wrap x = u := ⟨(IntKind.u64.wrap x).toNat, by rw [wu64]; omega⟩
  refine ⟨u % 6, ?_, Nat.mod_lt _ (by decide)⟩
  rw [hu, show (6 : Int) = ((6 : Nat) : Int) from rfl, tmod_nn, w64 (by omega) (by omega)]
theorem num_blk {nv : Bool} {σ : Nat → Option Nat} {s i j : Nat} {A : AV} (hi : i < 4) (hj : j < 1) (hA : A = lstG 1 (numL s) i j) : RV nv σ A (lstG 1 (numL s) i j) :=
  RV.of hA (by unfold lstG; exact flat_numG)
theorem num_at1 {c : Nat → Nat} {n e i : Nat} (h : e = i) : AV.agg (List.map (cellG ⟨4, n, fun i j => fl1 (numsG c i j)⟩ e 0) (List.range 4)) = numA (c i) := by subst h; rfl
theorem eqZ_no {a : Nat} (h : a ≠ 0) (ha : a < w256) : eqZ a = false := by rw [eqZ_iff ha]; exact decide_eq_false h
theorem S_DealSecrets (n cap : Nat) (f : Nat → Int) (x y : Int) (hf : ∀ i, i < n → 0 ≤ f i ∧ f i ≤ 255) :
    ACall Pg F_witanlaw21_DealSecrets [.vsl 1 n cap (bytesG f), .int .i64 x, .int .i64 y] [] (fun v _ => v = .bool true) := by
  obtain ⟨t, et, ht⟩ := mod6 x
  obtain ⟨u, eu, hu⟩ := mod6 y
  refine B_witanlaw21_DealSecrets ⟨rfl, ?_⟩
  conv => whnf
  repeat (refine ⟨⟨_, rfl⟩, ?_⟩; conv => whnf)
  rw [et, eu]
  refine condB_mk (fun hn => ?_) (fun hn => ?_)
  · conv => whnf
    repeat (refine ⟨⟨_, rfl⟩, ?_⟩; conv => whnf)
  have hn : n ≤ 100 := by simp at hn; omega
  conv => whnf
  repeat (refine ⟨⟨_, rfl⟩, ?_⟩; conv => whnf)
  refine S_Secret (n := n) (f := f) Shows.vsl (by omega) hf (fun _ s hs hs1 hs0 => ?_) (fun h => absurd h (by omega))
  clear hs
  conv => whnf
  repeat (refine ⟨⟨_, rfl⟩, ?_⟩; conv => whnf)
  refine S_Poly (n := n) (t := t) (f := f) Shows.vsl (by omega) (by omega) hf (fun c c1 hc hc1 hc0 => ?_)
  conv => whnf
  repeat (refine ⟨⟨_, rfl⟩, ?_⟩; conv => whnf)
  refine S_Poly (n := n) (t := u) (f := f) Shows.vsl (by omega) (by omega) hf (fun d c2 hd _ _ => ?_)
  obtain rfl : c = d := hc.trans hd.symm
  clear hc hd
  conv => whnf
  repeat (refine ⟨⟨_, rfl⟩, ?_⟩; conv => whnf)
  have e1 : IntKind.i64.wrap ((t : Int) + 1) = ((t + 1 : Nat) : Int) := by rw [w64 (by omega) (by omega)]; omega
  have e2 : IntKind.i64.wrap ((u : Int) + 1) = ((u + 1 : Nat) : Int) := by rw [w64 (by omega) (by omega)]; omega
  refine condB_yes (by rw [e1]; simp) ?_
  conv => whnf
  repeat (refine ⟨⟨_, rfl⟩, ?_⟩; conv => whnf)
  refine condB_no (by rw [e2]; simp) ?_
  conv => whnf
  repeat (refine ⟨⟨_, rfl⟩, ?_⟩; conv => whnf)
  refine S_Prime_1 (fun p hp => ?_)
  conv => whnf
  repeat (refine ⟨⟨_, rfl⟩, ?_⟩; conv => whnf)
  obtain ⟨k, hk, hkt, hku⟩ : ∃ k : Nat, IntKind.i64.wrap ((if (u : Int) < (t : Int) then (u : Int) else (t : Int)) + 1) = (k : Int) ∧ k ≤ t + 1 ∧ k ≤ u + 1 := by
    by_cases h : (u : Int) < (t : Int)
    · exact ⟨u + 1, by rw [if_pos h, e2], by omega, by omega⟩
    · exact ⟨t + 1, by rw [if_neg h, e1], by omega, by omega⟩
  refine loop_wk mixed (I := fun q l m => ∃ (i : Nat), l = [(7, .ptr 0 0 0), (9, .sl 1 0 (t + 1) c1), (11, .sl 2 0 (u + 1) c2), (13, .ptr 3 0 0), (14, .int .i64 k), (15, .int .i64 i)] ∧ m = [some ⟨1, 4, lstG 1 (numL s)⟩, some ⟨4, t + 1, numsG c⟩, some ⟨4, u + 1, numsG c⟩, some ⟨1, 4, lstG 1 (numL p)⟩] ∧ q + i = t + 1) (t + 1)
    (l0 := [(7, .ptr 0 0 0), (9, .sl 1 0 (t + 1) c1), (11, .sl 2 0 (u + 1) c2), (13, .ptr 3 0 0), (14, .int .i64 k), (15, .int .i64 (0 : Nat))]) (m0 := [some ⟨1, 4, lstG 1 (numL s)⟩, some ⟨4, t + 1, numsG c⟩, some ⟨4, u + 1, numsG c⟩, some ⟨1, 4, lstG 1 (numL p)⟩]) [some 0, some 1, some 2, some 3] ⟨0, rfl, rfl, by omega⟩ ?_ ?_
  · exact .mk0 ⟨.ptr _ _ _ _ rfl, .sl _ _ _ _ _ rfl, .sl _ _ _ _ _ rfl, .ptr _ _ _ _ rfl, Flat.i hk, Flat.i rfl, trivial⟩ ⟨.old 0 0 _ _ rfl rfl ⟨rfl, Nat.le_refl _, fun i j hi hj => num_blk hi hj rfl⟩, .old 1 1 _ _ rfl rfl ⟨rfl, Nat.le_refl _, fun i j hi hj => RV.of rfl flat_numsG⟩, .old 2 2 _ _ rfl rfl ⟨rfl, Nat.le_refl _, fun i j hi hj => RV.of rfl flat_numsG⟩, .old 3 3 _ _ rfl rfl ⟨rfl, Nat.le_refl _, fun i j hi hj => num_blk hi hj rfl⟩, trivial⟩ rfl rfl
  · rintro q l m ⟨i, rfl, rfl, hq⟩
    conv => whnf
    repeat (refine ⟨⟨_, rfl⟩, ?_⟩; conv => whnf)
    refine condB_mk (fun hb => ?_) (fun hb => ?_)
    · have hb : i < t + 1 := by simp at hb; omega
      conv => whnf
      repeat (refine ⟨⟨_, rfl⟩, ?_⟩; conv => whnf)
      refine condB_ok (by simp; omega) ?_
      conv => whnf
      repeat (refine ⟨⟨_, rfl⟩, ?_⟩; conv => whnf)
      refine condB_ok (by simp [roomG, Nat.ble_eq]; omega) ?_
      conv => whnf
      repeat (refine ⟨⟨_, rfl⟩, ?_⟩; conv => whnf)
      refine S_LCmpE (a := c i) (b := p) (num_at1 (by simp)) rfl (Nat.lt_trans (hc1 i) (by decide)) (by rw [hp]; decide) (fun z hz => ?_)
      conv => whnf
      repeat (refine ⟨⟨_, rfl⟩, ?_⟩; conv => whnf)
      refine condB_no (by rw [hz]; unfold cmpZ; rw [if_pos (by rw [hp]; exact hc1 i)]; rfl) ?_
      conv => whnf
      repeat (refine ⟨⟨_, rfl⟩, ?_⟩; conv => whnf)
      have e5 : IntKind.i64.wrap ((i : Int) + 1) = ((i + 1 : Nat) : Int) := by rw [w64 (by omega) (by omega)]; omega
      refine ⟨q - 1, [(7, .ptr 0 0 0), (9, .sl 1 0 (t + 1) c1), (11, .sl 2 0 (u + 1) c2), (13, .ptr 3 0 0), (14, .int .i64 k), (15, .int .i64 ((i + 1 : Nat) : Int))], [some ⟨1, 4, lstG 1 (numL s)⟩, some ⟨4, t + 1, numsG c⟩, some ⟨4, u + 1, numsG c⟩, some ⟨1, 4, lstG 1 (numL p)⟩], [some 0, some 1, some 2, some 3], by omega, ⟨i + 1, rfl, rfl, by omega⟩, ?_⟩
      exact .mk0 ⟨.ptr _ _ _ _ rfl, .sl _ _ _ _ _ rfl, .sl _ _ _ _ _ rfl, .ptr _ _ _ _ rfl, Flat.i rfl, Flat.i e5, trivial⟩ ⟨.old 0 0 _ _ rfl rfl ⟨rfl, Nat.le_refl _, fun i j hi hj => num_blk hi hj rfl⟩, .old 1 1 _ _ rfl rfl ⟨rfl, Nat.le_refl _, fun i j hi hj => RV.of rfl flat_numsG⟩, .old 2 2 _ _ rfl rfl ⟨rfl, Nat.le_refl _, fun i j hi hj => RV.of rfl flat_numsG⟩, .old 3 3 _ _ rfl rfl ⟨rfl, Nat.le_refl _, fun i j hi hj => num_blk hi hj rfl⟩, trivial⟩ rfl rfl
    · have hb : i = t + 1 := by simp at hb; omega
      subst hb
      conv => whnf
      repeat (refine ⟨⟨_, rfl⟩, ?_⟩; conv => whnf)
      refine condB_yes (by show ((bif true then !(eqZ s) else eqZ s) == true) = true; rw [eqZ_no hs0 (Nat.lt_trans hs1 (by decide))]; rfl) ?_
      conv => whnf
      repeat (refine ⟨⟨_, rfl⟩, ?_⟩; conv => whnf)
      refine condB_ok (by simp) ?_
      conv => whnf
      repeat (refine ⟨⟨_, rfl⟩, ?_⟩; conv => whnf)
      refine condB_yes (by show ((bif true then !(eqZ (c 0)) else eqZ (c 0)) == true) = true; rw [eqZ_no hc0 (Nat.lt_trans (hc1 0) (by decide))]; rfl) ?_
      conv => whnf
      repeat (refine ⟨⟨_, rfl⟩, ?_⟩; conv => whnf)
      refine S_LCmpE (a := s) (b := p) rfl rfl (Nat.lt_trans hs1 (by decide)) (by rw [hp]; decide) (fun z hz => ?_)
      have hz2 : z = -1 := by rw [hz]; unfold cmpZ; rw [if_pos (by rw [hp]; exact hs1)]
      subst hz2
      conv => whnf
      repeat (refine ⟨⟨_, rfl⟩, ?_⟩; conv => whnf)
      refine condB_ok (by simp; omega) ?_
      conv => whnf
      repeat (refine ⟨⟨_, rfl⟩, ?_⟩; conv => whnf)
      refine condB_ok (by simp; omega) ?_
      conv => whnf
      repeat (refine ⟨⟨_, rfl⟩, ?_⟩; conv => whnf)
      refine S_kNums (n := k) (c := c) (ShowsG.sl rfl (by simp; omega) (fun i j _ _ => ⟨by simp, flat_numsG⟩)) (ShowsG.sl rfl (by simp; omega) (fun i j _ _ => ⟨by simp, flat_numsG⟩)) (fun i _ => Nat.lt_trans (hc1 i) (by decide)) (by omega) ?_
      conv => whnf
      repeat (refine ⟨⟨_, rfl⟩, ?_⟩; conv => whnf)
      refine S_wakes21 ?_
      conv => whnf
      repeat (refine ⟨⟨_, rfl⟩, ?_⟩; conv => whnf)
theorem S_row_DealSecrets (avs : List AV) (h : okVs [.sl 1 (.int .u8), .int .i64, .int .i64] avs) : ∃ avs', Retold avs avs' ∧ ACall Pg F_witanlaw21_DealSecrets avs' [] (fun x _ => x = .bool true) := by
  obtain ⟨p, _, rfl, h1, q, _, rfl, h2, r, _, rfl, h3, rfl⟩ := h
  obtain ⟨n, c1, f, r1, _, _, hF⟩ := ok_bytes h1
  obtain ⟨x, rfl, _, _⟩ := ok_int h2
  obtain ⟨y, rfl, _, _⟩ := ok_int h3
  exact ⟨_, .cons r1 (.cons (Retold1.refl _) (.cons (Retold1.refl _) .nil)), S_DealSecrets n c1 f x y hF⟩
end Go.Proofs.Ytfolpdmbpbbimaa
end

section
/- The law DealSecrets answers true for all that it may be handed: its row; no condition. -/
namespace Go.Proofs.Ytfolpdmbpbbimaa.dealSecrets
open Go.ChangeShapes Go.WideShapes Go.ChangeAt Go.RowKit Go.Wit
set_option linter.unusedVariables false
theorem own : ownKnob Try.prog.godebug = none := by kernel_rfl
theorem laid : laidOutB Try.prog = true := by kernel_rfl
set_option maxRecDepth 100000 in
theorem lifted (os : Os) (started : os.Started) (H : Type) (enc : TypeId × Value → H) :
    ReturnsInHanded {} Try.checked os 3 .any (Rows.dealSecretsSpec.pre6 enc Try.prog Try.f3 Rows.dealSecretsRow.domain false) (Rows.dealSecretsSpec.post enc Try.prog Try.f3 false true false false) := by
  refine returnsInHanded_of_change_sized (C := Try.checked) own started (by kernel_rfl) Try.func3
    (ChangeSpec.witness6 (enc := enc) (C := Try.checked) false ⟨#[], #[.slice none 0 0, .int .i64 0, .int .i64 0], []⟩ 12 (by kernel_rfl) (by kernel_rfl) (by kernel_rfl) (by kernel_rfl)) ?_
  intro W base args ds gs before hval0 hW hcnd hsz0 _
  have hval : ∀ (j : Nat) t v, Try.f3.params[j]? = some t → args[j]? = some v → Value.okWide Try.prog W .any base t v := hval0
  have hW' := hW
  obtain ⟨p, q, hA0, hV, rfl, hfz, hnd⟩ := hW
  have hA : DataW.TrodAll enc Try.prog W 0 (fun _ => true) true Try.f3.params.toList args.toList ds p := hA0
  obtain ⟨rfl, rfl⟩ := trodVars_none hV
  have l0 : ds.length = 3 := trod_len hA
  obtain ⟨d1, ds1, rfl, l1⟩ := cons_of_len l0
  obtain ⟨d2, ds2, rfl, l2⟩ := cons_of_len l1
  obtain ⟨d3, ds3, rfl, l3⟩ := cons_of_len l2
  obtain rfl := nil_of_len l3
  refine (law_open (tys := [.sl 1 (.int .u8), .int .i64, .int .i64]) (by kernel_rfl) (fun j t v h1 h2 => hval j t v (by simpa using h1) (by simpa using h2)) hA S_row_DealSecrets).mono fun e W' ⟨he, bel⟩ => ?_
  subst he
  exact ⟨_, rfl, _, _, _, [], _, [], hW', trodAll_mk1 (shut_bool Try.underlying4 _), shut_vals laid bel (by kernel_rfl) hA, rfl, bel.frame _, fun h => by cases h⟩
theorem over : Rows.dealSecretsRow.holds Try.pinned (OpenSpec.ofChange Rows.dealSecretsSpec) :=
  OpenClaim.holds_of_wide 3 Try.f3 rfl rfl rfl rfl rfl rfl rfl ⟨rfl, rfl, rfl, rfl, rfl⟩ rfl rfl rfl rfl rfl (by kernel_rfl) Try.func3 (by kernel_rfl)
    (of_decide_eq_true (by kernel_rfl)) (by unfold Func.isWrapper; first | (rw [if_pos (by decide +kernel)]; kernel_rfl) | (rw [if_neg (by decide +kernel)]; exact ⟨rfl, rfl⟩))
    (fun os started H enc _ => lifted os started H enc)
theorem proved : Rows.DealSecretsSaid := over
#print axioms proved
end Go.Proofs.Ytfolpdmbpbbimaa.dealSecrets
namespace Go.Proofs.Ytfolpdmbpbbimaa
/-- The row, under a short name, for the claim. -/
theorem dealSecrets_holds : Rows.DealSecretsSaid := dealSecrets.proved
end Go.Proofs.Ytfolpdmbpbbimaa
end

