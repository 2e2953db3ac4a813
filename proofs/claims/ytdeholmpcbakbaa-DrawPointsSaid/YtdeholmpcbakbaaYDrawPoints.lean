/- Texts of a proof, one behind the other; the last of these: The law DrawPoints answers true for all that it may be handed: its row; no condition. -/
import Derived.Test.YtdeholmpcbakbaaZ8
import Derived.Test.YtdeholmpcbakbaaRows
import Derived.WalkKit
import Derived.ProofKit
import Derived.OpenShut
import Derived.ShutString
import Derived.ChangeOld
import Derived.Below
import Derived.SizedLaws
section
/- The laws of draw; no condition. -/
set_option linter.unusedVariables false
set_option linter.unusedSimpArgs false
set_option maxRecDepth 100000
set_option pp.maxSteps 3000
namespace Go.Proofs.Ytdeholmpcbakbaa
open Go Go.Wit

theorem eqX_refl {a : Nat} : eqX a a = true := by simp [eqX]
theorem cmp_lt {a b : Nat} {z : Int} (hz : z = cmpZ a b) (h : a < b) : (decide (z < 0)) = true := by
  rw [hz, cmpZ, if_pos h]; rfl
theorem S_DrawScalars (s : ByteArray) (r cap : Nat) (N C : Nat → Nat) (F : Nat → Nat → Int) (hF : ∀ i, i < r → ∀ j, j < N i → 0 ≤ F i j ∧ F i j ≤ 255) :
    ACall Pg F_witanlaw05_DrawScalars [.str s, .vsl 1 r cap (rowsB N C F)] [] (fun v _ => v = .bool true) := by
  refine B_witanlaw05_DrawScalars ⟨rfl, ?_⟩
  conv => whnf
  repeat (refine ⟨⟨[], rfl⟩, ?_⟩; conv => whnf)
  refine S_heavy (N := N) (F := F) ShowsB.vsl ?_ (fun h1 h2 h3 => ?_)
  · conv => whnf
    repeat (refine ⟨⟨[], rfl⟩, ?_⟩; conv => whnf)
  conv => whnf
  repeat (refine ⟨⟨[], rfl⟩, ?_⟩; conv => whnf)
  have h4 : ∀ i, i < r → N i ≤ 1000000 := fun i hi => by have := h3 i hi; omega
  refine S_TwinRows (N := N) (F := F) (by omega) h4 (fun cap2 D => ?_)
  conv => whnf
  repeat (refine ⟨⟨[], rfl⟩, ?_⟩; conv => whnf)
  refine S_DScalar (r := r) (N := N) (F := F) (ShowsB.sl rfl (Nat.le_of_eq (Nat.zero_add _)) fun i hi => by rw [Nat.zero_add]; exact Shows.vsl) (by omega) (by omega) h4 hF (fun hn a ha ha1 => ?_) (fun hn => ?_)
  · conv => whnf
    repeat (refine ⟨⟨[], rfl⟩, ?_⟩; conv => whnf)
    refine S_RScalar (N := N) (F := F) ShowsB.vsl (by omega) (by omega) h4 hF (fun _ b hb hb1 => ?_) (fun hn2 => absurd hn (by omega))
    obtain rfl : b = a := hb.trans ha.symm
    clear ha hb
    conv => whnf
    repeat (refine ⟨⟨[], rfl⟩, ?_⟩; conv => whnf)
    refine S_RowsEq (N := N) (F := F) (ShowsB.sl rfl (Nat.le_of_eq (Nat.zero_add _)) fun i hi => by rw [Nat.zero_add]; exact Shows.vsl) ShowsB.vsl h4 (by omega) ?_
    conv => whnf
    repeat (refine ⟨⟨[], rfl⟩, ?_⟩; conv => whnf)
    refine condB_yes (by show (eqX b b == true) = true; rw [eqX_refl]; rfl) ?_
    conv => whnf
    repeat (refine ⟨⟨[], rfl⟩, ?_⟩; conv => whnf)
    refine S_Prime_1 (fun p hp => ?_)
    conv => whnf
    repeat (refine ⟨⟨[], rfl⟩, ?_⟩; conv => whnf)
    refine S_RCmp (a := b) (b := p) (Nat.lt_trans hb1 (by decide)) (by rw [hp]; decide) (fun z hz => ?_)
    conv => whnf
    repeat (refine ⟨⟨[], rfl⟩, ?_⟩; conv => whnf)
    refine condB_yes (by rw [cmp_lt hz (by rw [hp]; exact hb1)]; rfl) ?_
    conv => whnf
    repeat (refine ⟨⟨[], rfl⟩, ?_⟩; conv => whnf)
    refine S_wakes05 ?_
    conv => whnf
    repeat (refine ⟨⟨[], rfl⟩, ?_⟩; conv => whnf)
  · conv => whnf
    repeat (refine ⟨⟨[], rfl⟩, ?_⟩; conv => whnf)
    refine S_RScalar (N := N) (F := F) ShowsB.vsl (by omega) (by omega) h4 hF (fun hn2 => absurd hn2 (by omega)) (fun _ => ?_)
    conv => whnf
    repeat (refine ⟨⟨[], rfl⟩, ?_⟩; conv => whnf)
    refine S_RowsEq (N := N) (F := F) (ShowsB.sl rfl (Nat.le_of_eq (Nat.zero_add _)) fun i hi => by rw [Nat.zero_add]; exact Shows.vsl) ShowsB.vsl h4 (by omega) ?_
    conv => whnf
    repeat (refine ⟨⟨[], rfl⟩, ?_⟩; conv => whnf)
    refine S_wakes05 ?_
    conv => whnf
    repeat (refine ⟨⟨[], rfl⟩, ?_⟩; conv => whnf)

theorem even_tmod {P : Pt Fp} (hY : yN P % 2 = 0) : (lim (yN P) 0).tmod 2 = 0 := by
  unfold lim
  rw [show (2 : Int) = ((2 : Nat) : Int) from rfl, tmod_nn, Nat.pow_zero, Nat.div_one]
  omega
theorem S_DrawPoints (s : ByteArray) (k cap : Nat) (g : Nat → Int) (hg : ∀ j, j < k → 0 ≤ g j ∧ g j ≤ 255) :
    ACall Pg F_witanlaw05_DrawPoints [.str s, .vsl 1 k cap (bytesG g)] [] (fun v _ => v = .bool true) := by
  refine B_witanlaw05_DrawPoints ⟨rfl, ?_⟩
  conv => whnf
  repeat (refine ⟨⟨[], rfl⟩, ?_⟩; conv => whnf)
  refine S_heavy (r := 1) (N := fun _ => k) (F := fun _ => g) (ShowsB.sl rfl (Nat.le_refl 1) (fun i hi => ?_)) ?_ (fun h1 h2 h3 => ?_)
  · obtain rfl : i = 0 := by omega
    exact Shows.vsl
  · conv => whnf
    repeat (refine ⟨⟨[], rfl⟩, ?_⟩; conv => whnf)
  have h3 : k ≤ 2000 := h3 0 (by decide)
  conv => whnf
  repeat (refine ⟨⟨[], rfl⟩, ?_⟩; conv => whnf)
  refine S_DPoint (k := k) (g := g) Shows.vsl (by omega) (by omega) hg (fun hn v hv => ?_) (fun hn => ?_)
  · rcases hv with ⟨c, P, hc, hd, hP, oP, rfl⟩ | ⟨hd, rfl⟩
    · obtain ⟨hI, hY⟩ := try_even hP
      conv => whnf
      repeat (refine ⟨⟨[], rfl⟩, ?_⟩; conv => whnf)
      refine S_RPoint (k := k) (g := g) Shows.vsl (by omega) (by omega) hg (fun _ w hw => ?_) (fun hn2 => absurd hn (by omega))
      obtain rfl := PtRes.same hw (.inl ⟨c, P, hc, hd, hP, oP, rfl⟩)
      clear hd hP hw
      conv => whnf
      repeat (refine ⟨⟨[], rfl⟩, ?_⟩; conv => whnf)
      refine condB_yes (by simp) ?_
      conv => whnf
      repeat (refine ⟨⟨[], rfl⟩, ?_⟩; conv => whnf)
      refine S_kPt_eq (P := P) ?_
      conv => whnf
      repeat (refine ⟨⟨[], rfl⟩, ?_⟩; conv => whnf)
      refine S_Check_ok (P := P) oP ?_
      conv => whnf
      repeat (refine ⟨⟨[], rfl⟩, ?_⟩; conv => whnf)
      refine condB_yes (by rw [hI]; rfl) ?_
      conv => whnf
      repeat (refine ⟨⟨[], rfl⟩, ?_⟩; conv => whnf)
      refine condB_yes (by rw [even_tmod hY]; rfl) ?_
      conv => whnf
      repeat (refine ⟨⟨[], rfl⟩, ?_⟩; conv => whnf)
      refine S_wakes05 ?_
      conv => whnf
      repeat (refine ⟨⟨[], rfl⟩, ?_⟩; conv => whnf)
    · conv => whnf
      repeat (refine ⟨⟨[], rfl⟩, ?_⟩; conv => whnf)
      refine S_RPoint (k := k) (g := g) Shows.vsl (by omega) (by omega) hg (fun _ w hw => ?_) (fun hn2 => absurd hn (by omega))
      obtain rfl := PtRes.same hw (.inr ⟨hd, rfl⟩)
      clear hd hw
      conv => whnf
      repeat (refine ⟨⟨[], rfl⟩, ?_⟩; conv => whnf)
      refine S_kPoint_eq (i := false) (x := 0) (y := 0) (by decide) (by decide) ?_
      conv => whnf
      repeat (refine ⟨⟨[], rfl⟩, ?_⟩; conv => whnf)
  · conv => whnf
    repeat (refine ⟨⟨[], rfl⟩, ?_⟩; conv => whnf)
    refine S_RPoint (k := k) (g := g) Shows.vsl (by omega) (by omega) hg (fun hn2 => absurd hn2 (by omega)) (fun _ => ?_)
    conv => whnf
    repeat (refine ⟨⟨[], rfl⟩, ?_⟩; conv => whnf)
    refine S_kPoint_eq (i := false) (x := 0) (y := 0) (by decide) (by decide) ?_
    conv => whnf
    repeat (refine ⟨⟨[], rfl⟩, ?_⟩; conv => whnf)
theorem S_row_DrawScalars (avs : List AV) (h : okVs [.str, .sl 1 (.sl 1 (.int .u8))] avs) : ∃ avs', Retold avs avs' ∧ ACall Pg F_witanlaw05_DrawScalars avs' [] (fun x _ => x = .bool true) := by
  obtain ⟨p, _, rfl, h1, q, _, rfl, h2, rfl⟩ := h
  obtain ⟨s, rfl, _⟩ := ok_str h1
  obtain ⟨n, c1, N, C, F, r1, _, _, hF⟩ := ok_rows h2
  exact ⟨_, .cons (Retold1.refl _) (.cons r1 .nil), S_DrawScalars s n c1 N C F fun i hi j hj => (hF i hi).2 j hj⟩
theorem S_row_DrawPoints (avs : List AV) (h : okVs [.str, .sl 1 (.int .u8)] avs) : ∃ avs', Retold avs avs' ∧ ACall Pg F_witanlaw05_DrawPoints avs' [] (fun x _ => x = .bool true) := by
  obtain ⟨p, _, rfl, h1, q, _, rfl, h2, rfl⟩ := h
  obtain ⟨s, rfl, _⟩ := ok_str h1
  obtain ⟨n, c1, f, r1, _, _, hF⟩ := ok_bytes h2
  exact ⟨_, .cons (Retold1.refl _) (.cons r1 .nil), S_DrawPoints s n c1 f hF⟩
end Go.Proofs.Ytdeholmpcbakbaa
end

section
/- The law DrawPoints answers true for all that it may be handed: its row; no condition. -/
namespace Go.Proofs.Ytdeholmpcbakbaa.drawPoints
open Go.ChangeShapes Go.WideShapes Go.ChangeAt Go.RowKit Go.Wit
set_option linter.unusedVariables false
theorem own : ownKnob Try.prog.godebug = none := by kernel_rfl
theorem laid : laidOutB Try.prog = true := by kernel_rfl
set_option maxRecDepth 100000 in
theorem lifted (os : Os) (started : os.Started) (H : Type) (enc : TypeId × Value → H) :
    ReturnsInHanded {} Try.checked os 4 .any (Rows.drawPointsSpec.pre6 enc Try.prog Try.f4 Rows.drawPointsRow.domain false) (Rows.drawPointsSpec.post enc Try.prog Try.f4 false true false false) := by
  refine returnsInHanded_of_change_sized (C := Try.checked) own started (by kernel_rfl) Try.func4
    (ChangeSpec.witness6 (enc := enc) (C := Try.checked) false ⟨#[], #[.string ⟨#[]⟩, .slice none 0 0], []⟩ 12 (by kernel_rfl) (by kernel_rfl) (by kernel_rfl) (by kernel_rfl)) ?_
  intro W base args ds gs before hval0 hW hcnd hsz0 _
  have hval : ∀ (j : Nat) t v, Try.f4.params[j]? = some t → args[j]? = some v → Value.okWide Try.prog W .any base t v := hval0
  have hW' := hW
  obtain ⟨p, q, hA0, hV, rfl, hfz, hnd⟩ := hW
  have hA : DataW.TrodAll enc Try.prog W 0 (fun _ => true) true Try.f4.params.toList args.toList ds p := hA0
  obtain ⟨rfl, rfl⟩ := trodVars_none hV
  have l0 : ds.length = 2 := trod_len hA
  obtain ⟨d1, ds1, rfl, l1⟩ := cons_of_len l0
  obtain ⟨d2, ds2, rfl, l2⟩ := cons_of_len l1
  obtain rfl := nil_of_len l2
  refine (law_open (tys := [.str, .sl 1 (.int .u8)]) (by kernel_rfl) (fun j t v h1 h2 => hval j t v (by simpa using h1) (by simpa using h2)) hA S_row_DrawPoints).mono fun e W' ⟨he, bel⟩ => ?_
  subst he
  exact ⟨_, rfl, _, _, _, [], _, [], hW', trodAll_mk1 (shut_bool Try.underlying4 _), shut_vals laid bel (by kernel_rfl) hA, rfl, bel.frame _, fun h => by cases h⟩
theorem over : Rows.drawPointsRow.holds Try.pinned (OpenSpec.ofChange Rows.drawPointsSpec) :=
  OpenClaim.holds_of_wide 4 Try.f4 rfl rfl rfl rfl rfl rfl rfl ⟨rfl, rfl, rfl, rfl, rfl⟩ rfl rfl rfl rfl rfl (by kernel_rfl) Try.func4 (by kernel_rfl)
    (of_decide_eq_true (by kernel_rfl)) (by unfold Func.isWrapper; first | (rw [if_pos (by decide +kernel)]; kernel_rfl) | (rw [if_neg (by decide +kernel)]; exact ⟨rfl, rfl⟩))
    (fun os started H enc _ => lifted os started H enc)
theorem proved : Rows.DrawPointsSaid := over
#print axioms proved
end Go.Proofs.Ytdeholmpcbakbaa.drawPoints
namespace Go.Proofs.Ytdeholmpcbakbaa
/-- The row, under a short name, for the claim. -/
theorem drawPoints_holds : Rows.DrawPointsSaid := drawPoints.proved
end Go.Proofs.Ytdeholmpcbakbaa
end

