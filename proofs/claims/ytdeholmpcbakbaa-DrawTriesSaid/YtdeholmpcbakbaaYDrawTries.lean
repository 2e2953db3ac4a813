/- Texts of a proof, one behind the other; the last of these: The law DrawTries answers true for all that it may be handed: its row; no condition. -/
import Derived.Test.YtdeholmpcbakbaaZ8
import Derived.Test.YtdeholmpcbakbaaRows
import Derived.WalkKit
import Derived.ProofKit
import Derived.OpenShut
import Derived.ShutString
import Derived.ChangeOld
import Derived.Below
import Derived.SizedLaws
section
/- The laws of draw; no condition. -/
set_option linter.unusedVariables false
set_option linter.unusedSimpArgs false
set_option maxRecDepth 100000
set_option pp.maxSteps 3000
namespace Go.Proofs.Ytdeholmpcbakbaa
open Go Go.Wit

theorem eqX_refl {a : Nat} : eqX a a = true := by simp [eqX]
theorem cmp_lt {a b : Nat} {z : Int} (hz : z = cmpZ a b) (h : a < b) : (decide (z < 0)) = true := by
  rw [hz, cmpZ, if_pos h]; rfl
theorem S_DrawScalars (s : ByteArray) (r cap : Nat) (N C : Nat → Nat) (F : Nat → Nat → Int) (hF : ∀ i, i < r → ∀ j, j < N i → 0 ≤ F i j ∧ F i j ≤ 255) :
    ACall Pg F_witanlaw05_DrawScalars [.str s, .vsl 1 r cap (rowsB N C F)] [] (fun v _ => v = .bool true) := by
  refine B_witanlaw05_DrawScalars ⟨rfl, ?_⟩
  conv => whnf
  repeat (refine ⟨⟨[], rfl⟩, ?_⟩; conv => whnf)
  refine S_heavy (N := N) (F := F) ShowsB.vsl ?_ (fun h1 h2 h3 => ?_)
  · conv => whnf
    repeat (refine ⟨⟨[], rfl⟩, ?_⟩; conv => whnf)
  conv => whnf
  repeat (refine ⟨⟨[], rfl⟩, ?_⟩; conv => whnf)
  have h4 : ∀ i, i < r → N i ≤ 1000000 := fun i hi => by have := h3 i hi; omega
  refine S_TwinRows (N := N) (F := F) (by omega) h4 (fun cap2 D => ?_)
  conv => whnf
  repeat (refine ⟨⟨[], rfl⟩, ?_⟩; conv => whnf)
  refine S_DScalar (r := r) (N := N) (F := F) (ShowsB.sl rfl (Nat.le_of_eq (Nat.zero_add _)) fun i hi => by rw [Nat.zero_add]; exact Shows.vsl) (by omega) (by omega) h4 hF (fun hn a ha ha1 => ?_) (fun hn => ?_)
  · conv => whnf
    repeat (refine ⟨⟨[], rfl⟩, ?_⟩; conv => whnf)
    refine S_RScalar (N := N) (F := F) ShowsB.vsl (by omega) (by omega) h4 hF (fun _ b hb hb1 => ?_) (fun hn2 => absurd hn (by omega))
    obtain rfl : b = a := hb.trans ha.symm
    clear ha hb
    conv => whnf
    repeat (refine ⟨⟨[], rfl⟩, ?_⟩; conv => whnf)
    refine S_RowsEq (N := N) (F := F) (ShowsB.sl rfl (Nat.le_of_eq (Nat.zero_add _)) fun i hi => by rw [Nat.zero_add]; exact Shows.vsl) ShowsB.vsl h4 (by omega) ?_
    conv => whnf
    repeat (refine ⟨⟨[], rfl⟩, ?_⟩; conv => whnf)
    refine condB_yes (by show (eqX b b == true) = true; rw [eqX_refl]; rfl) ?_
    conv => whnf
    repeat (refine ⟨⟨[], rfl⟩, ?_⟩; conv => whnf)
    refine S_Prime_1 (fun p hp => ?_)
    conv => whnf
    repeat (refine ⟨⟨[], rfl⟩, ?_⟩; conv => whnf)
    refine S_RCmp (a := b) (b := p) (Nat.lt_trans hb1 (by decide)) (by rw [hp]; decide) (fun z hz => ?_)
    conv => whnf
    repeat (refine ⟨⟨[], rfl⟩, ?_⟩; conv => whnf)
    refine condB_yes (by rw [cmp_lt hz (by rw [hp]; exact hb1)]; rfl) ?_
    conv => whnf
    repeat (refine ⟨⟨[], rfl⟩, ?_⟩; conv => whnf)
    refine S_wakes05 ?_
    conv => whnf
    repeat (refine ⟨⟨[], rfl⟩, ?_⟩; conv => whnf)
  · conv => whnf
    repeat (refine ⟨⟨[], rfl⟩, ?_⟩; conv => whnf)
    refine S_RScalar (N := N) (F := F) ShowsB.vsl (by omega) (by omega) h4 hF (fun hn2 => absurd hn2 (by omega)) (fun _ => ?_)
    conv => whnf
    repeat (refine ⟨⟨[], rfl⟩, ?_⟩; conv => whnf)
    refine S_RowsEq (N := N) (F := F) (ShowsB.sl rfl (Nat.le_of_eq (Nat.zero_add _)) fun i hi => by rw [Nat.zero_add]; exact Shows.vsl) ShowsB.vsl h4 (by omega) ?_
    conv => whnf
    repeat (refine ⟨⟨[], rfl⟩, ?_⟩; conv => whnf)
    refine S_wakes05 ?_
    conv => whnf
    repeat (refine ⟨⟨[], rfl⟩, ?_⟩; conv => whnf)

theorem even_tmod {P : Pt Fp} (hY : yN P % 2 = 0) : (lim (yN P) 0).tmod 2 = 0 := by
  unfold lim
  rw [show (2 : Int) = ((2 : Nat) : Int) from rfl, tmod_nn, Nat.pow_zero, Nat.div_one]
  omega
theorem S_DrawPoints (s : ByteArray) (k cap : Nat) (g : Nat → Int) (hg : ∀ j, j < k → 0 ≤ g j ∧ g j ≤ 255) :
    ACall Pg F_witanlaw05_DrawPoints [.str s, .vsl 1 k cap (bytesG g)] [] (fun v _ => v = .bool true) := by
  refine B_witanlaw05_DrawPoints ⟨rfl, ?_⟩
  conv => whnf
  repeat (refine ⟨⟨[], rfl⟩, ?_⟩; conv => whnf)
  refine S_heavy (r := 1) (N := fun _ => k) (F := fun _ => g) (ShowsB.sl rfl (Nat.le_refl 1) (fun i hi => ?_)) ?_ (fun h1 h2 h3 => ?_)
  · obtain rfl : i = 0 := by omega
    exact Shows.vsl
  · conv => whnf
    repeat (refine ⟨⟨[], rfl⟩, ?_⟩; conv => whnf)
  have h3 : k ≤ 2000 := h3 0 (by decide)
  conv => whnf
  repeat (refine ⟨⟨[], rfl⟩, ?_⟩; conv => whnf)
  refine S_DPoint (k := k) (g := g) Shows.vsl (by omega) (by omega) hg (fun hn v hv => ?_) (fun hn => ?_)
  · rcases hv with ⟨c, P, hc, hd, hP, oP, rfl⟩ | ⟨hd, rfl⟩
    · obtain ⟨hI, hY⟩ := try_even hP
      conv => whnf
      repeat (refine ⟨⟨[], rfl⟩, ?_⟩; conv => whnf)
      refine S_RPoint (k := k) (g := g) Shows.vsl (by omega) (by omega) hg (fun _ w hw => ?_) (fun hn2 => absurd hn (by omega))
      obtain rfl := PtRes.same hw (.inl ⟨c, P, hc, hd, hP, oP, rfl⟩)
      clear hd hP hw
      conv => whnf
      repeat (refine ⟨⟨[], rfl⟩, ?_⟩; conv => whnf)
      refine condB_yes (by simp) ?_
      conv => whnf
      repeat (refine ⟨⟨[], rfl⟩, ?_⟩; conv => whnf)
      refine S_kPt_eq (P := P) ?_
      conv => whnf
      repeat (refine ⟨⟨[], rfl⟩, ?_⟩; conv => whnf)
      refine S_Check_ok (P := P) oP ?_
      conv => whnf
      repeat (refine ⟨⟨[], rfl⟩, ?_⟩; conv => whnf)
      refine condB_yes (by rw [hI]; rfl) ?_
      conv => whnf
      repeat (refine ⟨⟨[], rfl⟩, ?_⟩; conv => whnf)
      refine condB_yes (by rw [even_tmod hY]; rfl) ?_
      conv => whnf
      repeat (refine ⟨⟨[], rfl⟩, ?_⟩; conv => whnf)
      refine S_wakes05 ?_
      conv => whnf
      repeat (refine ⟨⟨[], rfl⟩, ?_⟩; conv => whnf)
    · conv => whnf
      repeat (refine ⟨⟨[], rfl⟩, ?_⟩; conv => whnf)
      refine S_RPoint (k := k) (g := g) Shows.vsl (by omega) (by omega) hg (fun _ w hw => ?_) (fun hn2 => absurd hn (by omega))
      obtain rfl := PtRes.same hw (.inr ⟨hd, rfl⟩)
      clear hd hw
      conv => whnf
      repeat (refine ⟨⟨[], rfl⟩, ?_⟩; conv => whnf)
      refine S_kPoint_eq (i := false) (x := 0) (y := 0) (by decide) (by decide) ?_
      conv => whnf
      repeat (refine ⟨⟨[], rfl⟩, ?_⟩; conv => whnf)
  · conv => whnf
    repeat (refine ⟨⟨[], rfl⟩, ?_⟩; conv => whnf)
    refine S_RPoint (k := k) (g := g) Shows.vsl (by omega) (by omega) hg (fun hn2 => absurd hn2 (by omega)) (fun _ => ?_)
    conv => whnf
    repeat (refine ⟨⟨[], rfl⟩, ?_⟩; conv => whnf)
    refine S_kPoint_eq (i := false) (x := 0) (y := 0) (by decide) (by decide) ?_
    conv => whnf
    repeat (refine ⟨⟨[], rfl⟩, ?_⟩; conv => whnf)
theorem S_row_DrawScalars (avs : List AV) (h : okVs [.str, .sl 1 (.sl 1 (.int .u8))] avs) : ∃ avs', Retold avs avs' ∧ ACall Pg F_witanlaw05_DrawScalars avs' [] (fun x _ => x = .bool true) := by
  obtain ⟨p, _, rfl, h1, q, _, rfl, h2, rfl⟩ := h
  obtain ⟨s, rfl, _⟩ := ok_str h1
  obtain ⟨n, c1, N, C, F, r1, _, _, hF⟩ := ok_rows h2
  exact ⟨_, .cons (Retold1.refl _) (.cons r1 .nil), S_DrawScalars s n c1 N C F fun i hi j hj => (hF i hi).2 j hj⟩
theorem S_row_DrawPoints (avs : List AV) (h : okVs [.str, .sl 1 (.int .u8)] avs) : ∃ avs', Retold avs avs' ∧ ACall Pg F_witanlaw05_DrawPoints avs' [] (fun x _ => x = .bool true) := by
  obtain ⟨p, _, rfl, h1, q, _, rfl, h2, rfl⟩ := h
  obtain ⟨s, rfl, _⟩ := ok_str h1
  obtain ⟨n, c1, f, r1, _, _, hF⟩ := ok_bytes h2
  exact ⟨_, .cons (Retold1.refl _) (.cons r1 .nil), S_DrawPoints s n c1 f hF⟩
end Go.Proofs.Ytdeholmpcbakbaa
end

section
/- More laws of draw; no condition. -/
set_option linter.unusedVariables false
set_option linter.unusedSimpArgs false
set_option maxRecDepth 100000
set_option pp.maxSteps 3000
namespace Go.Proofs.Ytdeholmpcbakbaa
open Go Go.Wit

theorem pr_cases {α : Type} {p : α → Prop} {a b : α} (ha : p a) (hb : p b) (i : Nat) : p (pr2 a b i) := by unfold pr2; split; exact ha; exact hb
theorem tail_one {n i : Nat} {f : Nat → Int} {x : Int} {g : Nat → Nat → AV} (hi : i < n + 1) (hg : g 0 0 = .int .u8 x) : catG n (bytesG f) g i 0 = .int .u8 (catB n f (fun _ => x) i) := by
  by_cases h : i < n
  · rw [catG_lt h, catB_lt h]; rfl
  · rw [catG_ge (by omega), catB_ge (by omega), show i - n = 0 by omega, hg]
theorem S_DrawParts (s : ByteArray) (n1 c1 n2 c2 : Nat) (f1 f2 : Nat → Int) (hf1 : ∀ j, j < n1 → 0 ≤ f1 j ∧ f1 j ≤ 255) (hf2 : ∀ j, j < n2 → 0 ≤ f2 j ∧ f2 j ≤ 255) :
    ACall Pg F_witanlaw05_DrawParts [.str s, .vsl 1 n1 c1 (bytesG f1), .vsl 1 n2 c2 (bytesG f2)] [] (fun v _ => v = .bool true) := by
  refine B_witanlaw05_DrawParts ⟨rfl, ?_⟩
  have hrow : ∀ {m : Mem} {l cc : Nat} {g : Nat → Nat → AV}, m[l]? = some (some ⟨1, 2, g⟩) → g 0 0 = .vsl 1 n1 c1 (bytesG f1) → g 1 0 = .vsl 1 n2 c2 (bytesG f2) → ShowsB m (.sl l 0 2 cc) 2 (pr2 n1 n2) (pr2 f1 f2) := fun h g0 g1 =>
    ShowsB.sl h (Nat.le_refl 2) fun i hi => by
      have : i = 0 ∨ i = 1 := by omega
      rcases this with rfl | rfl
      · rw [Nat.zero_add, g0]; exact Shows.vsl
      · rw [Nat.zero_add, g1]; exact Shows.vsl
  conv => whnf
  repeat (refine ⟨⟨[], rfl⟩, ?_⟩; conv => whnf)
  refine S_heavy (hrow rfl rfl rfl) ?_ (fun h1 h2 h3 => ?_)
  · conv => whnf
    repeat (refine ⟨⟨[], rfl⟩, ?_⟩; conv => whnf)
  have g1 : n1 ≤ 2000 := h3 0 (by decide)
  have g2 : n2 ≤ 2000 := h3 1 (by decide)
  have hN : ∀ i, i < 2 → pr2 n1 n2 i ≤ 1000000 := fun i _ => pr_cases (p := fun x => x ≤ 1000000) (by omega) (by omega) i
  have hT : nT s.size (pr2 n1 n2) 2 = 4 + s.size + (4 + n1) + (4 + n2) := rfl
  conv => whnf
  repeat (refine ⟨⟨[], rfl⟩, ?_⟩; conv => whnf)
  refine S_ljoined (r := 2) (N := pr2 n1 n2) (F := pr2 f1 f2) (hrow rfl rfl rfl) (by omega) (by decide) hN (by omega) (fun n f cap1 hn hf => ?_)
  have hin : ∀ i, i < 2 → ∀ j, j < pr2 n1 n2 i → 0 ≤ pr2 f1 f2 i j ∧ pr2 f1 f2 i j ≤ 255 := fun i hi j hj => by
    have : i = 0 ∨ i = 1 := by omega
    rcases this with rfl | rfl
    · exact hf1 j hj
    · exact hf2 j hj
  have hfb : ∀ i, i < n → 0 ≤ f i ∧ f i ≤ 255 := fun i hi => by rw [hf]; exact cT_in (fun _ _ => strF_lt) hin i (by omega)
  have g0 : ∀ x : Int, 0 ≤ x ∧ x ≤ 255 → ∀ i, i < n + 1 → 0 ≤ catB n f (fun _ => x) i ∧ catB n f (fun _ => x) i ≤ 255 := fun x hx i hi => catB_in (m := 1) hfb (fun _ _ => hx) hi
  have hn9 : n ≤ 10000 := by omega
  have hsc : scN n f = scN (nT s.size (pr2 n1 n2) 2) (cT s.size (strF s) (pr2 n1 n2) (pr2 f1 f2) 2) := by rw [hn, hf]
  clear hf hn
  conv => whnf
  repeat (refine ⟨⟨_, rfl⟩, ?_⟩; conv => whnf)
  refine S_Twin (n := n) (f := f) (Shows.sl rfl (Nat.le_of_eq (Nat.zero_add _)) fun i hi => by rw [Nat.zero_add]) (by omega) (fun cap2 => ?_)
  conv => whnf
  repeat (refine ⟨⟨_, rfl⟩, ?_⟩; conv => whnf)
  refine condB_ok (app_ok (by first | rfl | simp) rfl rfl (by omega) (by omega)) (fun cap3 hcap3 => ?_)
  conv => whnf
  repeat (refine ⟨⟨_, rfl⟩, ?_⟩; conv => whnf)
  refine S_SumR (n := n + 1) (f := catB n f fun _ => 0) (Shows.any rfl (Nat.le_of_eq (Nat.zero_add _)) fun i hi => ?_) (by omega) (g0 0 (by decide)) (fun s0 hs0 hb0 => ?_)
  · rw [show 0 + i = i from Nat.zero_add i]
    dsimp only
    exact tail_one hi rfl
  conv => whnf
  repeat (refine ⟨⟨_, rfl⟩, ?_⟩; conv => whnf)
  refine S_Twin (n := n) (f := f) (Shows.sl rfl (Nat.le_of_eq (Nat.zero_add _)) fun i hi => by rw [Nat.zero_add]) (by omega) (fun cap4 => ?_)
  conv => whnf
  repeat (refine ⟨⟨_, rfl⟩, ?_⟩; conv => whnf)
  refine condB_ok (app_ok (by first | rfl | simp) rfl rfl (by omega) (by omega)) (fun cap5 hcap5 => ?_)
  conv => whnf
  repeat (refine ⟨⟨_, rfl⟩, ?_⟩; conv => whnf)
  refine S_SumR (n := n + 1) (f := catB n f fun _ => 1) (Shows.any rfl (Nat.le_of_eq (Nat.zero_add _)) fun i hi => ?_) (by omega) (g0 1 (by decide)) (fun s1 hs1 hb1 => ?_)
  · rw [show 0 + i = i from Nat.zero_add i]
    dsimp only
    exact tail_one hi rfl
  conv => whnf
  repeat (refine ⟨⟨_, rfl⟩, ?_⟩; conv => whnf)
  refine S_LOf (f := s0) (fun i _ => hb0 i) (fun a ha ha1 => ?_)
  conv => whnf
  repeat (refine ⟨⟨_, rfl⟩, ?_⟩; conv => whnf)
  refine S_LOf (f := s1) (fun i _ => hb1 i) (fun b hb hb2 => ?_)
  have e : scN n f = (a * w256 + b) % nN := by rw [ha, hb, hs0, hs1]; rfl
  conv => whnf
  repeat (refine ⟨⟨_, rfl⟩, ?_⟩; conv => whnf)
  refine S_Prime_1 (fun p hp => ?_)
  conv => whnf
  repeat (refine ⟨⟨_, rfl⟩, ?_⟩; conv => whnf)
  refine S_LMod ha1 hb2 (by rw [hp]; decide) (by rw [hp]; decide) ?_
  rw [hp, ← e, hsc]
  conv => whnf
  repeat (refine ⟨⟨_, rfl⟩, ?_⟩; conv => whnf)
  refine S_DScalar (r := 2) (N := pr2 n1 n2) (F := pr2 f1 f2) (hrow rfl rfl rfl) (by omega) (by decide) hN hin (fun _ z hz hz1 => ?_) (fun h => absurd h (by omega))
  rw [← hz]
  conv => whnf
  repeat (refine ⟨⟨_, rfl⟩, ?_⟩; conv => whnf)
  refine condB_yes (by show (eqX z z == true) = true; rw [eqX_refl]; rfl) ?_
  conv => whnf
  repeat (refine ⟨⟨_, rfl⟩, ?_⟩; conv => whnf)
  refine S_wakes05 ?_
  conv => whnf
  repeat (refine ⟨⟨_, rfl⟩, ?_⟩; conv => whnf)

theorem be_s0 {d : Nat} (hd : d < 256) : (0 : Int) = beF d 4 0 := by unfold beF; show (0 : Int) = (d : Int) / 16777216 % 256; omega
theorem be_s1 {d : Nat} (hd : d < 256) : (0 : Int) = beF d 4 1 := by unfold beF; show (0 : Int) = (d : Int) / 65536 % 256; omega
theorem tail_four {n i : Nat} {f a : Nat → Int} {g : Nat → Nat → AV} (hi : i < n + 4) (hg : ∀ i, i < 4 → g i 0 = .int .u8 (a i)) : catG n (bytesG f) g i 0 = .int .u8 (catB n f a i) := by
  by_cases h : i < n
  · rw [catG_lt h, catB_lt h]; rfl
  · rw [catG_ge (by omega), catB_ge (by omega), hg _ (by omega)]
theorem S_DrawTries (s : ByteArray) (k cap : Nat) (g : Nat → Int) (hg : ∀ j, j < k → 0 ≤ g j ∧ g j ≤ 255) :
    ACall Pg F_witanlaw05_DrawTries [.str s, .vsl 1 k cap (bytesG g)] [] (fun v _ => v = .bool true) := by
  refine B_witanlaw05_DrawTries ⟨rfl, ?_⟩
  have hrow : ∀ {m : Mem} {l cc : Nat} {h : Nat → Nat → AV}, m[l]? = some (some ⟨1, 1, h⟩) → h 0 0 = .vsl 1 k cap (bytesG g) → ShowsB m (.sl l 0 1 cc) 1 (fun _ => k) (fun _ => g) := fun h g0 =>
    ShowsB.sl h (Nat.le_refl 1) fun i hi => by
      obtain rfl : i = 0 := by omega
      rw [Nat.zero_add, g0]; exact Shows.vsl
  conv => whnf
  repeat (refine ⟨⟨[], rfl⟩, ?_⟩; conv => whnf)
  refine S_heavy (hrow rfl rfl) ?_ (fun h1 h2 h3 => ?_)
  · conv => whnf
    repeat (refine ⟨⟨[], rfl⟩, ?_⟩; conv => whnf)
  have h3 : k ≤ 2000 := h3 0 (by decide)
  have hT : nT s.size (fun _ => k) 1 = 4 + s.size + (4 + k) := rfl
  conv => whnf
  repeat (refine ⟨⟨[], rfl⟩, ?_⟩; conv => whnf)
  refine S_DPoint (k := k) (g := g) Shows.vsl (by omega) (by omega) hg (fun hn v hv => ?_) (fun hn => by omega)
  rcases hv with ⟨c, P, hc, hd, hP, oP, rfl⟩ | ⟨hd, rfl⟩
  rotate_left
  · conv => whnf
    repeat (refine ⟨⟨[], rfl⟩, ?_⟩; conv => whnf)
    refine S_wakes05 ?_
    conv => whnf
    repeat (refine ⟨⟨[], rfl⟩, ?_⟩; conv => whnf)
  conv => whnf
  repeat (refine ⟨⟨[], rfl⟩, ?_⟩; conv => whnf)
  refine loop_wk mixed (I := fun q l m => ∃ (d : Nat), l = [(0, .str s), (1, .vsl 1 k cap (bytesG g)), (5, .ptr 0 0 0), (6, .int .i64 ((c + 1 : Nat) : Int)), (8, .int .i64 d)] ∧ m = [some ⟨9, 1, lstG 9 (rawL (isI P) (xN P) (yN P))⟩] ∧ q + d = c + 1) (c + 1)
    (l0 := [(0, .str s), (1, .vsl 1 k cap (bytesG g)), (5, .ptr 0 0 0), (6, .int .i64 ((c + 1 : Nat) : Int)), (8, .int .i64 (0 : Nat))]) (m0 := [some ⟨9, 1, lstG 9 (rawL (isI P) (xN P) (yN P))⟩]) [some 1] ⟨0, rfl, rfl, rfl⟩ ?_ ?_
  · exact .mk0 ⟨.eq _ _ rfl (.str _), .eq _ _ rfl flat_bytesV, .ptr _ _ _ _ rfl, Flat.i rfl, Flat.i rfl, trivial⟩ ⟨.old 0 1 _ _ rfl rfl ⟨rfl, Nat.le_refl _, fun i j hi hj => RV.of rfl (by dsimp only; unfold lstG; exact flat_rawG)⟩, trivial⟩ rfl rfl
  · rintro q l m ⟨d, rfl, rfl, hq⟩
    conv => whnf
    repeat (refine ⟨⟨_, rfl⟩, ?_⟩; conv => whnf)
    refine condB_mk (fun hb => ?_) (fun hb => ?_)
    · have hb : d < c + 1 := by simp at hb; omega
      have e6 : IntKind.i64.wrap (((c + 1 : Nat) : Int) - 1) = (c : Int) := by rw [w64 (by omega) (by omega)]; omega
      have e5 : IntKind.i64.wrap ((d : Int) + 1) = ((d + 1 : Nat) : Int) := by rw [w64 (by omega) (by omega)]; omega
      conv => whnf
      repeat (refine ⟨⟨_, rfl⟩, ?_⟩; conv => whnf)
      refine S_ljoined (r := 1) (N := fun _ => k) (F := fun _ => g) (hrow rfl rfl) (by omega) (by decide) (fun _ _ => by omega) (by omega) (fun n f cap1 hn2 hf => ?_)
      have hfb : ∀ i, i < n → 0 ≤ f i ∧ f i ≤ 255 := fun i hi => by rw [hf]; exact cT_in (fun _ _ => strF_lt) (fun _ _ j hj => hg j hj) i (by omega)
      rw [← hf, ← hn2] at hd hP
      have hn9 : n ≤ 10000 := by omega
      clear hf hn2
      conv => whnf
      repeat (refine ⟨⟨_, rfl⟩, ?_⟩; conv => whnf)
      refine condB_ok (app_ok (by first | rfl | simp) rfl rfl (by omega) (by omega)) (fun cap3 hcap3 => ?_)
      conv => whnf
      repeat (refine ⟨⟨_, rfl⟩, ?_⟩; conv => whnf)
      refine S_SumR (n := n + 4) (f := catB n f (beF d 4)) (Shows.any rfl (Nat.le_of_eq (Nat.zero_add _)) fun i hi => ?_) (by omega) (fun i hi => catB_in hfb (fun _ _ => beF_lt) hi) (fun s0 hs0 hb0 => ?_)
      · rw [show 0 + i = i from Nat.zero_add i]
        dsimp only
        refine tail_four hi fun i hi => ?_
        have : i = 0 ∨ i = 1 ∨ i = 2 ∨ i = 3 := by omega
        rcases this with rfl | rfl | rfl | rfl
        · exact congrArg (AV.int .u8) (be_s0 (by omega))
        · exact congrArg (AV.int .u8) (be_s1 (by omega))
        · exact congrArg (AV.int .u8) (beC (n := d) (e := 8) (i := 2) rfl)
        · exact congrArg (AV.int .u8) (be3 (n := d))
      have ht : tryP n f d = rd 33 (catB 1 (fun _ => 2) s0) := by rw [hs0]; rfl
      rw [rowL]
      conv => whnf
      repeat (refine ⟨⟨_, rfl⟩, ?_⟩; conv => whnf)
      intro cap4 hcap4
      conv => whnf
      repeat (refine ⟨⟨_, rfl⟩, ?_⟩; conv => whnf)
      refine S_Read (n := 33) (f := catB 1 (fun _ => 2) s0) (Shows.any rfl (Nat.le_refl 33) fun i hi => ?_) (fun i hi => two_in hb0 i hi) (fun Q oQ hQ => ?_) (fun e he hQ => ?_)
      · rw [show 0 + i = i from Nat.zero_add i]
        dsimp only
        refine two_row hi ?_ fun j hj => ?_
        · rfl
        · refine rowAtE hj ?_ rfl
          omega
      · have hdc : d = c := by
          rcases Nat.lt_or_ge d c with h | h
          · obtain ⟨e, he⟩ := hd d h
            rw [ht, hQ] at he; cases he
          · omega
        subst hdc
        rw [ht, hQ] at hP
        obtain rfl : Q = P := by injection hP
        conv => whnf
        repeat (refine ⟨⟨_, rfl⟩, ?_⟩; conv => whnf)
        refine condB_yes (by rw [e6]; simp) ?_
        conv => whnf
        repeat (refine ⟨⟨_, rfl⟩, ?_⟩; conv => whnf)
        refine condB_yes (by rw [e6]; simp) ?_
        conv => whnf
        repeat (refine ⟨⟨_, rfl⟩, ?_⟩; conv => whnf)
        refine S_kPt_eq (P := Q) ?_
        conv => whnf
        repeat (refine ⟨⟨_, rfl⟩, ?_⟩; conv => whnf)
        refine ⟨q - 1, [(0, .str s), (1, .vsl 1 k cap (bytesG g)), (5, .ptr 0 0 0), (6, .int .i64 ((d + 1 : Nat) : Int)), (8, .int .i64 ((d + 1 : Nat) : Int))], [some ⟨9, 1, lstG 9 (rawL (isI Q) (xN Q) (yN Q))⟩], [some 0], by omega, ⟨d + 1, rfl, rfl, by omega⟩, ?_⟩
        exact .mk0 ⟨.eq _ _ rfl (.str _), .eq _ _ rfl flat_bytesV, .ptr _ _ _ _ rfl, Flat.i rfl, Flat.i e5, trivial⟩ ⟨.old 0 0 _ _ rfl rfl ⟨rfl, Nat.le_refl _, fun i j hi hj => RV.of rfl (by dsimp only; unfold lstG; exact flat_rawG)⟩, trivial⟩ rfl rfl
      · have hdc : d ≠ c := fun h => by subst h; rw [ht, hQ] at hP; cases hP
        conv => whnf
        repeat (refine ⟨⟨_, rfl⟩, ?_⟩; conv => whnf)
        have hz : ((d : Int) == (c : Int)) = false := by simpa using (show (d : Int) ≠ c by omega)
        have hez : (e == 0) = false := by simpa using he
        refine condB_yes (by rw [e6, hz, hez]; rfl) ?_
        conv => whnf
        repeat (refine ⟨⟨_, rfl⟩, ?_⟩; conv => whnf)
        refine condB_no (by rw [e6, hz]; rfl) ?_
        conv => whnf
        repeat (refine ⟨⟨_, rfl⟩, ?_⟩; conv => whnf)
        refine ⟨q - 1, [(0, .str s), (1, .vsl 1 k cap (bytesG g)), (5, .ptr 0 0 0), (6, .int .i64 ((c + 1 : Nat) : Int)), (8, .int .i64 ((d + 1 : Nat) : Int))], [some ⟨9, 1, lstG 9 (rawL (isI P) (xN P) (yN P))⟩], [some 0], by omega, ⟨d + 1, rfl, rfl, by omega⟩, ?_⟩
        exact .mk0 ⟨.eq _ _ rfl (.str _), .eq _ _ rfl flat_bytesV, .ptr _ _ _ _ rfl, Flat.i rfl, Flat.i e5, trivial⟩ ⟨.old 0 0 _ _ rfl rfl ⟨rfl, Nat.le_refl _, fun i j hi hj => RV.of rfl (by dsimp only; unfold lstG; exact flat_rawG)⟩, trivial⟩ rfl rfl
    · conv => whnf
      repeat (refine ⟨⟨_, rfl⟩, ?_⟩; conv => whnf)
      refine condB_yes (by simp; omega) ?_
      conv => whnf
      repeat (refine ⟨⟨_, rfl⟩, ?_⟩; conv => whnf)
      refine condB_yes (by simp; omega) ?_
      conv => whnf
      repeat (refine ⟨⟨_, rfl⟩, ?_⟩; conv => whnf)
      refine S_wakes05 ?_
      conv => whnf
      repeat (refine ⟨⟨_, rfl⟩, ?_⟩; conv => whnf)

theorem S_row_DrawParts (avs : List AV) (h : okVs [.str, .sl 1 (.int .u8), .sl 1 (.int .u8)] avs) : ∃ avs', Retold avs avs' ∧ ACall Pg F_witanlaw05_DrawParts avs' [] (fun x _ => x = .bool true) := by
  obtain ⟨p, _, rfl, h1, q, _, rfl, h2, r, _, rfl, h3, rfl⟩ := h
  obtain ⟨s, rfl, _⟩ := ok_str h1
  obtain ⟨n, c1, f, r1, _, _, hF⟩ := ok_bytes h2
  obtain ⟨n2, c2, f2, r2, _, _, hF2⟩ := ok_bytes h3
  exact ⟨_, .cons (Retold1.refl _) (.cons r1 (.cons r2 .nil)), S_DrawParts s n c1 n2 c2 f f2 hF hF2⟩
theorem S_row_DrawTries (avs : List AV) (h : okVs [.str, .sl 1 (.int .u8)] avs) : ∃ avs', Retold avs avs' ∧ ACall Pg F_witanlaw05_DrawTries avs' [] (fun x _ => x = .bool true) := by
  obtain ⟨p, _, rfl, h1, q, _, rfl, h2, rfl⟩ := h
  obtain ⟨s, rfl, _⟩ := ok_str h1
  obtain ⟨n, c1, f, r1, _, _, hF⟩ := ok_bytes h2
  exact ⟨_, .cons (Retold1.refl _) (.cons r1 .nil), S_DrawTries s n c1 f hF⟩
end Go.Proofs.Ytdeholmpcbakbaa
end

section
/- The law DrawTries answers true for all that it may be handed: its row; no condition. -/
namespace Go.Proofs.Ytdeholmpcbakbaa.drawTries
open Go.ChangeShapes Go.WideShapes Go.ChangeAt Go.RowKit Go.Wit
set_option linter.unusedVariables false
theorem own : ownKnob Try.prog.godebug = none := by kernel_rfl
theorem laid : laidOutB Try.prog = true := by kernel_rfl
set_option maxRecDepth 100000 in
theorem lifted (os : Os) (started : os.Started) (H : Type) (enc : TypeId × Value → H) :
    ReturnsInHanded {} Try.checked os 6 .any (Rows.drawTriesSpec.pre6 enc Try.prog Try.f6 Rows.drawTriesRow.domain false) (Rows.drawTriesSpec.post enc Try.prog Try.f6 false true false false) := by
  refine returnsInHanded_of_change_sized (C := Try.checked) own started (by kernel_rfl) Try.func6
    (ChangeSpec.witness6 (enc := enc) (C := Try.checked) false ⟨#[], #[.string ⟨#[]⟩, .slice none 0 0], []⟩ 12 (by kernel_rfl) (by kernel_rfl) (by kernel_rfl) (by kernel_rfl)) ?_
  intro W base args ds gs before hval0 hW hcnd hsz0 _
  have hval : ∀ (j : Nat) t v, Try.f6.params[j]? = some t → args[j]? = some v → Value.okWide Try.prog W .any base t v := hval0
  have hW' := hW
  obtain ⟨p, q, hA0, hV, rfl, hfz, hnd⟩ := hW
  have hA : DataW.TrodAll enc Try.prog W 0 (fun _ => true) true Try.f6.params.toList args.toList ds p := hA0
  obtain ⟨rfl, rfl⟩ := trodVars_none hV
  have l0 : ds.length = 2 := trod_len hA
  obtain ⟨d1, ds1, rfl, l1⟩ := cons_of_len l0
  obtain ⟨d2, ds2, rfl, l2⟩ := cons_of_len l1
  obtain rfl := nil_of_len l2
  refine (law_open (tys := [.str, .sl 1 (.int .u8)]) (by kernel_rfl) (fun j t v h1 h2 => hval j t v (by simpa using h1) (by simpa using h2)) hA S_row_DrawTries).mono fun e W' ⟨he, bel⟩ => ?_
  subst he
  exact ⟨_, rfl, _, _, _, [], _, [], hW', trodAll_mk1 (shut_bool Try.underlying4 _), shut_vals laid bel (by kernel_rfl) hA, rfl, bel.frame _, fun h => by cases h⟩
theorem over : Rows.drawTriesRow.holds Try.pinned (OpenSpec.ofChange Rows.drawTriesSpec) :=
  OpenClaim.holds_of_wide 6 Try.f6 rfl rfl rfl rfl rfl rfl rfl ⟨rfl, rfl, rfl, rfl, rfl⟩ rfl rfl rfl rfl rfl (by kernel_rfl) Try.func6 (by kernel_rfl)
    (of_decide_eq_true (by kernel_rfl)) (by unfold Func.isWrapper; first | (rw [if_pos (by decide +kernel)]; kernel_rfl) | (rw [if_neg (by decide +kernel)]; exact ⟨rfl, rfl⟩))
    (fun os started H enc _ => lifted os started H enc)
theorem proved : Rows.DrawTriesSaid := over
#print axioms proved
end Go.Proofs.Ytdeholmpcbakbaa.drawTries
namespace Go.Proofs.Ytdeholmpcbakbaa
/-- The row, under a short name, for the claim. -/
theorem drawTries_holds : Rows.DrawTriesSaid := drawTries.proved
end Go.Proofs.Ytdeholmpcbakbaa
end

