/- Texts of a proof, one behind the other; the last of these: The law DleqProves answers true for all that it may be handed: its row; no condition. -/
import Derived.Test.YtdeholmpcbakbaaZ9
import Derived.Test.YtdeholmpcbakbaaRows
import Derived.WalkKit
import Derived.ProofKit
import Derived.OpenShut
import Derived.ShutString
import Derived.ChangeOld
import Derived.Below
import Derived.SizedLaws
section
/- The laws of dleq; no condition. -/
set_option linter.unusedVariables false
set_option linter.unusedSimpArgs false
set_option maxRecDepth 100000
set_option pp.maxSteps 3000
set_option pp.deepTerms false
set_option pp.deepTerms.threshold 7
namespace Go.Proofs.Ytdeholmpcbakbaa
open Go Go.Wit

theorem S_HoldsE {m : Mem} {K : AV → Mem → Prop} {a b k : Pt Fp} {c r : Nat} {v : AV} (hv : v = prA c r) (hc : c < w256) (hr : r < w256) (oa : On a) (ob : On b) (ok : On k) (h : ∀ x, x = hoB a b k c r → K (.tup [.bool x, .int .i64 0]) m) : ACall Pg F_dleq_Holds [ptA a, ptA b, ptA k, v] m K := by
  subst hv; exact S_Holds hc hr oa ob ok h
theorem hoB_ge1 {a b k : Pt Fp} {c r : Nat} (h : nN ≤ c) : hoB a b k c r = false := by
  unfold hoB; rw [decide_eq_false (p := c < nN) (by omega)]; simp
theorem hoB_ge2 {a b k : Pt Fp} {c r : Nat} (h : nN ≤ r) : hoB a b k c r = false := by
  unfold hoB; rw [decide_eq_false (p := r < nN) (by omega)]; simp
theorem lt_w {n : Nat} (h : n < nN) : n < w256 := Nat.lt_trans h (by decide)
theorem S_wakes09 {m : Mem} {K : AV → Mem → Prop} (h : K (.bool true) m) : ACall Pg F_witanlaw09_wakes [] m K := by
  have h0 : ACall Pg F_witanlaw09_wakes [] [] (fun v _ => v = .bool true ∧ Flat true v) := by
    refine B_witanlaw09_wakes ⟨rfl, ?_⟩
    conv => whnf
    repeat (refine ⟨⟨_, rfl⟩, ?_⟩; conv => whnf)
    refine T_Base (n := 9) (by decide) (fun b ob hb => ?_)
    conv => whnf
    repeat (refine ⟨⟨_, rfl⟩, ?_⟩; conv => whnf)
    refine S_Prove (s := 5) (k := 7) (b := b) (by decide) (by decide) ob (fun c r hc hr c1 r1 => ?_)
    conv => whnf
    repeat (refine ⟨⟨_, rfl⟩, ?_⟩; conv => whnf)
    refine T_Times (n := 5) (P := b) (by decide) ob (fun k ok hk => ?_)
    conv => whnf
    repeat (refine ⟨⟨_, rfl⟩, ?_⟩; conv => whnf)
    refine T_Base (n := 5) (by decide) (fun a oa ha => ?_)
    conv => whnf
    repeat (refine ⟨⟨_, rfl⟩, ?_⟩; conv => whnf)
    refine S_HoldsE (a := a) (b := b) (k := k) (c := c) (r := r) rfl (lt_w c1) (lt_w r1) oa ob ok (fun x hx => ?_)
    obtain rfl : x = true := by rw [hx, ha, hk, hr, hc]; exact hoB_prf ob
    clear hx hc hr
    conv => whnf
    repeat (refine ⟨⟨_, rfl⟩, ?_⟩; conv => whnf)
    refine T_Base (n := 5) (by decide) (fun a2 oa2 ha2 => ?_)
    conv => whnf
    repeat (refine ⟨⟨_, rfl⟩, ?_⟩; conv => whnf)
    refine S_Prime_1 (fun p hp => ?_)
    conv => whnf
    repeat (refine ⟨⟨_, rfl⟩, ?_⟩; conv => whnf)
    refine S_HoldsE (a := a2) (b := b) (k := k) (c := p) (r := r) rfl (by rw [hp]; decide) (lt_w r1) oa2 ob ok (fun y hy => ?_)
    obtain rfl : y = false := by rw [hy]; exact hoB_ge1 (by rw [hp]; exact Nat.le_refl _)
    clear hy
    conv => whnf
    repeat (refine ⟨⟨_, rfl⟩, ?_⟩; conv => whnf)
    exact ⟨rfl, .bool _⟩
  refine lift_flat h0 .nil ?_
  rintro v rfl
  exact h
theorem S_DleqProves (s k : Nat) (i : Bool) (x y : Nat) (hs : s < w256) (hk : k < w256) (hx : x < w256) (hy : y < w256) :
    ACall Pg F_witanlaw09_DleqProves [numA s, numA k, rawA i x y] [] (fun v _ => v = .bool true) := by
  refine B_witanlaw09_DleqProves ⟨rfl, ?_⟩
  conv => whnf
  repeat (refine ⟨⟨_, rfl⟩, ?_⟩; conv => whnf)
  rcases raw_cases i x y with ⟨P, oP, eP⟩ | hb
  · rw [eP]
    refine S_Prove (s := s) (k := k) (b := P) hs hk oP (fun c r hc hr c1 r1 => ?_)
    conv => whnf
    repeat (refine ⟨⟨_, rfl⟩, ?_⟩; conv => whnf)
    refine S_rCheck_ok (P := P) oP ?_
    conv => whnf
    repeat (refine ⟨⟨_, rfl⟩, ?_⟩; conv => whnf)
    refine S_RProve (s := s) (k := k) (b := P) hs hk oP (fun c2 r2 hc2 hr2 _ _ => ?_)
    obtain rfl : c = c2 := hc.trans hc2.symm
    obtain rfl : r = r2 := hr.trans hr2.symm
    clear hc hr hc2 hr2
    conv => whnf
    repeat (refine ⟨⟨_, rfl⟩, ?_⟩; conv => whnf)
    refine S_kProof (c := c) (r := r) rfl rfl ?_
    conv => whnf
    repeat (refine ⟨⟨_, rfl⟩, ?_⟩; conv => whnf)
    refine S_wakes09 ?_
    conv => whnf
    repeat (refine ⟨⟨_, rfl⟩, ?_⟩; conv => whnf)
  · refine S_Prove_bad (s := s) (k := k) (i := i) hx hy hb ?_
    conv => whnf
    repeat (refine ⟨⟨_, rfl⟩, ?_⟩; conv => whnf)
    refine S_rCheck_bad (i := i) hx hy hb ?_
    conv => whnf
    repeat (refine ⟨⟨_, rfl⟩, ?_⟩; conv => whnf)
    refine S_kProof (c := 0) (r := 0) rfl rfl ?_
    conv => whnf
    repeat (refine ⟨⟨_, rfl⟩, ?_⟩; conv => whnf)
    refine S_wakes09 ?_
    conv => whnf
    repeat (refine ⟨⟨_, rfl⟩, ?_⟩; conv => whnf)
theorem S_DleqHolds (i j l : Bool) (x1 y1 x2 y2 x3 y3 c r : Nat) (hx1 : x1 < w256) (hy1 : y1 < w256) (hx2 : x2 < w256) (hy2 : y2 < w256) (hx3 : x3 < w256) (hy3 : y3 < w256) (hc : c < w256) (hr : r < w256) :
    ACall Pg F_witanlaw09_DleqHolds [rawA i x1 y1, rawA j x2 y2, rawA l x3 y3, prA c r] [] (fun v _ => v = .bool true) := by
  refine B_witanlaw09_DleqHolds ⟨rfl, ?_⟩
  conv => whnf
  repeat (refine ⟨⟨_, rfl⟩, ?_⟩; conv => whnf)
  rcases raw_cases i x1 y1 with ⟨A, oA, eA⟩ | hb
  · rcases raw_cases j x2 y2 with ⟨B, oB, eB⟩ | hb
    · rcases raw_cases l x3 y3 with ⟨C, oC, eC⟩ | hb
      · rw [eA, eB, eC]
        refine S_Holds (a := A) (b := B) (k := C) (c := c) (r := r) hc hr oA oB oC (fun x hx => ?_)
        conv => whnf
        repeat (refine ⟨⟨_, rfl⟩, ?_⟩; conv => whnf)
        refine S_rCheck_ok (P := A) oA ?_
        conv => whnf
        repeat (refine ⟨⟨_, rfl⟩, ?_⟩; conv => whnf)
        refine S_rCheck_ok (P := B) oB ?_
        conv => whnf
        repeat (refine ⟨⟨_, rfl⟩, ?_⟩; conv => whnf)
        refine S_rCheck_ok (P := C) oC ?_
        conv => whnf
        repeat (refine ⟨⟨_, rfl⟩, ?_⟩; conv => whnf)
        refine S_RHolds (a := A) (b := B) (k := C) (c := c) (r := r) hc hr oA oB oC (fun x2 hx2 => ?_)
        obtain rfl : x = x2 := hx.trans hx2.symm
        clear hx hx2
        conv => whnf
        repeat (refine ⟨⟨_, rfl⟩, ?_⟩; conv => whnf)
        refine condB_yes (by simp) ?_
        conv => whnf
        repeat (refine ⟨⟨_, rfl⟩, ?_⟩; conv => whnf)
        refine S_wakes09 ?_
        conv => whnf
        repeat (refine ⟨⟨_, rfl⟩, ?_⟩; conv => whnf)
      · rw [eA, eB]
        refine S_Holds_bad (i := isI A) (j := isI B) (l := l) (c := c) (r := r) (xN_w A) (yN_w A) (xN_w B) (yN_w B) hx3 hy3 (.inr (.inr hb)) ?_
        conv => whnf
        repeat (refine ⟨⟨_, rfl⟩, ?_⟩; conv => whnf)
        refine S_rCheck_ok (P := A) oA ?_
        conv => whnf
        repeat (refine ⟨⟨_, rfl⟩, ?_⟩; conv => whnf)
        refine S_rCheck_ok (P := B) oB ?_
        conv => whnf
        repeat (refine ⟨⟨_, rfl⟩, ?_⟩; conv => whnf)
        refine S_rCheck_bad (i := l) hx3 hy3 hb ?_
        conv => whnf
        repeat (refine ⟨⟨_, rfl⟩, ?_⟩; conv => whnf)
        refine S_wakes09 ?_
        conv => whnf
        repeat (refine ⟨⟨_, rfl⟩, ?_⟩; conv => whnf)
    · rw [eA]
      refine S_Holds_bad (i := isI A) (j := j) (l := l) (c := c) (r := r) (xN_w A) (yN_w A) hx2 hy2 hx3 hy3 (.inr (.inl hb)) ?_
      conv => whnf
      repeat (refine ⟨⟨_, rfl⟩, ?_⟩; conv => whnf)
      refine S_rCheck_ok (P := A) oA ?_
      conv => whnf
      repeat (refine ⟨⟨_, rfl⟩, ?_⟩; conv => whnf)
      refine S_rCheck_bad (i := j) hx2 hy2 hb ?_
      conv => whnf
      repeat (refine ⟨⟨_, rfl⟩, ?_⟩; conv => whnf)
      refine S_wakes09 ?_
      conv => whnf
      repeat (refine ⟨⟨_, rfl⟩, ?_⟩; conv => whnf)
  · refine S_Holds_bad (i := i) (j := j) (l := l) (c := c) (r := r) hx1 hy1 hx2 hy2 hx3 hy3 (.inl hb) ?_
    conv => whnf
    repeat (refine ⟨⟨_, rfl⟩, ?_⟩; conv => whnf)
    refine S_rCheck_bad (i := i) hx1 hy1 hb ?_
    conv => whnf
    repeat (refine ⟨⟨_, rfl⟩, ?_⟩; conv => whnf)
    refine S_wakes09 ?_
    conv => whnf
    repeat (refine ⟨⟨_, rfl⟩, ?_⟩; conv => whnf)
theorem S_RAddE {m : Mem} {x y : AV} {K : AV → Mem → Prop} {a b : Nat} (hx : x = numA a) (hy : y = numA b) (ha : a < w256) (hb : b < w256) (h : ∀ s c : Nat, a + b = s + c * w256 → s < w256 → c ≤ 1 → K (.tup [numA s, .int .u64 c]) m) : ACall Pg F_witanref01_Add [x, y] m K := by
  subst hx hy; exact S_RAdd ha hb h
theorem S_DleqBack (s k n : Nat) (hs : s < w256) (hk : k < w256) (hn : n < w256) :
    ACall Pg F_witanlaw09_DleqBack [numA s, numA k, numA n] [] (fun v _ => v = .bool true) := by
  refine B_witanlaw09_DleqBack ⟨rfl, ?_⟩
  conv => whnf
  repeat (refine ⟨⟨_, rfl⟩, ?_⟩; conv => whnf)
  refine T_Base (n := n) hn (fun b ob hb => ?_)
  conv => whnf
  repeat (refine ⟨⟨_, rfl⟩, ?_⟩; conv => whnf)
  refine T_Base (n := s) hs (fun a oa ha => ?_)
  conv => whnf
  repeat (refine ⟨⟨_, rfl⟩, ?_⟩; conv => whnf)
  refine T_Times (n := s) (P := b) hs ob (fun q oq hq => ?_)
  conv => whnf
  repeat (refine ⟨⟨_, rfl⟩, ?_⟩; conv => whnf)
  refine S_Prove (s := s) (k := k) (b := b) hs hk ob (fun c r hc hr c1 r1 => ?_)
  conv => whnf
  repeat (refine ⟨⟨_, rfl⟩, ?_⟩; conv => whnf)
  refine S_HoldsE (a := a) (b := b) (k := q) (c := c) (r := r) rfl (lt_w c1) (lt_w r1) oa ob oq (fun x hx => ?_)
  obtain rfl : x = true := by rw [hx, ha, hq, hr, hc]; exact hoB_prf ob
  clear hx hc hr
  conv => whnf
  repeat (refine ⟨⟨_, rfl⟩, ?_⟩; conv => whnf)
  refine S_Prime_1 (fun p hp => ?_)
  conv => whnf
  repeat (refine ⟨⟨_, rfl⟩, ?_⟩; conv => whnf)
  refine S_RAddE (a := c) (b := p) rfl rfl (lt_w c1) (by rw [hp]; decide) (fun u d1 e1 hu hd1 => ?_)
  conv => whnf
  repeat (refine ⟨⟨_, rfl⟩, ?_⟩; conv => whnf)
  refine S_RAddE (a := r) (b := p) rfl rfl (lt_w r1) (by rw [hp]; decide) (fun v d2 e2 hv hd2 => ?_)
  conv => whnf
  repeat (refine ⟨⟨_, rfl⟩, ?_⟩; conv => whnf)
  refine condB_mk (fun h => ?_) (fun h => ?_)
  · have h : d1 = 0 := by simp at h; omega
    conv => whnf
    repeat (refine ⟨⟨_, rfl⟩, ?_⟩; conv => whnf)
    refine S_HoldsE (a := a) (b := b) (k := q) (c := u) (r := r) rfl hu (lt_w r1) oa ob oq (fun x hx => ?_)
    obtain rfl : x = false := by rw [hx]; exact hoB_ge1 (by rw [h, Nat.zero_mul, Nat.add_zero] at e1; omega)
    clear hx
    conv => whnf
    repeat (refine ⟨⟨_, rfl⟩, ?_⟩; conv => whnf)
    refine condB_mk (fun h' => ?_) (fun h' => ?_)
    · have h' : d2 = 0 := by simp at h'; omega
      conv => whnf
      repeat (refine ⟨⟨_, rfl⟩, ?_⟩; conv => whnf)
      refine S_HoldsE (a := a) (b := b) (k := q) (c := c) (r := v) rfl (lt_w c1) hv oa ob oq (fun y hy => ?_)
      obtain rfl : y = false := by rw [hy]; exact hoB_ge2 (by rw [h', Nat.zero_mul, Nat.add_zero] at e2; omega)
      clear hy
      conv => whnf
      repeat (refine ⟨⟨_, rfl⟩, ?_⟩; conv => whnf)
      refine S_wakes09 ?_
      conv => whnf
      repeat (refine ⟨⟨_, rfl⟩, ?_⟩; conv => whnf)
    · conv => whnf
      repeat (refine ⟨⟨_, rfl⟩, ?_⟩; conv => whnf)
      refine S_wakes09 ?_
      conv => whnf
      repeat (refine ⟨⟨_, rfl⟩, ?_⟩; conv => whnf)
  · conv => whnf
    repeat (refine ⟨⟨_, rfl⟩, ?_⟩; conv => whnf)
    refine condB_mk (fun h' => ?_) (fun h' => ?_)
    · have h' : d2 = 0 := by simp at h'; omega
      conv => whnf
      repeat (refine ⟨⟨_, rfl⟩, ?_⟩; conv => whnf)
      refine S_HoldsE (a := a) (b := b) (k := q) (c := c) (r := v) rfl (lt_w c1) hv oa ob oq (fun y hy => ?_)
      obtain rfl : y = false := by rw [hy]; exact hoB_ge2 (by rw [h', Nat.zero_mul, Nat.add_zero] at e2; omega)
      clear hy
      conv => whnf
      repeat (refine ⟨⟨_, rfl⟩, ?_⟩; conv => whnf)
      refine S_wakes09 ?_
      conv => whnf
      repeat (refine ⟨⟨_, rfl⟩, ?_⟩; conv => whnf)
    · conv => whnf
      repeat (refine ⟨⟨_, rfl⟩, ?_⟩; conv => whnf)
      refine S_wakes09 ?_
      conv => whnf
      repeat (refine ⟨⟨_, rfl⟩, ?_⟩; conv => whnf)
theorem S_row_DleqProves (avs : List AV) (h : okVs [tNum, tNum, tPoint] avs) : ∃ avs', Retold avs avs' ∧ ACall Pg F_witanlaw09_DleqProves avs' [] (fun x _ => x = .bool true) := by
  obtain ⟨p, _, rfl, h1, q, _, rfl, h2, r, _, rfl, h3, rfl⟩ := h
  obtain ⟨s, hs, rfl⟩ := ok_num h1
  obtain ⟨k, hk, rfl⟩ := ok_num h2
  obtain ⟨i, x, y, hx, hy, rfl⟩ := ok_point h3
  exact ⟨_, .cons (Retold1.refl _) (.cons (Retold1.refl _) (.cons (Retold1.refl _) .nil)), S_DleqProves s k i x y hs hk hx hy⟩
theorem S_row_DleqHolds (avs : List AV) (h : okVs [tPoint, tPoint, tPoint, tProof] avs) : ∃ avs', Retold avs avs' ∧ ACall Pg F_witanlaw09_DleqHolds avs' [] (fun x _ => x = .bool true) := by
  obtain ⟨p, _, rfl, h1, q, _, rfl, h2, r, _, rfl, h3, s, _, rfl, h4, rfl⟩ := h
  obtain ⟨i, x1, y1, g1, k1, rfl⟩ := ok_point h1
  obtain ⟨j, x2, y2, g2, k2, rfl⟩ := ok_point h2
  obtain ⟨l, x3, y3, g3, k3, rfl⟩ := ok_point h3
  obtain ⟨c, r, hc, hr, rfl⟩ := ok_proof h4
  exact ⟨_, .cons (Retold1.refl _) (.cons (Retold1.refl _) (.cons (Retold1.refl _) (.cons (Retold1.refl _) .nil))), S_DleqHolds i j l x1 y1 x2 y2 x3 y3 c r g1 k1 g2 k2 g3 k3 hc hr⟩
theorem S_row_DleqBack (avs : List AV) (h : okVs [tNum, tNum, tNum] avs) : ∃ avs', Retold avs avs' ∧ ACall Pg F_witanlaw09_DleqBack avs' [] (fun x _ => x = .bool true) := by
  obtain ⟨p, _, rfl, h1, q, _, rfl, h2, r, _, rfl, h3, rfl⟩ := h
  obtain ⟨s, hs, rfl⟩ := ok_num h1
  obtain ⟨k, hk, rfl⟩ := ok_num h2
  obtain ⟨n, hn, rfl⟩ := ok_num h3
  exact ⟨_, .cons (Retold1.refl _) (.cons (Retold1.refl _) (.cons (Retold1.refl _) .nil)), S_DleqBack s k n hs hk hn⟩
theorem T_TwoE {m : Mem} {x y : AV} {K : AV → Mem → Prop} {n k : Nat} {P Q : Pt Fp} (hx : x = numA n) (hy : y = numA k) (hn : n < w256) (hk : k < w256) (oP : On P) (oQ : On Q) (h : ∀ R, On R → R = padd (nmul n P) (nmul k Q) → K (.tup [ptA R, .int .i64 0]) m) : ACall Pg F_curve_Two [x, ptA P, y, ptA Q] m K := by
  subst hx hy; exact T_Two hn hk oP oQ h
theorem S_DleqParts (s k n : Nat) (hs : s < w256) (hk : k < w256) (hn : n < w256) :
    ACall Pg F_witanlaw09_DleqParts [numA s, numA k, numA n] [] (fun v _ => v = .bool true) := by
  refine B_witanlaw09_DleqParts ⟨rfl, ?_⟩
  conv => whnf
  repeat (refine ⟨⟨_, rfl⟩, ?_⟩; conv => whnf)
  refine T_Base (n := n) hn (fun b ob hb => ?_)
  conv => whnf
  repeat (refine ⟨⟨_, rfl⟩, ?_⟩; conv => whnf)
  refine T_Base (n := s) hs (fun a oa ha => ?_)
  conv => whnf
  repeat (refine ⟨⟨_, rfl⟩, ?_⟩; conv => whnf)
  refine T_Times (n := s) (P := b) hs ob (fun q oq hq => ?_)
  conv => whnf
  repeat (refine ⟨⟨_, rfl⟩, ?_⟩; conv => whnf)
  refine T_Base (n := k) hk (fun u ou hu => ?_)
  conv => whnf
  repeat (refine ⟨⟨_, rfl⟩, ?_⟩; conv => whnf)
  refine T_Times (n := k) (P := b) hk ob (fun v ov hv => ?_)
  conv => whnf
  repeat (refine ⟨⟨_, rfl⟩, ?_⟩; conv => whnf)
  refine S_Prove (s := s) (k := k) (b := b) hs hk ob (fun c r hc hr c1 r1 => ?_)
  conv => whnf
  repeat (refine ⟨⟨_, rfl⟩, ?_⟩; conv => whnf)
  refine loop_rounds mixed 6 ?_
  conv => whnf
  repeat (refine ⟨⟨_, rfl⟩, ?_⟩; conv => whnf)
  refine S_CBytesE (P := a) rfl oa (fun ca1 => ?_)
  conv => whnf
  repeat (refine ⟨⟨_, rfl⟩, ?_⟩; conv => whnf)
  refine fun da1 ha1 => ?_
  conv => whnf
  repeat (refine ⟨⟨_, rfl⟩, ?_⟩; conv => whnf)
  refine S_CBytesE (P := b) rfl ob (fun ca2 => ?_)
  conv => whnf
  repeat (refine ⟨⟨_, rfl⟩, ?_⟩; conv => whnf)
  refine fun da2 ha2 => ?_
  conv => whnf
  repeat (refine ⟨⟨_, rfl⟩, ?_⟩; conv => whnf)
  refine S_CBytesE (P := q) rfl oq (fun ca3 => ?_)
  conv => whnf
  repeat (refine ⟨⟨_, rfl⟩, ?_⟩; conv => whnf)
  refine fun da3 ha3 => ?_
  conv => whnf
  repeat (refine ⟨⟨_, rfl⟩, ?_⟩; conv => whnf)
  refine S_CBytesE (P := u) rfl ou (fun ca4 => ?_)
  conv => whnf
  repeat (refine ⟨⟨_, rfl⟩, ?_⟩; conv => whnf)
  refine fun da4 ha4 => ?_
  conv => whnf
  repeat (refine ⟨⟨_, rfl⟩, ?_⟩; conv => whnf)
  refine S_CBytesE (P := v) rfl ov (fun ca5 => ?_)
  conv => whnf
  repeat (refine ⟨⟨_, rfl⟩, ?_⟩; conv => whnf)
  refine fun da5 ha5 => ?_
  conv => whnf
  repeat (refine ⟨⟨_, rfl⟩, ?_⟩; conv => whnf)
  have hN : ∀ i, i < 5 → pbN (pr5 a b q u v i) ≤ 1000000 := fun i _ => Nat.le_trans (pbN_le _) (by decide)
  refine S_DScalar (s := dlB) (r := 5) (N := fun i => pbN (pr5 a b q u v i)) (F := fun i => pbF (pr5 a b q u v i)) (ShowsB.sl rfl (Nat.le_of_eq (Nat.zero_add _)) fun i hi => ?_) (by decide) (by decide) hN (fun i _ j _ => pbF_lt _ _) (fun _ d hd _ => ?_) (fun hn => absurd hn (nT5_le (by decide) (fun i => pbN_le _)))
  · have : i = 0 ∨ i = 1 ∨ i = 2 ∨ i = 3 ∨ i = 4 := by omega
    rcases this with rfl | rfl | rfl | rfl | rfl
    all_goals exact Shows.slG rfl (Nat.le_of_eq (Nat.zero_add _)) (fun j hj => by rw [Nat.zero_add]; rfl)
  obtain rfl : c = d := by rw [hc, hd, ha, hq, hu, hv]; rfl
  clear hd
  conv => whnf
  repeat (refine ⟨⟨_, rfl⟩, ?_⟩; conv => whnf)
  refine T_Base (n := 1) (by decide) (fun g og hg => ?_)
  conv => whnf
  repeat (refine ⟨⟨_, rfl⟩, ?_⟩; conv => whnf)
  refine T_TwoE (n := r) (k := c) (P := g) (Q := a) rfl rfl (lt_w r1) (lt_w c1) og oa (fun x ox hx => ?_)
  obtain rfl : u = x := by
    rw [hx, hg, nmul_one', ha, hr, prf_sum on_G, hu]
  clear hx
  conv => whnf
  repeat (refine ⟨⟨_, rfl⟩, ?_⟩; conv => whnf)
  refine T_TwoE (n := r) (k := c) (P := b) (Q := q) rfl rfl (lt_w r1) (lt_w c1) ob oq (fun y oy hy => ?_)
  obtain rfl : v = y := by
    rw [hy, hq, hr, prf_sum ob, hv]
  clear hy
  conv => whnf
  repeat (refine ⟨⟨_, rfl⟩, ?_⟩; conv => whnf)
  refine condB_yes (by show (eqX c c == true) = true; rw [eqX_refl9]; rfl) ?_
  conv => whnf
  repeat (refine ⟨⟨_, rfl⟩, ?_⟩; conv => whnf)
  refine S_FMul_1 (a := c) (b := s) (lt_w c1) hs (fun m1 hm1 => ?_)
  conv => whnf
  repeat (refine ⟨⟨_, rfl⟩, ?_⟩; conv => whnf)
  refine S_FSub_1 (a := k) (b := m1) hk (by rw [hm1]; exact lt_w (Nat.mod_lt _ (by decide))) (fun m2 hm2 => ?_)
  obtain rfl : r = m2 := by rw [hm2, hm1, hr]; rfl
  clear hm1 hm2
  conv => whnf
  repeat (refine ⟨⟨_, rfl⟩, ?_⟩; conv => whnf)
  refine condB_yes (by show (eqX r r == true) = true; rw [eqX_refl9]; rfl) ?_
  conv => whnf
  repeat (refine ⟨⟨_, rfl⟩, ?_⟩; conv => whnf)
  refine S_kPt_eq (P := u) ?_
  conv => whnf
  repeat (refine ⟨⟨_, rfl⟩, ?_⟩; conv => whnf)
  refine S_kPt_eq (P := v) ?_
  conv => whnf
  repeat (refine ⟨⟨_, rfl⟩, ?_⟩; conv => whnf)
  refine S_wakes09 ?_
  conv => whnf
  repeat (refine ⟨⟨_, rfl⟩, ?_⟩; conv => whnf)
theorem S_row_DleqParts (avs : List AV) (h : okVs [tNum, tNum, tNum] avs) : ∃ avs', Retold avs avs' ∧ ACall Pg F_witanlaw09_DleqParts avs' [] (fun x _ => x = .bool true) := by
  obtain ⟨p, _, rfl, h1, q, _, rfl, h2, r, _, rfl, h3, rfl⟩ := h
  obtain ⟨s, hs, rfl⟩ := ok_num h1
  obtain ⟨k, hk, rfl⟩ := ok_num h2
  obtain ⟨n, hn, rfl⟩ := ok_num h3
  exact ⟨_, .cons (Retold1.refl _) (.cons (Retold1.refl _) (.cons (Retold1.refl _) .nil)), S_DleqParts s k n hs hk hn⟩
end Go.Proofs.Ytdeholmpcbakbaa
end

section
/- The law DleqProves answers true for all that it may be handed: its row; no condition. -/
namespace Go.Proofs.Ytdeholmpcbakbaa.dleqProves
open Go.ChangeShapes Go.WideShapes Go.ChangeAt Go.RowKit Go.Wit
set_option linter.unusedVariables false
theorem own : ownKnob Try.prog.godebug = none := by kernel_rfl
theorem laid : laidOutB Try.prog = true := by kernel_rfl
set_option maxRecDepth 100000 in
theorem lifted (os : Os) (started : os.Started) (H : Type) (enc : TypeId × Value → H) :
    ReturnsInHanded {} Try.checked os 13 .any (Rows.dleqProvesSpec.pre6 enc Try.prog Try.f13 Rows.dleqProvesRow.domain false) (Rows.dleqProvesSpec.post enc Try.prog Try.f13 false true false false) := by
  refine returnsInHanded_of_change_sized (C := Try.checked) own started (by kernel_rfl) Try.func13
    (ChangeSpec.witness6 (enc := enc) (C := Try.checked) false ⟨#[], #[.agg #[.int .u64 0, .int .u64 0, .int .u64 0, .int .u64 0], .agg #[.int .u64 0, .int .u64 0, .int .u64 0, .int .u64 0], .agg #[.bool false, .int .u64 0, .int .u64 0, .int .u64 0, .int .u64 0, .int .u64 0, .int .u64 0, .int .u64 0, .int .u64 0]], []⟩ 12 (by kernel_rfl) (by kernel_rfl) (by kernel_rfl) (by kernel_rfl)) ?_
  intro W base args ds gs before hval0 hW hcnd hsz0 _
  have hval : ∀ (j : Nat) t v, Try.f13.params[j]? = some t → args[j]? = some v → Value.okWide Try.prog W .any base t v := hval0
  have hW' := hW
  obtain ⟨p, q, hA0, hV, rfl, hfz, hnd⟩ := hW
  have hA : DataW.TrodAll enc Try.prog W 0 (fun _ => true) true Try.f13.params.toList args.toList ds p := hA0
  obtain ⟨rfl, rfl⟩ := trodVars_none hV
  have l0 : ds.length = 3 := trod_len hA
  obtain ⟨d1, ds1, rfl, l1⟩ := cons_of_len l0
  obtain ⟨d2, ds2, rfl, l2⟩ := cons_of_len l1
  obtain ⟨d3, ds3, rfl, l3⟩ := cons_of_len l2
  obtain rfl := nil_of_len l3
  refine (law_open (tys := [tNum, tNum, tPoint]) (by kernel_rfl) (fun j t v h1 h2 => hval j t v (by simpa using h1) (by simpa using h2)) hA S_row_DleqProves).mono fun e W' ⟨he, bel⟩ => ?_
  subst he
  exact ⟨_, rfl, _, _, _, [], _, [], hW', trodAll_mk1 (shut_bool Try.underlying4 _), shut_vals laid bel (by kernel_rfl) hA, rfl, bel.frame _, fun h => by cases h⟩
theorem over : Rows.dleqProvesRow.holds Try.pinned (OpenSpec.ofChange Rows.dleqProvesSpec) :=
  OpenClaim.holds_of_wide 13 Try.f13 rfl rfl rfl rfl rfl rfl rfl ⟨rfl, rfl, rfl, rfl, rfl⟩ rfl rfl rfl rfl rfl (by kernel_rfl) Try.func13 (by kernel_rfl)
    (of_decide_eq_true (by kernel_rfl)) (by unfold Func.isWrapper; first | (rw [if_pos (by decide +kernel)]; kernel_rfl) | (rw [if_neg (by decide +kernel)]; exact ⟨rfl, rfl⟩))
    (fun os started H enc _ => lifted os started H enc)
theorem proved : Rows.DleqProvesSaid := over
#print axioms proved
end Go.Proofs.Ytdeholmpcbakbaa.dleqProves
namespace Go.Proofs.Ytdeholmpcbakbaa
/-- The row, under a short name, for the claim. -/
theorem dleqProves_holds : Rows.DleqProvesSaid := dleqProves.proved
end Go.Proofs.Ytdeholmpcbakbaa
end

