/- Texts of a proof, one behind the other; the last of these: The laws FeldExact, FeldFits, FeldAt; no condition. -/
import Derived.Test.YtmngdaeogbjpiaaZ6
section
/- Each point is a multiple of the one that all begins with: there is no room for three times as many, and none is its own counterpart; no condition. -/
set_option linter.unusedVariables false
set_option maxRecDepth 100000
namespace Go.Wit

theorem pigeon {N M : Nat} (f : Nat → Nat) (h1 : ∀ i, i < N → f i < M) (h2 : ∀ i j, i < N → j < N → f i = f j → i = j) : N ≤ M := by
  rcases Nat.lt_or_ge M N with h | h
  · exfalso
    have hn : ((List.range N).map f).Nodup := by
      show List.Pairwise _ _
      rw [List.pairwise_map]
      refine List.Pairwise.imp_of_mem ?_ (List.nodup_range (n := N))
      intro a b ha hb hab he
      exact hab (h2 a b (List.mem_range.1 ha) (List.mem_range.1 hb) he)
    have hs : ∀ x, x ∈ (List.range N).map f → x ∈ List.range M := by
      intro x hx
      obtain ⟨i, hi, rfl⟩ := List.mem_map.1 hx
      exact List.mem_range.2 (h1 i (List.mem_range.1 hi))
    have := (perm_of_sub hn hs (by rw [List.length_map, List.length_range, List.length_range]; omega)).length_eq
    rw [List.length_map, List.length_range, List.length_range] at this
    omega
  · exact h

/-- A number for each point. -/
def ptCode : Pt Fp → Nat
  | .inf => 0
  | .aff x y => 1 + 2 * x.val + y.val % 2
theorem ptCode_lt (P : Pt Fp) : ptCode P < 2 * pP + 1 := by
  cases P with
  | inf => show 0 < _; exact Nat.succ_pos _
  | aff x y =>
    have h := x.isLt
    show 1 + 2 * x.val + y.val % 2 < _
    generalize x.val = a at *
    generalize y.val = b at *
    generalize pP = p at *
    omega
theorem ptCode_inj {P Q : Pt Fp} (oP : On P) (oQ : On Q) (h : ptCode P = ptCode Q) : P = Q := by
  cases P with
  | inf =>
    cases Q with
    | inf => rfl
    | aff x y => exfalso; have : 0 = 1 + 2 * x.val + y.val % 2 := h; omega
  | aff x y =>
    cases Q with
    | inf => exfalso; have : 1 + 2 * x.val + y.val % 2 = 0 := h; omega
    | aff u v =>
      have h : 1 + 2 * x.val + y.val % 2 = 1 + 2 * u.val + v.val % 2 := h
      have hx : x.val = u.val := by omega
      have hy : y.val % 2 = v.val % 2 := by omega
      obtain rfl : x = u := Fin.ext hx
      have e : y * y = v * v := by rw [show y * y = x * x * x + 7 from oP, show v * v = x * x * x + 7 from oQ]
      have v0 : v ≠ 0 := On.y_ne crvP oQ
      rcases sq_eq e with rfl | rfl
      · rfl
      · exfalso
        have := neg_parity v0
        omega

theorem padd_swap {A B C : Pt Fp} (oA : On A) (oB : On B) (oC : On C) : padd (padd A B) C = padd (padd A C) B := by
  rw [padd_assoc crvP oA oB oC, padd_comm B C, ← padd_assoc crvP oA oC oB]
/-- From A + r G = B + s G: A is B and a multiple. -/
theorem coset {A B : Pt Fp} (oA : On A) (oB : On B) {r s N : Nat} (hN : nmul N gG = .inf) (hr : r ≤ N) (h : padd A (nmul r gG) = padd B (nmul s gG)) : A = padd B (nmul (s + (N - r)) gG) := by
  have e : padd (padd A (nmul r gG)) (nmul (N - r) gG) = A := by
    rw [padd_assoc crvP oA (on_G.nmul crvP r) (on_G.nmul crvP _), ← nmul_add crvP on_G, show r + (N - r) = N by omega, hN, padd_inf]
  rw [← e, h, padd_assoc crvP oB (on_G.nmul crvP s) (on_G.nmul crvP _), ← nmul_add crvP on_G]
/-- A summand more that a multiple of the point makes up for is one. -/
theorem coset1 {B P : Pt Fp} (oB : On B) (oP : On P) {k : Nat} (h : padd B P = padd B (nmul k gG)) : P = nmul k gG := by
  have h1 : padd B.neg (padd B P) = padd B.neg (padd B (nmul k gG)) := by rw [h]
  rwa [← padd_assoc crvP oB.neg oB oP, ← padd_assoc crvP oB.neg oB (on_G.nmul crvP k), padd_comm B.neg B, padd_neg, inf_padd, inf_padd] at h1

theorem self_neg {Q : Pt Fp} (oQ : On Q) (h : padd Q Q = .inf) : Q = .inf := by
  have h1 := neg_of_padd oQ oQ h
  cases Q with
  | inf => rfl
  | aff x y =>
    exfalso
    have hy : y = -y := by
      have : Pt.aff x y = Pt.aff x (-y) := h1
      injection this
    have y0 : y ≠ 0 := On.y_ne crvP oQ
    have := neg_parity y0
    rw [← hy] at this
    omega

theorem three_n : 2 * pP + 1 < 3 * nN := by decide
theorem n_odd : nN % 2 = 1 := by decide
theorem all_of {N p : Nat} (h3 : 2 * p + 1 < 3 * N) (hodd : N % 2 = 1) (hc : ∀ P : Pt Fp, ptCode P < 2 * p + 1) (hN : nmul N gG = .inf) (heq : ∀ {a b : Nat}, a < N → b < N → nmul a gG = nmul b gG → a = b) (hmod : ∀ m, nmul (m % N) gG = nmul m gG) {P : Pt Fp} (oP : On P) : ∃ k, P = nmul k gG := by
  have hpos : 0 < N := by omega
  by_cases h1 : ∃ k, P = nmul k gG
  · exact h1
  have o2 := oP.add crvP oP
  -- twice the point is a multiple
  have h2 : ∃ k, padd P P = nmul k gG := by
    by_cases h2 : ∃ k, padd P P = nmul k gG
    · exact h2
    exfalso
    let A : Nat → Pt Fp := fun q => if q = 0 then .inf else if q = 1 then P else padd P P
    have oA : ∀ q, On (A q) := fun q => by
      show On (if q = 0 then .inf else if q = 1 then P else padd P P)
      split
      · trivial
      · split
        · exact oP
        · exact o2
    have key : ∀ q q', q < 3 → q' < 3 → ∀ r s, r < N → s < N → padd (A q) (nmul r gG) = padd (A q') (nmul s gG) → q = q' := by
      intro q q' hq hq' r s hr hs h
      have c1 := coset (oA q) (oA q') hN (Nat.le_of_lt hr) h
      have c2 := coset (oA q') (oA q) hN (Nat.le_of_lt hs) h.symm
      have hh : q = 0 ∨ q = 1 ∨ q = 2 := by omega
      have hh' : q' = 0 ∨ q' = 1 ∨ q' = 2 := by omega
      rcases hh with rfl | rfl | rfl <;> rcases hh' with rfl | rfl | rfl
      · rfl
      · exact absurd ⟨_, c2.trans (inf_padd _)⟩ h1
      · exact absurd ⟨_, c2.trans (inf_padd _)⟩ h2
      · exact absurd ⟨_, c1.trans (inf_padd _)⟩ h1
      · rfl
      · exact absurd ⟨_, coset1 oP oP c2⟩ h1
      · exact absurd ⟨_, c1.trans (inf_padd _)⟩ h2
      · exact absurd ⟨_, coset1 oP oP c1⟩ h1
      · rfl
    have := pigeon (N := 3 * N) (M := 2 * p + 1) (fun i => ptCode (padd (A (i / N)) (nmul (i % N) gG))) (fun i _ => hc _) (fun i j hi hj h => by
      have e := ptCode_inj ((oA _).add crvP (on_G.nmul crvP _)) ((oA _).add crvP (on_G.nmul crvP _)) h
      have hi1 : i / N < 3 := (Nat.div_lt_iff_lt_mul hpos).2 hi
      have hj1 : j / N < 3 := (Nat.div_lt_iff_lt_mul hpos).2 hj
      have hq := key _ _ hi1 hj1 _ _ (Nat.mod_lt _ hpos) (Nat.mod_lt _ hpos) e
      rw [hq] at e
      have e2 : nmul (i % N) gG = nmul (j % N) gG := by
        have h5 : padd (A (j / N)).neg (padd (A (j / N)) (nmul (i % N) gG)) = padd (A (j / N)).neg (padd (A (j / N)) (nmul (j % N) gG)) := by rw [e]
        have oB := oA (j / N)
        rwa [← padd_assoc crvP oB.neg oB (on_G.nmul crvP _), ← padd_assoc crvP oB.neg oB (on_G.nmul crvP _), padd_comm (A (j / N)).neg, padd_neg, inf_padd, inf_padd] at h5
      have e3 := heq (Nat.mod_lt _ hpos) (Nat.mod_lt _ hpos) e2
      have d1 := Nat.div_add_mod i N
      have d2 := Nat.div_add_mod j N
      rw [hq] at d1
      omega)
    omega
  obtain ⟨k, hk⟩ := h2
  -- half of it
  obtain ⟨j, hj⟩ : ∃ j, nmul k gG = nmul (j + j) gG := by
    by_cases hk2 : k % 2 = 0
    · exact ⟨k / 2, by rw [show k / 2 + k / 2 = k by omega]⟩
    · refine ⟨(k + N) / 2, ?_⟩
      rw [show (k + N) / 2 + (k + N) / 2 = k + N by omega, nmul_add crvP on_G, hN, padd_inf]
  have oJ := on_G.nmul crvP j
  have oQ : On (padd P (nmul j gG).neg) := oP.add crvP oJ.neg
  have hQ : padd (padd P (nmul j gG).neg) (padd P (nmul j gG).neg) = .inf := by
    rw [← padd_assoc crvP oQ oP oJ.neg, padd_swap oP oJ.neg oP, padd_assoc crvP o2 oJ.neg oJ.neg, hk, hj, nmul_add crvP on_G, padd_assoc crvP oJ oJ (oJ.neg.add crvP oJ.neg), ← padd_assoc crvP oJ oJ.neg oJ.neg, padd_neg, inf_padd, padd_neg]
  have hz := self_neg oQ hQ
  refine ⟨j, ?_⟩
  have h5 : padd (padd P (nmul j gG).neg) (nmul j gG) = nmul j gG := by rw [hz, inf_padd]
  rwa [padd_assoc crvP oP oJ.neg oJ, padd_comm (nmul j gG).neg, padd_neg, padd_inf] at h5

/-- Each point is a multiple. -/
theorem all_G {P : Pt Fp} (oP : On P) : ∃ k, P = nmul k gG :=
  all_of three_n n_odd ptCode_lt nG (fun ha hb h => by have := nmul_G_eq h; rwa [Nat.mod_eq_of_lt ha, Nat.mod_eq_of_lt hb] at this) nmul_mod oP
/-- So often as numbers say, modulo the second prime. -/
theorem nmul_mod_all {P : Pt Fp} (oP : On P) (j : Nat) : nmul (j % nN) P = nmul j P := by
  obtain ⟨k, rfl⟩ := all_G oP
  rw [← nmul_mul crvP on_G, ← nmul_mul crvP on_G, ← nmul_mod (j % nN * k), ← nmul_mod (j * k), Nat.mod_mul_mod]
end Go.Wit
end

section
/- Rows of numbers and of points; the points of coefficients; no condition. -/
set_option linter.unusedVariables false
set_option linter.unusedSimpArgs false
set_option maxRecDepth 100000
set_option pp.maxSteps 3000
namespace Go.Proofs.Ytmngdaeogbjpiaa
open Go Go.Wit

def numsG (c : Nat → Nat) : Nat → Nat → AV := fun i j => (numL (c i)).getD j .un
def rawsG (I : Nat → Bool) (X Y : Nat → Nat) : Nat → Nat → AV := fun i j => (rawL (I i) (X i) (Y i)).getD j .un
def ptsG (P : Nat → Pt Fp) : Nat → Nat → AV := rawsG (fun i => isI (P i)) (fun i => xN (P i)) (fun i => yN (P i))
theorem flat_rawG {nv : Bool} {i : Bool} {x y k : Nat} : Flat nv ((rawL i x y).getD k .un) := by
  unfold rawL
  match k with
  | 0 => exact .bool _
  | 1 => exact .int _ _
  | 2 => exact .int _ _
  | 3 => exact .int _ _
  | 4 => exact .int _ _
  | 5 => exact .int _ _
  | 6 => exact .int _ _
  | 7 => exact .int _ _
  | 8 => exact .int _ _
  | k + 9 => simp; exact .un
theorem flat_numsG {nv : Bool} {c : Nat → Nat} {i j : Nat} : Flat nv (numsG c i j) := flat_numG
theorem flat_rawsG {nv : Bool} {I : Nat → Bool} {X Y : Nat → Nat} {i j : Nat} : Flat nv (rawsG I X Y i j) := flat_rawG
theorem flat_ptsG {nv : Bool} {P : Nat → Pt Fp} {i j : Nat} : Flat nv (ptsG P i j) := flat_rawG

/-- What stands in slot x shows the n rows G. -/
def ShowsG (m : Mem) (x : AV) (es n : Nat) (G : Nat → Nat → AV) : Prop := ∃ cap, Lend (fun _ => none) (List.range m.length) m x (.vsl es n cap G)
theorem ShowsG.vsl {m : Mem} {es n cap : Nat} {G : Nat → Nat → AV} (h : ∀ i j, i < n → j < es → Flat false (G i j)) : ShowsG m (.vsl es n cap G) es n G := ⟨cap, .vsl _ _ _ _ _ fun i j hi hj => ⟨rfl, h i j hi hj⟩⟩
theorem ShowsG.nils {m : Mem} {es : Nat} {G : Nat → Nat → AV} : ShowsG m .nils es 0 G := ⟨0, .nils _ _⟩
theorem ShowsG.sl {m : Mem} {l off es n cap N : Nat} {g G : Nat → Nat → AV} (h : m[l]? = some (some ⟨es, N, g⟩)) (hn : off + n ≤ N) (hG : ∀ i j, i < n → j < es → G i j = g (off + i) j ∧ Flat false (G i j)) : ShowsG m (.sl l off n cap) es n G :=
  ⟨cap, .sl l off n cap ⟨es, N, g⟩ _ (List.mem_range.2 (lt_of_get h)) h hn hG⟩
/-- What a call gives back shows the n rows G. -/
def RetG (es n : Nat) (G : Nat → Nat → AV) (v : AV) (m : Mem) : Prop :=
  (v = .nils ∧ n = 0) ∨ ∃ l cap N g, v = .sl l 0 n cap ∧ m[l]? = some (some ⟨es, N, g⟩) ∧ n ≤ N ∧ ∀ i j, i < n → j < es → g i j = G i j

theorem lift_G {P : Program} {fn : FuncId} {args args0 : List AV} {m : Mem} {K : AV → Mem → Prop} {es : Nat} {R : Nat → (Nat → Nat → AV) → Prop} (h : ACall P fn args0 [] (fun v m' => ∃ n G, R n G ∧ RetG es n G v m')) (hf : ∀ n G, R n G → ∀ i j, i < n → j < es → Flat true (G i j)) (ha : Lends (fun _ => none) (List.range m.length) m args args0)
    (hK : ∀ n G cap, R n G → K (.sl m.length 0 n cap) (m ++ [some ⟨es, n, G⟩])) : ACall P fn args m K := by
  refine h.frame0 true (List.range m.length) (fun h => by cases h) ha (fun v m' hv => ?_)
  obtain ⟨n, G, hR, hr⟩ := hv
  rcases hr with ⟨rfl, rfl⟩ | ⟨l, cap, N, g, rfl, h1, h2, h3⟩
  · exact ⟨.sl m.length 0 0 0, [some ⟨es, 0, G⟩], [none], Nat.le_refl _, fun i j q hi => by cases i <;> simp at hi, .nils _ _, ⟨.ph _ _ _ (by simp [shiftT]), trivial⟩, hK 0 G 0 hR⟩
  · refine ⟨.sl m.length 0 n cap, [some ⟨es, n, G⟩], [some l], Nat.le_refl _, fun i j q hi hj => ?_, .sl _ _ _ _ _ (by simp [shiftT]), ⟨.old _ l _ _ (by simp [shiftT]) h1 ⟨rfl, h2, fun i j hi hj => ?_⟩, trivial⟩, hK n G cap hR⟩
    · cases i <;> cases j <;> simp at hi hj; rfl
    · exact .eq _ _ (h3 i j hi hj) (by rw [show (Blk.mk es N g).get i j = g i j from rfl, h3 i j hi hj]; exact hf n G hR i j hi hj)

theorem lift_tupG {P : Program} {fn : FuncId} {args args0 : List AV} {m : Mem} {K : AV → Mem → Prop} {es : Nat} {R : Nat → (Nat → Nat → AV) → List AV → Prop} (h : ACall P fn args0 [] (fun v m' => ∃ n G x vs, v = .tup (x :: vs) ∧ R n G vs ∧ RetG es n G x m' ∧ Flats true vs)) (hf : ∀ n G vs, R n G vs → ∀ i j, i < n → j < es → Flat true (G i j)) (ha : Lends (fun _ => none) (List.range m.length) m args args0)
    (hK : ∀ n G cap vs, R n G vs → K (.tup (.sl m.length 0 n cap :: vs)) (m ++ [some ⟨es, n, G⟩])) : ACall P fn args m K := by
  refine h.frame0 true (List.range m.length) (fun h => by cases h) ha (fun v m' hv => ?_)
  obtain ⟨n, G, x, vs, rfl, hR, hr, hfl⟩ := hv
  have hvs : ∀ σ, RVs true σ vs vs := fun σ => by
    clear hR hr
    induction vs with
    | nil => exact .nil
    | cons a r ih => cases hfl with | cons _ _ h1 h2 => exact .cons _ _ _ _ (.eq _ _ rfl h1) (ih h2)
  rcases hr with ⟨rfl, rfl⟩ | ⟨l, cap, N, g, rfl, h1, h2, h3⟩
  · exact ⟨.tup (.sl m.length 0 0 0 :: vs), [some ⟨es, 0, G⟩], [none], Nat.le_refl _, fun i j q hi => by cases i <;> simp at hi, .tup _ _ (.cons _ _ _ _ (.nils _ _) (hvs _)), ⟨.ph _ _ _ (by simp [shiftT]), trivial⟩, hK 0 G 0 vs hR⟩
  · refine ⟨.tup (.sl m.length 0 n cap :: vs), [some ⟨es, n, G⟩], [some l], Nat.le_refl _, fun i j q hi hj => ?_, .tup _ _ (.cons _ _ _ _ (.sl _ _ _ _ _ (by simp [shiftT])) (hvs _)), ⟨.old _ l _ _ (by simp [shiftT]) h1 ⟨rfl, h2, fun i j hi hj => ?_⟩, trivial⟩, hK n G cap vs hR⟩
    · cases i <;> cases j <;> simp at hi hj; rfl
    · exact .eq _ _ (h3 i j hi hj) (by rw [show (Blk.mk es N g).get i j = g i j from rfl, h3 i j hi hj]; exact hf n G vs hR i j hi hj)

/-- One row more behind rows of points. -/
theorem cat_pts {P : Nat → Pt Fp} {k i : Nat} {g : Nat → Nat → AV} (hi : i < k + 1) (hg : i = k → ∀ j, g (i - k) j = ptsG P k j) (j : Nat) : catG k (ptsG P) g i j = ptsG P i j := by
  by_cases h : i < k
  · rw [catG_lt h]
  · have h : i = k := by omega
    rw [catG_ge (by omega), hg h, h]

theorem S_Commit0 (n cap : Nat) (c : Nat → Nat) (hc : ∀ i, i < n → c i < w256) : ACall Pg F_feld_Commit [.vsl 4 n cap (numsG c)] []
    (fun v m' => ∃ n' G x vs, v = .tup (x :: vs) ∧ ((n ≤ 64 ∧ n' = n ∧ G = ptsG (fun i => nmul (c i) gG) ∧ vs = [.int .i64 0]) ∨ (64 < n ∧ n' = 0 ∧ (∃ P, G = ptsG P) ∧ vs = [.int .i64 4])) ∧ RetG 9 n' G x m' ∧ Flats true vs) := by
  obtain ⟨P, hP⟩ : ∃ P : Nat → Pt Fp, P = fun i => nmul (c i) gG := ⟨_, rfl⟩
  rw [← hP]
  refine B_feld_Commit ⟨rfl, ?_⟩
  conv => whnf
  repeat (refine ⟨⟨[], rfl⟩, ?_⟩; conv => whnf)
  refine condB_mk (fun h => ?_) (fun h => ?_)
  · conv => whnf
    repeat (refine ⟨⟨[], rfl⟩, ?_⟩; conv => whnf)
    have h : 64 < n := by simp at h; omega
    exact ⟨0, ptsG P, .nils, _, rfl, .inr ⟨h, rfl, ⟨_, rfl⟩, rfl⟩, .inl ⟨rfl, rfl⟩, .cons _ _ (.int _ _) .nil⟩
  have hn : n ≤ 64 := by simp at h; omega
  conv => whnf
  repeat (refine ⟨⟨[], rfl⟩, ?_⟩; conv => whnf)
  refine loop_wk mixed (I := fun q l m => ∃ (k c' : Nat), l = [(10, .vsl 4 n cap (numsG c)), (11, .int .i64 n), (12, .int .i64 k), (4, .sl 0 0 k c')] ∧ m = [some ⟨9, k, ptsG P⟩] ∧ q + k = n) n
    (l0 := [(10, .vsl 4 n cap (numsG c)), (11, .int .i64 n), (12, .int .i64 (0 : Nat)), (4, .sl 0 0 0 0)]) (m0 := [some ⟨9, 0, ptsG P⟩]) [none] ⟨0, 0, rfl, rfl, rfl⟩ ?_ ?_
  · refine .mk0 ⟨.eq _ _ rfl (.vsl _ _ _ _ rfl (fun _ _ _ _ => flat_numsG)), Flat.i rfl, Flat.i rfl, .nils _ _, trivial⟩ ⟨.ph _ _ _ rfl, trivial⟩ rfl rfl
  · rintro q l m ⟨k, c', rfl, rfl, hq⟩
    conv => whnf
    repeat (refine ⟨⟨[], rfl⟩, ?_⟩; conv => whnf)
    refine condB_mk (fun hb => ?_) (fun hb => ?_)
    · have hb : k < n := by simp at hb; omega
      conv => whnf
      repeat (refine ⟨⟨[], rfl⟩, ?_⟩; conv => whnf)
      refine condB_ok (by simp; omega) ?_
      conv => whnf
      repeat (refine ⟨⟨[], rfl⟩, ?_⟩; conv => whnf)
      refine T_Base (n := c k) (hc k hb) (fun Q oQ hQ => ?_)
      conv => whnf
      repeat (refine ⟨⟨[], rfl⟩, ?_⟩; conv => whnf)
      refine condB_ok (app_ok (decide_eq_true (Nat.le_refl _)) rfl rfl (by omega) (by omega)) (fun cap' hcap => ?_)
      conv => whnf
      repeat (refine ⟨⟨[], rfl⟩, ?_⟩; conv => whnf)
      have e5 : IntKind.i64.wrap ((k : Int) + 1) = ((k + 1 : Nat) : Int) := by rw [w64 (by omega) (by omega)]; omega
      refine ⟨q - 1, [(10, .vsl 4 n cap (numsG c)), (11, .int .i64 n), (12, .int .i64 ((k + 1 : Nat) : Int)), (4, .sl 0 0 (k + 1) cap')], [some ⟨9, k + 1, ptsG P⟩], [some 3], by omega, ⟨k + 1, cap', rfl, rfl, by omega⟩, ?_⟩
      refine .mk0 ⟨.eq _ _ rfl (.vsl _ _ _ _ rfl (fun _ _ _ _ => flat_numsG)), Flat.i rfl, Flat.i e5, .sl _ _ _ _ _ rfl, trivial⟩ ⟨.old 0 3 _ _ rfl rfl ⟨rfl, Nat.le_refl _, fun i j hi hj => ?_⟩, trivial⟩ rfl rfl
      have hPk : P k = Q := by rw [hP, hQ]
      have hi : i < k + 1 := hi
      have hj : j < 9 := hj
      have e := cat_pts (P := P) (k := k) (g := fun i j => (rawL (isI Q) (xN Q) (yN Q)).getD (i * 9 + j) .un) hi (fun h j => by subst h; rw [Nat.sub_self, Nat.zero_mul, Nat.zero_add, ← hPk]; rfl) j
      refine .eq _ _ ?_ ?_
      · refine Eq.trans ?_ e
        dsimp only
        by_cases hik : i < k
        · rw [catG_lt hik, catG_lt hik]
        · rw [catG_ge (by omega), catG_ge (by omega), Nat.zero_add]
          rfl
      · have : Flat false (ptsG P i j) := flat_ptsG
        rw [← e] at this
        dsimp only
        by_cases hik : i < k
        · rw [catG_lt hik]; exact flat_ptsG
        · rw [catG_ge (by omega)] at this ⊢
          rw [Nat.zero_add]
          exact this
    · have hb : k = n := by simp at hb; omega
      subst hb
      conv => whnf
      repeat (refine ⟨⟨[], rfl⟩, ?_⟩; conv => whnf)
      exact ⟨k, ptsG P, _, _, rfl, .inl ⟨hn, rfl, rfl, rfl⟩, .inr ⟨0, c', k, _, rfl, rfl, Nat.le_refl _, fun _ _ _ _ => rfl⟩, .cons _ _ (.int _ _) .nil⟩
end Go.Proofs.Ytmngdaeogbjpiaa
end

section
/- What lists of points are worth somewhere; no condition. -/
set_option linter.unusedVariables false
set_option linter.unusedSimpArgs false
set_option maxRecDepth 100000
set_option pp.maxSteps 3000
namespace Go.Proofs.Ytmngdaeogbjpiaa
open Go Go.Wit

theorem S_Commit {m : Mem} {x : AV} {K : AV → Mem → Prop} {n : Nat} {c : Nat → Nat} (hx : ShowsG m x 4 n (numsG c)) (hc : ∀ i, i < n → c i < w256)
    (h1 : n ≤ 64 → ∀ P cap, P = (fun i => nmul (c i) gG) → memK (m ++ [some ⟨9, n, ptsG P⟩]) (K (.tup [.sl m.length 0 n cap, .int .i64 0])))
    (h2 : 64 < n → ∀ G cap, memK (m ++ [some ⟨9, 0, ptsG G⟩]) (K (.tup [.sl m.length 0 0 cap, .int .i64 4]))) : ACall Pg F_feld_Commit [x] m K := by
  simp only [memK_eq] at h1 h2
  obtain ⟨cap, hl⟩ := hx
  refine lift_tupG (S_Commit0 n cap c hc) (fun n G vs hR i j _ _ => ?_) (.cons _ _ _ _ hl .nil) ?_
  · rcases hR with ⟨_, _, rfl, _⟩ | ⟨_, _, ⟨P, rfl⟩, _⟩ <;> exact flat_ptsG
  rintro n' G cap' vs (⟨a, rfl, rfl, rfl⟩ | ⟨a, rfl, ⟨P, rfl⟩, rfl⟩)
  · exact h1 a _ cap' rfl
  · exact h2 a P cap'

/-- Are these rows points? -/
theorem raws_cases (n : Nat) (I : Nat → Bool) (X Y : Nat → Nat) : (∃ P : Nat → Pt Fp, ∀ i, i < n → On (P i) ∧ rawL (I i) (X i) (Y i) = rawL (isI (P i)) (xN (P i)) (yN (P i))) ∨ ∃ i, i < n ∧ Bad (I i) (X i) (Y i) ∧ ∀ k, k < i → ∃ P, On P ∧ rawA (I k) (X k) (Y k) = ptA P := by
  induction n with
  | zero => exact .inl ⟨fun _ => .inf, fun i hi => absurd hi (Nat.not_lt_zero _)⟩
  | succ n ih =>
    rcases ih with ⟨P, hP⟩ | ⟨i, h1, h2⟩
    · rcases raw_cases (I n) (X n) (Y n) with ⟨Q, oQ, e⟩ | hb
      · refine .inl ⟨fun i => if i = n then Q else P i, fun i hi => ?_⟩
        by_cases h : i = n
        · subst h
          simp only [if_pos]
          exact ⟨oQ, by injection e⟩
        · simp only [if_neg h]
          exact hP i (by omega)
      · exact .inr ⟨n, by omega, hb, fun k hk => ⟨P k, (hP k hk).1, congrArg AV.agg (hP k hk).2⟩⟩
    · exact .inr ⟨i, by omega, h2⟩

theorem S_points0 (n cap : Nat) (P : Nat → Pt Fp) (oP : ∀ i, i < n → On (P i)) (hn : n ≤ 140737488355328) : ACall Pg F_feld_points [.vsl 9 n cap (ptsG P)] [] (fun v _ => v = .bool true ∧ Flat true v) := by
  refine B_feld_points ⟨rfl, ?_⟩
  conv => whnf
  repeat (refine ⟨⟨[], rfl⟩, ?_⟩; conv => whnf)
  refine loop_wk mixed (I := fun q l m => ∃ (k : Nat), l = [(2, .bool false), (5, .vsl 9 n cap (ptsG P)), (6, .int .i64 n), (7, .int .i64 k)] ∧ m = [] ∧ q + k = n) n
    (l0 := [(2, .bool false), (5, .vsl 9 n cap (ptsG P)), (6, .int .i64 n), (7, .int .i64 (0 : Nat))]) (m0 := []) [] ⟨0, rfl, rfl, rfl⟩ ?_ ?_
  · exact .mk0 ⟨Flat.b rfl, .eq _ _ rfl (.vsl _ _ _ _ rfl (fun _ _ _ _ => flat_ptsG)), Flat.i rfl, Flat.i rfl, trivial⟩ trivial rfl rfl
  · rintro q l m ⟨k, rfl, rfl, hq⟩
    conv => whnf
    repeat (refine ⟨⟨[], rfl⟩, ?_⟩; conv => whnf)
    refine condB_mk (fun hb => ?_) (fun hb => ?_)
    · have hb : k < n := by simp at hb; omega
      conv => whnf
      repeat (refine ⟨⟨[], rfl⟩, ?_⟩; conv => whnf)
      refine condB_ok (by simp; omega) ?_
      conv => whnf
      repeat (refine ⟨⟨[], rfl⟩, ?_⟩; conv => whnf)
      refine S_Check_ok (P := P k) (oP k hb) ?_
      conv => whnf
      repeat (refine ⟨⟨[], rfl⟩, ?_⟩; conv => whnf)
      have e5 : IntKind.i64.wrap ((k : Int) + 1) = ((k + 1 : Nat) : Int) := by rw [w64 (by omega) (by omega)]; omega
      refine ⟨q - 1, [(2, .bool false), (5, .vsl 9 n cap (ptsG P)), (6, .int .i64 n), (7, .int .i64 ((k + 1 : Nat) : Int))], [], [], by omega, ⟨k + 1, rfl, rfl, by omega⟩, ?_⟩
      exact .mk0 ⟨Flat.b rfl, .eq _ _ rfl (.vsl _ _ _ _ rfl (fun _ _ _ _ => flat_ptsG)), Flat.i rfl, Flat.i e5, trivial⟩ trivial rfl rfl
    · conv => whnf
      repeat (refine ⟨⟨[], rfl⟩, ?_⟩; conv => whnf)
      exact ⟨rfl, .bool _⟩
theorem S_points_bad0 (n cap : Nat) (I : Nat → Bool) (X Y : Nat → Nat) (hX : ∀ i, i < n → X i < w256) (hY : ∀ i, i < n → Y i < w256) (b : Nat) (hbn : b < n) (hb : Bad (I b) (X b) (Y b)) (hg : ∀ k, k < b → ∃ P, On P ∧ rawA (I k) (X k) (Y k) = ptA P) (hn : n ≤ 140737488355328) : ACall Pg F_feld_points [.vsl 9 n cap (rawsG I X Y)] [] (fun v _ => v = .bool false ∧ Flat true v) := by
  refine B_feld_points ⟨rfl, ?_⟩
  conv => whnf
  repeat (refine ⟨⟨[], rfl⟩, ?_⟩; conv => whnf)
  refine loop_wk mixed (I := fun q l m => ∃ (k : Nat), l = [(2, .bool false), (5, .vsl 9 n cap (rawsG I X Y)), (6, .int .i64 n), (7, .int .i64 k)] ∧ m = [] ∧ q + k = n ∧ k ≤ b) n
    (l0 := [(2, .bool false), (5, .vsl 9 n cap (rawsG I X Y)), (6, .int .i64 n), (7, .int .i64 (0 : Nat))]) (m0 := []) [] ⟨0, rfl, rfl, rfl, Nat.zero_le _⟩ ?_ ?_
  · exact .mk0 ⟨Flat.b rfl, .eq _ _ rfl (.vsl _ _ _ _ rfl (fun _ _ _ _ => flat_rawsG)), Flat.i rfl, Flat.i rfl, trivial⟩ trivial rfl rfl
  · rintro q l m ⟨k, rfl, rfl, hq, hkb⟩
    conv => whnf
    repeat (refine ⟨⟨[], rfl⟩, ?_⟩; conv => whnf)
    refine condB_mk (fun hc => ?_) (fun hc => ?_)
    · have hc : k < n := by simp at hc; omega
      conv => whnf
      repeat (refine ⟨⟨[], rfl⟩, ?_⟩; conv => whnf)
      refine condB_ok (by simp; omega) ?_
      conv => whnf
      repeat (refine ⟨⟨[], rfl⟩, ?_⟩; conv => whnf)
      refine S_Check (i := I k) (x := X k) (y := Y k) (hX k hc) (hY k hc) (fun P oP e => ?_) (fun hbk => ?_)
      · have hne : k ≠ b := fun h => hb P oP (h ▸ e)
        conv => whnf
        repeat (refine ⟨⟨[], rfl⟩, ?_⟩; conv => whnf)
        have e5 : IntKind.i64.wrap ((k : Int) + 1) = ((k + 1 : Nat) : Int) := by rw [w64 (by omega) (by omega)]; omega
        refine ⟨q - 1, [(2, .bool false), (5, .vsl 9 n cap (rawsG I X Y)), (6, .int .i64 n), (7, .int .i64 ((k + 1 : Nat) : Int))], [], [], by omega, ⟨k + 1, rfl, rfl, by omega, by omega⟩, ?_⟩
        exact .mk0 ⟨Flat.b rfl, .eq _ _ rfl (.vsl _ _ _ _ rfl (fun _ _ _ _ => flat_rawsG)), Flat.i rfl, Flat.i e5, trivial⟩ trivial rfl rfl
      · conv => whnf
        repeat (refine ⟨⟨[], rfl⟩, ?_⟩; conv => whnf)
        exact ⟨rfl, .bool _⟩
    · have hc : ¬ k < n := by simp at hc; omega
      omega
theorem S_points {m : Mem} {x : AV} {K : AV → Mem → Prop} {n : Nat} {P : Nat → Pt Fp} (hx : ShowsG m x 9 n (ptsG P)) (oP : ∀ i, i < n → On (P i)) (hn : n ≤ 140737488355328) (h : K (.bool true) m) : ACall Pg F_feld_points [x] m K := by
  obtain ⟨cap, hl⟩ := hx
  refine lift_flat (S_points0 n cap P oP hn) (.cons _ _ _ _ hl .nil) ?_
  rintro v rfl
  exact h
theorem S_points_bad {m : Mem} {x : AV} {K : AV → Mem → Prop} {n : Nat} {I : Nat → Bool} {X Y : Nat → Nat} (hx : ShowsG m x 9 n (rawsG I X Y)) (hX : ∀ i, i < n → X i < w256) (hY : ∀ i, i < n → Y i < w256) {b : Nat} (hbn : b < n) (hb : Bad (I b) (X b) (Y b)) (hg : ∀ k, k < b → ∃ P, On P ∧ rawA (I k) (X k) (Y k) = ptA P) (hn : n ≤ 140737488355328) (h : K (.bool false) m) : ACall Pg F_feld_points [x] m K := by
  obtain ⟨cap, hl⟩ := hx
  refine lift_flat (S_points_bad0 n cap I X Y hX hY b hbn hb hg hn) (.cons _ _ _ _ hl .nil) ?_
  rintro v rfl
  exact h

/-- What points are worth somewhere. -/
noncomputable def polyP (P : Nat → Pt Fp) (x : Nat) : Nat → Pt Fp := Nat.rec (motive := fun _ => Pt Fp) .inf (fun k ih => padd ih (nmul (x ^ k) (P k)))
theorem polyP_0 {P : Nat → Pt Fp} {x : Nat} : polyP P x 0 = .inf := rfl
theorem polyP_succ {P : Nat → Pt Fp} {x k : Nat} : polyP P x (k + 1) = padd (polyP P x k) (nmul (x ^ k) (P k)) := rfl
theorem On.polyP {P : Nat → Pt Fp} {x n : Nat} (oP : ∀ i, i < n → On (P i)) : On (polyP P x n) := by
  induction n with
  | zero => trivial
  | succ n ih => exact (ih fun i hi => oP i (by omega)).add crvP ((oP n (by omega)).nmul crvP _)
def z9 : List AV := [.bool false, .int .u64 0, .int .u64 0, .int .u64 0, .int .u64 0, .int .u64 0, .int .u64 0, .int .u64 0, .int .u64 0]
theorem flat_z9 {nv : Bool} {i : Nat} : Flat nv (z9.getD i .un) := by
  unfold z9
  match i with
  | 0 => exact .bool _
  | 1 => exact .int _ _
  | 2 => exact .int _ _
  | 3 => exact .int _ _
  | 4 => exact .int _ _
  | 5 => exact .int _ _
  | 6 => exact .int _ _
  | 7 => exact .int _ _
  | 8 => exact .int _ _
  | i + 9 => simp; exact .un
theorem rv_one {nv : Bool} {σ : Nat → Option Nat} {l : List AV} {es i j : Nat} (hi : i < 1) (hf : Flat nv (l.getD j .un)) : RV nv σ (l.getD j .un) (lstG es l i j) := by
  obtain rfl : i = 0 := by omega
  refine .eq _ _ ?_ hf
  show _ = l.getD (0 * es + j) .un
  rw [Nat.zero_mul, Nat.zero_add]
theorem flat_numG1 {nv : Bool} {n i j : Nat} : Flat nv (lstG 1 (numL n) i j) := flat_numG
theorem flat_ptG9 {nv : Bool} {P : Pt Fp} {i j : Nat} : Flat nv (lstG 9 (rawL (isI P) (xN P) (yN P)) i j) := flat_rawG

theorem S_At0 (n cap : Nat) (P : Nat → Pt Fp) (x : Nat) (hx : x < w256) (oP : ∀ i, i < n → On (P i)) (hn : n ≤ 64) : ACall Pg F_feld_At [.vsl 9 n cap (ptsG P), numA x] [] (fun v _ => v = .tup [ptA (polyP P x n), .int .i64 0] ∧ Flat true v) := by
  refine B_feld_At ⟨rfl, ?_⟩
  conv => whnf
  repeat (refine ⟨⟨[], rfl⟩, ?_⟩; conv => whnf)
  refine condB_mk (fun h => ?_) (fun h => ?_)
  · exfalso; simp at h; omega
  conv => whnf
  repeat (refine ⟨⟨[], rfl⟩, ?_⟩; conv => whnf)
  refine S_points (P := P) (ShowsG.vsl fun _ _ _ _ => flat_ptsG) oP (by omega) ?_
  conv => whnf
  repeat (refine ⟨⟨[], rfl⟩, ?_⟩; conv => whnf)
  refine loop_wk mixed (I := fun q l m => ∃ (k : Nat) (O : Pt Fp) (w : Nat), l = [(3, .ptr 0 0 0), (4, .ptr 1 0 0), (6, .ptr 2 0 0), (7, .ptr 3 0 0), (22, .vsl 9 n cap (ptsG P)), (23, .int .i64 n), (24, .int .i64 k)] ∧
      m = [some ⟨1, 4, lstG 1 (numL x)⟩, some ⟨9, 1, lstG 9 z9⟩, some ⟨9, 1, lstG 9 (rawL (isI O) (xN O) (yN O))⟩, some ⟨1, 4, lstG 1 (numL w)⟩] ∧ q + k = n ∧ O = polyP P x k ∧ w = x ^ k % nN) n
    (l0 := [(3, .ptr 0 0 0), (4, .ptr 1 0 0), (6, .ptr 2 0 0), (7, .ptr 3 0 0), (22, .vsl 9 n cap (ptsG P)), (23, .int .i64 n), (24, .int .i64 (0 : Nat))])
    (m0 := [some ⟨1, 4, lstG 1 (numL x)⟩, some ⟨9, 1, lstG 9 z9⟩, some ⟨9, 1, lstG 9 (rawL true 0 0)⟩, some ⟨1, 4, lstG 1 (numL 1)⟩]) [some 0, some 1, some 2, some 3] ⟨0, .inf, 1, rfl, rfl, rfl, rfl, by rw [Nat.pow_zero, Nat.mod_eq_of_lt (by decide)]⟩ ?_ ?_
  · refine .mk0 ⟨.ptr _ _ _ _ rfl, .ptr _ _ _ _ rfl, .ptr _ _ _ _ rfl, .ptr _ _ _ _ rfl, .eq _ _ rfl (.vsl _ _ _ _ rfl (fun _ _ _ _ => flat_ptsG)), Flat.i rfl, Flat.i rfl, trivial⟩ ⟨.old 0 0 _ _ rfl rfl ⟨rfl, Nat.le_refl _, fun i j hi hj => .eq _ _ rfl flat_numG⟩,
      .old 1 1 _ _ rfl rfl ⟨rfl, Nat.le_refl _, fun i j hi hj => rv_one (l := z9) hi flat_z9⟩, .old 2 2 _ _ rfl rfl ⟨rfl, Nat.le_refl _, fun i j hi hj => ?_⟩, .old 3 3 _ _ rfl rfl ⟨rfl, Nat.le_refl _, fun i j hi hj => ?_⟩, trivial⟩ rfl rfl
    · have hj : j < 9 := hj
      have hi : i < 1 := hi
      obtain rfl : i = 0 := by omega
      have : j = 0 ∨ j = 1 ∨ j = 2 ∨ j = 3 ∨ j = 4 ∨ j = 5 ∨ j = 6 ∨ j = 7 ∨ j = 8 := by omega
      rcases this with rfl | rfl | rfl | rfl | rfl | rfl | rfl | rfl | rfl
      · exact .eq _ _ rfl (.bool _)
      all_goals exact .eq _ _ rfl (.int _ _)
    · have hj : j < 1 := hj
      have hi : i < 4 := hi
      obtain rfl : j = 0 := by omega
      have : i = 0 ∨ i = 1 ∨ i = 2 ∨ i = 3 := by omega
      rcases this with rfl | rfl | rfl | rfl <;> exact .eq _ _ rfl (.int _ _)
  · rintro q l m ⟨k, O, w, rfl, rfl, hq, hO, hw⟩
    have hw1 : w < w256 := by rw [hw]; exact Nat.lt_trans (Nat.mod_lt _ (by decide)) (by decide)
    conv => whnf
    repeat (refine ⟨⟨[], rfl⟩, ?_⟩; conv => whnf)
    refine condB_mk (fun hb => ?_) (fun hb => ?_)
    · have hb : k < n := by simp at hb; omega
      have oO : On O := by rw [hO]; exact On.polyP fun i hi => oP i (by omega)
      conv => whnf
      repeat (refine ⟨⟨[], rfl⟩, ?_⟩; conv => whnf)
      refine condB_ok (by simp; omega) ?_
      conv => whnf
      repeat (refine ⟨⟨[], rfl⟩, ?_⟩; conv => whnf)
      refine T_Two (n := 1) (k := w) (P := O) (Q := P k) (by decide) hw1 oO (oP k hb) (fun R oR hR => ?_)
      have hR : R = polyP P x (k + 1) := by rw [hR, nmul_one', hw, nmul_mod_all (oP k hb), polyP_succ, hO]
      conv => whnf
      repeat (refine ⟨⟨[], rfl⟩, ?_⟩; conv => whnf)
      refine S_FMul_1 hw1 hx (fun v hv => ?_)
      have hv : v = x ^ (k + 1) % nN := by rw [hv, hw, Nat.mod_mul_mod, Nat.pow_succ]
      conv => whnf
      repeat (refine ⟨⟨[], rfl⟩, ?_⟩; conv => whnf)
      have e5 : IntKind.i64.wrap ((k : Int) + 1) = ((k + 1 : Nat) : Int) := by rw [w64 (by omega) (by omega)]; omega
      refine ⟨q - 1, _, _, [some 0, some 1, some 2, some 3], by omega, ⟨k + 1, R, v, rfl, rfl, by omega, hR, hv⟩, ?_⟩
      refine .mk0 ⟨.ptr _ _ _ _ rfl, .ptr _ _ _ _ rfl, .ptr _ _ _ _ rfl, .ptr _ _ _ _ rfl, .eq _ _ rfl (.vsl _ _ _ _ rfl (fun _ _ _ _ => flat_ptsG)), Flat.i rfl, Flat.i e5, trivial⟩ ⟨.old 0 0 _ _ rfl rfl ⟨rfl, Nat.le_refl _, fun i j hi hj => .eq _ _ rfl flat_numG1⟩,
        .old 1 1 _ _ rfl rfl ⟨rfl, Nat.le_refl _, fun i j hi hj => .eq _ _ rfl flat_z9⟩, .old 2 2 _ _ rfl rfl ⟨rfl, Nat.le_refl _, fun i j hi hj => .eq _ _ rfl flat_ptG9⟩, .old 3 3 _ _ rfl rfl ⟨rfl, Nat.le_refl _, fun i j hi hj => .eq _ _ rfl flat_numG1⟩, trivial⟩ rfl rfl
    · have hb : k = n := by simp at hb; omega
      subst hb
      conv => whnf
      repeat (refine ⟨⟨[], rfl⟩, ?_⟩; conv => whnf)
      rw [← hO]
      exact ⟨rfl, .tup _ (.cons _ _ flat_ptA (.cons _ _ (.int _ _) .nil))⟩
end Go.Proofs.Ytmngdaeogbjpiaa
end

section
/- What lists of points are worth somewhere: the rest of the calls; polynomials; no condition. -/
set_option linter.unusedVariables false
set_option linter.unusedSimpArgs false
set_option maxRecDepth 100000
set_option pp.maxSteps 3000
namespace Go.Proofs.Ytmngdaeogbjpiaa
open Go Go.Wit

theorem flat_pe {P : Pt Fp} {e : Int} : Flat true (.tup [ptA P, .int .i64 e]) := .tup _ (.cons _ _ flat_ptA (.cons _ _ (.int _ _) .nil))
theorem flat_no_e {e : Int} : Flat true (.tup [noPt, .int .i64 e]) := .tup _ (.cons _ _ (flat_no true) (.cons _ _ (.int _ _) .nil))
theorem flat_be {b : Bool} {e : Int} : Flat true (.tup [.bool b, .int .i64 e]) := .tup _ (.cons _ _ (.bool _) (.cons _ _ (.int _ _) .nil))

theorem S_At {m : Mem} {a : AV} {K : AV → Mem → Prop} {n x : Nat} {P : Nat → Pt Fp} (ha : ShowsG m a 9 n (ptsG P)) (hx : x < w256) (oP : ∀ i, i < n → On (P i)) (hn : n ≤ 64) (h : ∀ R, On R → R = polyP P x n → K (.tup [ptA R, .int .i64 0]) m) : ACall Pg F_feld_At [a, numA x] m K := by
  obtain ⟨cap, hl⟩ := ha
  refine lift_flat (S_At0 n cap P x hx oP hn) (.cons _ _ _ _ hl (.cons _ _ _ _ lend_numA .nil)) ?_
  rintro v rfl
  exact h _ (On.polyP oP) rfl
theorem S_At_bad {m : Mem} {a : AV} {K : AV → Mem → Prop} {n x : Nat} {I : Nat → Bool} {X Y : Nat → Nat} (ha : ShowsG m a 9 n (rawsG I X Y)) (hX : ∀ i, i < n → X i < w256) (hY : ∀ i, i < n → Y i < w256) {b : Nat} (hbn : b < n) (hb : Bad (I b) (X b) (Y b)) (hg : ∀ k, k < b → ∃ P, On P ∧ rawA (I k) (X k) (Y k) = ptA P) (hn : n ≤ 64) (h : K (.tup [noPt, .int .i64 3]) m) : ACall Pg F_feld_At [a, numA x] m K := by
  obtain ⟨cap, hl⟩ := ha
  have h0 : ACall Pg F_feld_At [.vsl 9 n cap (rawsG I X Y), numA x] [] (fun v _ => v = .tup [noPt, .int .i64 3] ∧ Flat true v) := by
    refine B_feld_At ⟨rfl, ?_⟩
    conv => whnf
    repeat (refine ⟨⟨[], rfl⟩, ?_⟩; conv => whnf)
    refine condB_mk (fun h => ?_) (fun h => ?_)
    · exfalso; simp at h; omega
    conv => whnf
    repeat (refine ⟨⟨[], rfl⟩, ?_⟩; conv => whnf)
    refine S_points_bad (I := I) (X := X) (Y := Y) (ShowsG.vsl fun _ _ _ _ => flat_rawsG) hX hY hbn hb hg (by omega) ?_
    conv => whnf
    repeat (refine ⟨⟨[], rfl⟩, ?_⟩; conv => whnf)
    exact ⟨rfl, flat_no_e⟩
  refine lift_flat h0 (.cons _ _ _ _ hl (.cons _ _ _ _ lend_numA .nil)) ?_
  rintro v rfl
  exact h
theorem S_At_long {m : Mem} {a : AV} {K : AV → Mem → Prop} {n x : Nat} {G : Nat → Nat → AV} (ha : ShowsG m a 9 n G) (hn : 64 < n) (h : K (.tup [noPt, .int .i64 4]) m) : ACall Pg F_feld_At [a, numA x] m K := by
  obtain ⟨cap, hl⟩ := ha
  have h0 : ACall Pg F_feld_At [.vsl 9 n cap G, numA x] [] (fun v _ => v = .tup [noPt, .int .i64 4] ∧ Flat true v) := by
    refine B_feld_At ⟨rfl, ?_⟩
    conv => whnf
    repeat (refine ⟨⟨[], rfl⟩, ?_⟩; conv => whnf)
    refine condB_mk (fun h => ?_) (fun h => ?_)
    rotate_left
    · exfalso; simp at h; omega
    conv => whnf
    repeat (refine ⟨⟨[], rfl⟩, ?_⟩; conv => whnf)
    exact ⟨rfl, flat_no_e⟩
  refine lift_flat h0 (.cons _ _ _ _ hl (.cons _ _ _ _ lend_numA .nil)) ?_
  rintro v rfl
  exact h

/-- Nine cells, compared. -/
def eq9 (i : Bool) (x y : Nat) (j : Bool) (u v : Nat) : Bool := (i == j) && (lim x 0 == lim u 0 && (lim x 1 == lim u 1 && (lim x 2 == lim u 2 && (lim x 3 == lim u 3 && (lim y 0 == lim v 0 && (lim y 1 == lim v 1 && (lim y 2 == lim v 2 && (lim y 3 == lim v 3 && true))))))))
theorem eq9_iff {i j : Bool} {x y u v : Nat} (hx : x < w256) (hy : y < w256) (hu : u < w256) (hv : v < w256) : eq9 i x y j u v = decide (i = j ∧ x = u ∧ y = v) := by
  have e : eq9 i x y j u v = ((i == j) && (eqX x u && eqX y v)) := by
    unfold eq9 eqX
    simp [Bool.and_assoc]
  rw [e, eqX_iff hx hu, eqX_iff hy hv]
  cases i <;> cases j <;> simp
theorem eq9_pt {P Q : Pt Fp} : eq9 (isI P) (xN P) (yN P) (isI Q) (xN Q) (yN Q) = true ↔ P = Q := by
  rw [eq9_iff (xN_w P) (yN_w P) (xN_w Q) (yN_w Q), decide_eq_true_iff]
  constructor
  · rintro ⟨a, b, c⟩; exact ptA_inj (by rw [ptA, ptA, a, b, c])
  · rintro rfl; exact ⟨rfl, rfl, rfl⟩

theorem S_Fits0 (n cap : Nat) (P : Nat → Pt Fp) (x y : Nat) (hx : x < w256) (hy : y < w256) (oP : ∀ i, i < n → On (P i)) (hn : n ≤ 64) : ACall Pg F_feld_Fits [.vsl 9 n cap (ptsG P), numA x, numA y] [] (fun v _ => ((nmul y gG = polyP P x n ∧ v = .tup [.bool true, .int .i64 0]) ∨ (nmul y gG ≠ polyP P x n ∧ v = .tup [.bool false, .int .i64 0])) ∧ Flat true v) := by
  refine B_feld_Fits ⟨rfl, ?_⟩
  conv => whnf
  repeat (refine ⟨⟨[], rfl⟩, ?_⟩; conv => whnf)
  refine S_At (P := P) (ShowsG.vsl fun _ _ _ _ => flat_ptsG) hx oP hn (fun R oR hR => ?_)
  conv => whnf
  repeat (refine ⟨⟨[], rfl⟩, ?_⟩; conv => whnf)
  refine T_Base hy (fun Q oQ hQ => ?_)
  conv => whnf
  repeat (refine ⟨⟨[], rfl⟩, ?_⟩; conv => whnf)
  rw [← hQ, ← hR]
  show ((Q = R ∧ AV.tup [.bool (eq9 (isI Q) (xN Q) (yN Q) (isI R) (xN R) (yN R)), .int .i64 0] = .tup [.bool true, .int .i64 0]) ∨ (Q ≠ R ∧ AV.tup [.bool (eq9 (isI Q) (xN Q) (yN Q) (isI R) (xN R) (yN R)), .int .i64 0] = .tup [.bool false, .int .i64 0])) ∧ Flat true (AV.tup [.bool (eq9 (isI Q) (xN Q) (yN Q) (isI R) (xN R) (yN R)), .int .i64 0])
  refine ⟨?_, flat_be⟩
  by_cases e : Q = R
  · exact .inl ⟨e, by rw [eq9_pt.2 e]⟩
  · exact .inr ⟨e, by rw [show eq9 (isI Q) (xN Q) (yN Q) (isI R) (xN R) (yN R) = false by rw [Bool.eq_false_iff]; exact fun h => e (eq9_pt.1 h)]⟩
theorem S_Fits {m : Mem} {a : AV} {K : AV → Mem → Prop} {n x y : Nat} {P : Nat → Pt Fp} (ha : ShowsG m a 9 n (ptsG P)) (hx : x < w256) (hy : y < w256) (oP : ∀ i, i < n → On (P i)) (hn : n ≤ 64) (h1 : nmul y gG = polyP P x n → K (.tup [.bool true, .int .i64 0]) m) (h2 : nmul y gG ≠ polyP P x n → K (.tup [.bool false, .int .i64 0]) m) : ACall Pg F_feld_Fits [a, numA x, numA y] m K := by
  obtain ⟨cap, hl⟩ := ha
  refine lift_flat (S_Fits0 n cap P x y hx hy oP hn) (.cons _ _ _ _ hl (.cons _ _ _ _ lend_numA (.cons _ _ _ _ lend_numA .nil))) ?_
  rintro v (⟨e, rfl⟩ | ⟨e, rfl⟩)
  · exact h1 e
  · exact h2 e
theorem S_Fits_bad {m : Mem} {a : AV} {K : AV → Mem → Prop} {n x y : Nat} {I : Nat → Bool} {X Y : Nat → Nat} (ha : ShowsG m a 9 n (rawsG I X Y)) (hX : ∀ i, i < n → X i < w256) (hY : ∀ i, i < n → Y i < w256) {b : Nat} (hbn : b < n) (hb : Bad (I b) (X b) (Y b)) (hg : ∀ k, k < b → ∃ P, On P ∧ rawA (I k) (X k) (Y k) = ptA P) (hn : n ≤ 64) (h : K (.tup [.bool false, .int .i64 3]) m) : ACall Pg F_feld_Fits [a, numA x, numA y] m K := by
  obtain ⟨cap, hl⟩ := ha
  have h0 : ACall Pg F_feld_Fits [.vsl 9 n cap (rawsG I X Y), numA x, numA y] [] (fun v _ => v = .tup [.bool false, .int .i64 3] ∧ Flat true v) := by
    refine B_feld_Fits ⟨rfl, ?_⟩
    conv => whnf
    repeat (refine ⟨⟨[], rfl⟩, ?_⟩; conv => whnf)
    refine S_At_bad (I := I) (X := X) (Y := Y) (ShowsG.vsl fun _ _ _ _ => flat_rawsG) hX hY hbn hb hg hn ?_
    conv => whnf
    repeat (refine ⟨⟨[], rfl⟩, ?_⟩; conv => whnf)
    exact ⟨rfl, flat_be⟩
  refine lift_flat h0 (.cons _ _ _ _ hl (.cons _ _ _ _ lend_numA (.cons _ _ _ _ lend_numA .nil))) ?_
  rintro v rfl
  exact h

/-- What a polynomial is worth, before it is cut. -/
def sumN (c : Nat → Nat) (x : Nat) : Nat → Nat := Nat.rec (motive := fun _ => Nat) 0 (fun k ih => ih + x ^ k * c k)
def horN (c : Nat → Nat) (x n : Nat) : Nat → Nat := Nat.rec (motive := fun _ => Nat) 0 (fun t ih => ih * x + c (n - 1 - t))
theorem sumN_succ {c : Nat → Nat} {x k : Nat} : sumN c x (k + 1) = sumN c x k + x ^ k * c k := rfl
theorem horN_succ {c : Nat → Nat} {x n t : Nat} : horN c x n (t + 1) = horN c x n t * x + c (n - 1 - t) := rfl
theorem horN_sum {c : Nat → Nat} {x n : Nat} : ∀ t, t ≤ n → sumN c x (n - t) + x ^ (n - t) * horN c x n t = sumN c x n
  | 0, _ => by show sumN c x n + _ * 0 = _; rw [Nat.mul_zero, Nat.add_zero]
  | t + 1, h => by
    have ih := horN_sum t (c := c) (x := x) (n := n) (by omega)
    have e : n - t = n - (t + 1) + 1 := by omega
    rw [e, sumN_succ, Nat.pow_succ] at ih
    rw [← ih, horN_succ, show n - 1 - t = n - (t + 1) by omega, Nat.mul_add, Nat.mul_assoc, Nat.mul_comm x (horN c x n t), Nat.add_assoc, Nat.add_comm (x ^ (n - (t + 1)) * c (n - (t + 1)))]
theorem horN_all {c : Nat → Nat} {x n : Nat} : horN c x n n = sumN c x n := by
  have := horN_sum (c := c) (x := x) (n := n) n (Nat.le_refl _)
  rw [Nat.sub_self, Nat.pow_zero, Nat.one_mul] at this
  rw [← this]; show _ = 0 + _; rw [Nat.zero_add]
theorem polyP_sum {c : Nat → Nat} {x : Nat} : ∀ n, polyP (fun i => nmul (c i) gG) x n = nmul (sumN c x n) gG
  | 0 => rfl
  | n + 1 => by rw [polyP_succ, polyP_sum n, sumN_succ, nmul_add crvP on_G, ← nmul_mul crvP on_G]

theorem S_pmul {m : Mem} {K : AV → Mem → Prop} {a b : Nat} (ha : a < w256) (hb : b < w256) (h : ∀ r, r = a * b % nN → K (numA r) m) : ACall Pg F_poly_mul [numA a, numA b] m K := by
  have h0 : ACall Pg F_poly_mul [numA a, numA b] [] (fun v _ => v = numA (a * b % nN) ∧ Flat true v) := by
    refine B_poly_mul ⟨rfl, ?_⟩
    conv => whnf
    repeat (refine ⟨⟨[], rfl⟩, ?_⟩; conv => whnf)
    refine S_FMul_1 ha hb (fun r hr => ?_)
    conv => whnf
    repeat (refine ⟨⟨[], rfl⟩, ?_⟩; conv => whnf)
    rw [← hr]
    exact ⟨rfl, flat_numA⟩
  refine lift_flat h0 (.cons _ _ _ _ lend_numA (.cons _ _ _ _ lend_numA .nil)) ?_
  rintro v rfl
  exact h _ rfl
theorem S_polyadd {m : Mem} {K : AV → Mem → Prop} {a b : Nat} (ha : a < w256) (hb : b < w256) (h : ∀ r, r = (a + b) % nN → K (numA r) m) : ACall Pg F_poly_add [numA a, numA b] m K := by
  have h0 : ACall Pg F_poly_add [numA a, numA b] [] (fun v _ => v = numA ((a + b) % nN) ∧ Flat true v) := by
    refine B_poly_add ⟨rfl, ?_⟩
    conv => whnf
    repeat (refine ⟨⟨[], rfl⟩, ?_⟩; conv => whnf)
    refine S_FAdd_1 ha hb (fun r hr => ?_)
    conv => whnf
    repeat (refine ⟨⟨[], rfl⟩, ?_⟩; conv => whnf)
    rw [← hr]
    exact ⟨rfl, flat_numA⟩
  refine lift_flat h0 (.cons _ _ _ _ lend_numA (.cons _ _ _ _ lend_numA .nil)) ?_
  rintro v rfl
  exact h _ rfl

theorem u4_0 {nv : Bool} {i j : Nat} (hi : i < 4) (hj : j < 1) : RV nv (fun _ => none) ([AV.int .u64 0].getD j .un) (lstG 1 (numL 0) i j) := by
  obtain rfl : j = 0 := by omega
  have : i = 0 ∨ i = 1 ∨ i = 2 ∨ i = 3 := by omega
  rcases this with rfl | rfl | rfl | rfl <;> exact .eq _ _ rfl (.int _ _)
theorem mod_hor {a x c n : Nat} : (a % n * x % n + c) % n = (a * x + c) % n := by
  rw [Nat.mod_mul_mod, Nat.mod_add_mod]
theorem S_Eval0 (n cap : Nat) (c : Nat → Nat) (x : Nat) (hx : x < w256) (hc : ∀ i, i < n → c i < w256) (hn : n ≤ 140737488355328) : ACall Pg F_poly_Eval [.vsl 4 n cap (numsG c), numA x] [] (fun v _ => v = numA (sumN c x n % nN) ∧ Flat true v) := by
  refine B_poly_Eval ⟨rfl, ?_⟩
  conv => whnf
  repeat (refine ⟨⟨[], rfl⟩, ?_⟩; conv => whnf)
  have e10 : IntKind.i64.wrap ((n : Int) - 1) = (n : Int) - 1 := w64 (by omega) (by omega)
  refine loop_wk mixed (I := fun q l m => ∃ (v : Int) (t o : Nat), l = [(0, .vsl 4 n cap (numsG c)), (3, .ptr 0 0 0), (4, .ptr 1 0 0), (5, .ptr 2 0 0), (6, .int .i64 v)] ∧
      m = [some ⟨1, 4, lstG 1 (numL x)⟩, some ⟨1, 4, lstG 1 (numL 0)⟩, some ⟨1, 4, lstG 1 (numL o)⟩] ∧ q + t = n ∧ v = (q : Int) - 1 ∧ o = horN c x n t % nN) n
    (l0 := [(0, .vsl 4 n cap (numsG c)), (3, .ptr 0 0 0), (4, .ptr 1 0 0), (5, .ptr 2 0 0), (6, .int .i64 ((n : Int) - 1))])
    (m0 := [some ⟨1, 4, lstG 1 (numL x)⟩, some ⟨1, 4, lstG 1 (numL 0)⟩, some ⟨1, 4, lstG 1 (numL 0)⟩]) [some 0, some 1, some 2] ⟨_, 0, 0, rfl, rfl, rfl, rfl, rfl⟩ ?_ ?_
  · refine .mk0 ⟨.eq _ _ rfl (.vsl _ _ _ _ rfl (fun _ _ _ _ => flat_numsG)), .ptr _ _ _ _ rfl, .ptr _ _ _ _ rfl, .ptr _ _ _ _ rfl, Flat.i e10, trivial⟩ ⟨.old 0 0 _ _ rfl rfl ⟨rfl, Nat.le_refl _, fun i j hi hj => .eq _ _ rfl flat_numG⟩,
      .old 1 1 _ _ rfl rfl ⟨rfl, Nat.le_refl _, fun i j hi hj => ?_⟩, .old 2 2 _ _ rfl rfl ⟨rfl, Nat.le_refl _, fun i j hi hj => ?_⟩, trivial⟩ rfl rfl
    all_goals
      have hj : j < 1 := hj
      have hi : i < 4 := hi
      obtain rfl : j = 0 := by omega
      have : i = 0 ∨ i = 1 ∨ i = 2 ∨ i = 3 := by omega
      rcases this with rfl | rfl | rfl | rfl <;> exact .eq _ _ rfl (.int _ _)
  · rintro q l m ⟨v, t, o, rfl, rfl, hq, hv, ho⟩
    have ho1 : o < w256 := by rw [ho]; exact Nat.lt_trans (Nat.mod_lt _ (by decide)) (by decide)
    conv => whnf
    repeat (refine ⟨⟨[], rfl⟩, ?_⟩; conv => whnf)
    refine condB_mk (fun hb => ?_) (fun hb => ?_)
    · have hb : v ≥ 0 := of_decide_eq_true hb
      obtain ⟨k, rfl⟩ : ∃ k, q = k + 1 := ⟨q - 1, by omega⟩
      obtain rfl : v = (k : Int) := by omega
      conv => whnf
      repeat (refine ⟨⟨[], rfl⟩, ?_⟩; conv => whnf)
      refine condB_ok (by simp; omega) ?_
      conv => whnf
      repeat (refine ⟨⟨[], rfl⟩, ?_⟩; conv => whnf)
      refine S_pmul ho1 hx (fun r hr => ?_)
      have hr1 : r < w256 := by rw [hr]; exact Nat.lt_trans (Nat.mod_lt _ (by decide)) (by decide)
      conv => whnf
      repeat (refine ⟨⟨[], rfl⟩, ?_⟩; conv => whnf)
      refine S_polyadd (b := c k) hr1 (hc k (by omega)) (fun s hs => ?_)
      conv => whnf
      repeat (refine ⟨⟨[], rfl⟩, ?_⟩; conv => whnf)
      have hs2 : s = horN c x n (t + 1) % nN := by rw [hs, hr, ho, mod_hor, horN_succ, show n - 1 - t = k by omega]
      have e5 : IntKind.i64.wrap ((k : Int) - 1) = (k : Int) - 1 := w64 (by omega) (by omega)
      refine ⟨k, _, _, [some 0, some 1, some 2], Nat.lt_succ_self _, ⟨(k : Int) - 1, t + 1, s, rfl, rfl, by omega, rfl, hs2⟩, ?_⟩
      exact .mk0 ⟨.eq _ _ rfl (.vsl _ _ _ _ rfl (fun _ _ _ _ => flat_numsG)), .ptr _ _ _ _ rfl, .ptr _ _ _ _ rfl, .ptr _ _ _ _ rfl, Flat.i e5, trivial⟩ ⟨.old 0 0 _ _ rfl rfl ⟨rfl, Nat.le_refl _, fun i j hi hj => .eq _ _ rfl flat_numG1⟩,
        .old 1 1 _ _ rfl rfl ⟨rfl, Nat.le_refl _, fun i j hi hj => .eq _ _ rfl flat_numG1⟩, .old 2 2 _ _ rfl rfl ⟨rfl, Nat.le_refl _, fun i j hi hj => .eq _ _ rfl flat_numG1⟩, trivial⟩ rfl rfl
    · have hb : ¬ v ≥ 0 := of_decide_eq_false hb
      obtain rfl : q = 0 := by omega
      obtain rfl : t = n := by omega
      rw [horN_all] at ho
      conv => whnf
      repeat (refine ⟨⟨[], rfl⟩, ?_⟩; conv => whnf)
      rw [← ho]
      exact ⟨rfl, flat_numA⟩
theorem S_Eval {m : Mem} {a : AV} {K : AV → Mem → Prop} {n x : Nat} {c : Nat → Nat} (ha : ShowsG m a 4 n (numsG c)) (hx : x < w256) (hc : ∀ i, i < n → c i < w256) (hn : n ≤ 140737488355328) (h : ∀ r, r = sumN c x n % nN → r < w256 → K (numA r) m) : ACall Pg F_poly_Eval [a, numA x] m K := by
  obtain ⟨cap, hl⟩ := ha
  refine lift_flat (S_Eval0 n cap c x hx hc hn) (.cons _ _ _ _ hl (.cons _ _ _ _ lend_numA .nil)) ?_
  rintro v rfl
  exact h _ rfl (Nat.lt_trans (Nat.mod_lt _ (by decide)) (by decide))

/-- 5 and 3 x at 2 is 11, not 12. -/
def c53 (i : Nat) : Nat := if i = 0 then 5 else 3
theorem S_wakes07 {m : Mem} {K : AV → Mem → Prop} (h : K (.bool true) m) : ACall Pg F_witanlaw07_wakes [] m K := by
  have h0 : ACall Pg F_witanlaw07_wakes [] [] (fun v _ => v = .bool true ∧ Flat true v) := by
    refine B_witanlaw07_wakes ⟨rfl, ?_⟩
    conv => whnf
    repeat (refine ⟨⟨[], rfl⟩, ?_⟩; conv => whnf)
    refine S_Commit (n := 2) (c := c53) (ShowsG.sl rfl (by decide) (fun i j hi hj => ?_)) (fun i hi => ?_) (fun _ P cap hP => ?_) (fun h => absurd h (by decide))
    · have hi2 : i = 0 ∨ i = 1 := by omega
      have hj2 : j = 0 ∨ j = 1 ∨ j = 2 ∨ j = 3 := by omega
      rcases hi2 with rfl | rfl <;> rcases hj2 with rfl | rfl | rfl | rfl <;> exact ⟨rfl, .int _ _⟩
    · unfold c53; split <;> decide
    have oP : ∀ i, i < 2 → On (P i) := fun i _ => by rw [hP]; exact on_G.nmul crvP _
    have e : polyP P 2 2 = nmul 11 gG := by rw [hP, polyP_sum]; rfl
    conv => whnf
    repeat (refine ⟨⟨[], rfl⟩, ?_⟩; conv => whnf)
    refine S_Fits (n := 2) (P := P) (x := 2) (y := 11) (ShowsG.sl rfl (by decide) (fun i j hi hj => ⟨by rw [Nat.zero_add], flat_ptsG⟩)) (by decide) (by decide) oP (by decide) (fun _ => ?_) (fun h => absurd e.symm h)
    conv => whnf
    repeat (refine ⟨⟨[], rfl⟩, ?_⟩; conv => whnf)
    refine S_Fits (n := 2) (P := P) (x := 2) (y := 12) (ShowsG.sl rfl (by decide) (fun i j hi hj => ⟨by rw [Nat.zero_add], flat_ptsG⟩)) (by decide) (by decide) oP (by decide) (fun h => ?_) (fun _ => ?_)
    · exfalso
      have := nmul_G_eq (h.trans e)
      rw [Nat.mod_eq_of_lt (by decide), Nat.mod_eq_of_lt (by decide)] at this
      omega
    conv => whnf
    repeat (refine ⟨⟨[], rfl⟩, ?_⟩; conv => whnf)
    exact ⟨rfl, .bool _⟩
  refine lift_flat h0 .nil ?_
  rintro v rfl
  exact h
end Go.Proofs.Ytmngdaeogbjpiaa
end

section
/- Lists of points: the reference's calls, twins, comparisons; no condition. -/
set_option linter.unusedVariables false
set_option linter.unusedSimpArgs false
set_option maxRecDepth 100000
set_option pp.maxSteps 3000
namespace Go.Proofs.Ytmngdaeogbjpiaa
open Go Go.Wit

theorem T_rBase {m : Mem} {K : AV → Mem → Prop} {n : Nat} (hn : n < w256) (h : ∀ P, On P → P = nmul n gG → K (ptA P) m) : ACall Pg F_witanref01_Base [numA n] m K :=
  S_rBase hn (h _ (on_G.nmul crvP n) rfl)
theorem T_rTimes {m : Mem} {K : AV → Mem → Prop} {n : Nat} {P : Pt Fp} (hn : n < w256) (oP : On P) (h : ∀ R, On R → R = nmul n P → K (ptA R) m) : ACall Pg F_witanref01_Times [numA n, ptA P] m K :=
  S_rTimes hn oP (h _ (oP.nmul crvP n) rfl)
theorem T_rSum {m : Mem} {K : AV → Mem → Prop} {P Q : Pt Fp} (oP : On P) (oQ : On Q) (h : ∀ R, On R → R = padd P Q → K (ptA R) m) : ACall Pg F_witanref01_Sum [ptA P, ptA Q] m K :=
  S_rSum oP oQ (h _ (oP.add crvP oQ) rfl)

theorem S_RCommit0 (n cap : Nat) (c : Nat → Nat) (hc : ∀ i, i < n → c i < w256) (hn : n ≤ 1000000) : ACall Pg F_witanref06_Commit [.vsl 4 n cap (numsG c)] [] (fun v m' => ∃ n' G, (n' = n ∧ G = ptsG (fun i => nmul (c i) gG)) ∧ RetG 9 n' G v m') := by
  obtain ⟨P, hP⟩ : ∃ P : Nat → Pt Fp, P = fun i => nmul (c i) gG := ⟨_, rfl⟩
  rw [← hP]
  refine B_witanref06_Commit ⟨rfl, ?_⟩
  conv => whnf
  repeat (refine ⟨⟨[], rfl⟩, ?_⟩; conv => whnf)
  refine loop_wk mixed (I := fun q l m => ∃ (k c' : Nat), l = [(0, .vsl 4 n cap (numsG c)), (4, .int .i64 k), (3, .sl 0 0 k c')] ∧ m = [some ⟨9, k, ptsG P⟩] ∧ q + k = n) n
    (l0 := [(0, .vsl 4 n cap (numsG c)), (4, .int .i64 (0 : Nat)), (3, .sl 0 0 0 0)]) (m0 := [some ⟨9, 0, ptsG P⟩]) [none] ⟨0, 0, rfl, rfl, rfl⟩ ?_ ?_
  · refine .mk0 ⟨.eq _ _ rfl (.vsl _ _ _ _ rfl (fun _ _ _ _ => flat_numsG)), Flat.i rfl, .nils _ _, trivial⟩ ⟨.ph _ _ _ rfl, trivial⟩ rfl rfl
  · rintro q l m ⟨k, c', rfl, rfl, hq⟩
    conv => whnf
    repeat (refine ⟨⟨[], rfl⟩, ?_⟩; conv => whnf)
    refine condB_mk (fun hb => ?_) (fun hb => ?_)
    · have hb : k < n := by simp at hb; omega
      conv => whnf
      repeat (refine ⟨⟨[], rfl⟩, ?_⟩; conv => whnf)
      refine condB_ok (by simp; omega) ?_
      conv => whnf
      repeat (refine ⟨⟨[], rfl⟩, ?_⟩; conv => whnf)
      refine T_rBase (n := c k) (hc k hb) (fun Q oQ hQ => ?_)
      conv => whnf
      repeat (refine ⟨⟨[], rfl⟩, ?_⟩; conv => whnf)
      refine condB_ok (app_ok (decide_eq_true (Nat.le_refl _)) rfl rfl (by omega) (by omega)) (fun cap' hcap => ?_)
      conv => whnf
      repeat (refine ⟨⟨[], rfl⟩, ?_⟩; conv => whnf)
      have e5 : IntKind.i64.wrap ((k : Int) + 1) = ((k + 1 : Nat) : Int) := by rw [w64 (by omega) (by omega)]; omega
      refine ⟨q - 1, [(0, .vsl 4 n cap (numsG c)), (4, .int .i64 ((k + 1 : Nat) : Int)), (3, .sl 0 0 (k + 1) cap')], [some ⟨9, k + 1, ptsG P⟩], [some 2], by omega, ⟨k + 1, cap', rfl, rfl, by omega⟩, ?_⟩
      refine .mk0 ⟨.eq _ _ rfl (.vsl _ _ _ _ rfl (fun _ _ _ _ => flat_numsG)), Flat.i e5, .sl _ _ _ _ _ rfl, trivial⟩ ⟨.old 0 2 _ _ rfl rfl ⟨rfl, Nat.le_refl _, fun i j hi hj => ?_⟩, trivial⟩ rfl rfl
      have hPk : P k = Q := by rw [hP, hQ]
      have hi : i < k + 1 := hi
      have hj : j < 9 := hj
      have e := cat_pts (P := P) (k := k) (g := fun i j => (rawL (isI Q) (xN Q) (yN Q)).getD (i * 9 + j) .un) hi (fun h j => by subst h; rw [Nat.sub_self, Nat.zero_mul, Nat.zero_add, ← hPk]; rfl) j
      refine .eq _ _ ?_ ?_
      · refine Eq.trans ?_ e
        dsimp only
        by_cases hik : i < k
        · rw [catG_lt hik, catG_lt hik]
        · rw [catG_ge (by omega), catG_ge (by omega), Nat.zero_add]
          rfl
      · have : Flat false (ptsG P i j) := flat_ptsG
        rw [← e] at this
        dsimp only
        by_cases hik : i < k
        · rw [catG_lt hik]; exact flat_ptsG
        · rw [catG_ge (by omega)] at this ⊢
          rw [Nat.zero_add]
          exact this
    · have hb : k = n := by simp at hb; omega
      subst hb
      conv => whnf
      repeat (refine ⟨⟨[], rfl⟩, ?_⟩; conv => whnf)
      exact ⟨k, ptsG P, ⟨rfl, rfl⟩, .inr ⟨0, c', k, _, rfl, rfl, Nat.le_refl _, fun _ _ _ _ => rfl⟩⟩
theorem S_RCommit {m : Mem} {x : AV} {K : AV → Mem → Prop} {n : Nat} {c : Nat → Nat} (hx : ShowsG m x 4 n (numsG c)) (hc : ∀ i, i < n → c i < w256) (hn : n ≤ 1000000)
    (h1 : ∀ P cap, P = (fun i => nmul (c i) gG) → memK (m ++ [some ⟨9, n, ptsG P⟩]) (K (.sl m.length 0 n cap))) : ACall Pg F_witanref06_Commit [x] m K := by
  simp only [memK_eq] at h1
  obtain ⟨cap, hl⟩ := hx
  refine lift_G (S_RCommit0 n cap c hc hn) (fun n G hR i j _ _ => by rw [hR.2]; exact flat_ptsG) (.cons _ _ _ _ hl .nil) ?_
  rintro n' G cap' ⟨rfl, rfl⟩
  exact h1 _ cap' rfl

theorem S_rPoints0 (n cap : Nat) (P : Nat → Pt Fp) (oP : ∀ i, i < n → On (P i)) (hn : n ≤ 140737488355328) : ACall Pg F_witanref06_Points [.vsl 9 n cap (ptsG P)] [] (fun v _ => v = .bool true ∧ Flat true v) := by
  refine B_witanref06_Points ⟨rfl, ?_⟩
  conv => whnf
  repeat (refine ⟨⟨[], rfl⟩, ?_⟩; conv => whnf)
  refine loop_wk mixed (I := fun q l m => ∃ (k : Nat), l = [(0, .vsl 9 n cap (ptsG P)), (2, .bool false), (3, .int .i64 k)] ∧ m = [] ∧ q + k = n) n
    (l0 := [(0, .vsl 9 n cap (ptsG P)), (2, .bool false), (3, .int .i64 (0 : Nat))]) (m0 := []) [] ⟨0, rfl, rfl, rfl⟩ ?_ ?_
  · exact .mk0 ⟨.eq _ _ rfl (.vsl _ _ _ _ rfl (fun _ _ _ _ => flat_ptsG)), Flat.b rfl, Flat.i rfl, trivial⟩ trivial rfl rfl
  · rintro q l m ⟨k, rfl, rfl, hq⟩
    conv => whnf
    repeat (refine ⟨⟨[], rfl⟩, ?_⟩; conv => whnf)
    refine condB_mk (fun hb => ?_) (fun hb => ?_)
    · have hb : k < n := by simp at hb; omega
      conv => whnf
      repeat (refine ⟨⟨[], rfl⟩, ?_⟩; conv => whnf)
      refine condB_ok (by simp; omega) ?_
      conv => whnf
      repeat (refine ⟨⟨[], rfl⟩, ?_⟩; conv => whnf)
      refine S_rCheck_ok (P := P k) (oP k hb) ?_
      conv => whnf
      repeat (refine ⟨⟨[], rfl⟩, ?_⟩; conv => whnf)
      have e5 : IntKind.i64.wrap ((k : Int) + 1) = ((k + 1 : Nat) : Int) := by rw [w64 (by omega) (by omega)]; omega
      refine ⟨q - 1, [(0, .vsl 9 n cap (ptsG P)), (2, .bool false), (3, .int .i64 ((k + 1 : Nat) : Int))], [], [], by omega, ⟨k + 1, rfl, rfl, by omega⟩, ?_⟩
      exact .mk0 ⟨.eq _ _ rfl (.vsl _ _ _ _ rfl (fun _ _ _ _ => flat_ptsG)), Flat.b rfl, Flat.i e5, trivial⟩ trivial rfl rfl
    · conv => whnf
      repeat (refine ⟨⟨[], rfl⟩, ?_⟩; conv => whnf)
      exact ⟨rfl, .bool _⟩
theorem S_rPoints_bad0 (n cap : Nat) (I : Nat → Bool) (X Y : Nat → Nat) (hX : ∀ i, i < n → X i < w256) (hY : ∀ i, i < n → Y i < w256) (b : Nat) (hbn : b < n) (hb : Bad (I b) (X b) (Y b)) (hn : n ≤ 140737488355328) : ACall Pg F_witanref06_Points [.vsl 9 n cap (rawsG I X Y)] [] (fun v _ => v = .bool false ∧ Flat true v) := by
  refine B_witanref06_Points ⟨rfl, ?_⟩
  conv => whnf
  repeat (refine ⟨⟨[], rfl⟩, ?_⟩; conv => whnf)
  refine loop_wk mixed (I := fun q l m => ∃ (k : Nat), l = [(0, .vsl 9 n cap (rawsG I X Y)), (2, .bool false), (3, .int .i64 k)] ∧ m = [] ∧ q + k = n ∧ k ≤ b) n
    (l0 := [(0, .vsl 9 n cap (rawsG I X Y)), (2, .bool false), (3, .int .i64 (0 : Nat))]) (m0 := []) [] ⟨0, rfl, rfl, rfl, Nat.zero_le _⟩ ?_ ?_
  · exact .mk0 ⟨.eq _ _ rfl (.vsl _ _ _ _ rfl (fun _ _ _ _ => flat_rawsG)), Flat.b rfl, Flat.i rfl, trivial⟩ trivial rfl rfl
  · rintro q l m ⟨k, rfl, rfl, hq, hkb⟩
    conv => whnf
    repeat (refine ⟨⟨[], rfl⟩, ?_⟩; conv => whnf)
    refine condB_mk (fun hc => ?_) (fun hc => ?_)
    · have hc : k < n := by simp at hc; omega
      conv => whnf
      repeat (refine ⟨⟨[], rfl⟩, ?_⟩; conv => whnf)
      refine condB_ok (by simp; omega) ?_
      conv => whnf
      repeat (refine ⟨⟨[], rfl⟩, ?_⟩; conv => whnf)
      refine S_rCheck (i := I k) (x := X k) (y := Y k) (hX k hc) (hY k hc) (fun P oP e => ?_) (fun hbk => ?_)
      · have hne : k ≠ b := fun h => hb P oP (h ▸ e)
        conv => whnf
        repeat (refine ⟨⟨[], rfl⟩, ?_⟩; conv => whnf)
        have e5 : IntKind.i64.wrap ((k : Int) + 1) = ((k + 1 : Nat) : Int) := by rw [w64 (by omega) (by omega)]; omega
        refine ⟨q - 1, [(0, .vsl 9 n cap (rawsG I X Y)), (2, .bool false), (3, .int .i64 ((k + 1 : Nat) : Int))], [], [], by omega, ⟨k + 1, rfl, rfl, by omega, by omega⟩, ?_⟩
        exact .mk0 ⟨.eq _ _ rfl (.vsl _ _ _ _ rfl (fun _ _ _ _ => flat_rawsG)), Flat.b rfl, Flat.i e5, trivial⟩ trivial rfl rfl
      · conv => whnf
        repeat (refine ⟨⟨[], rfl⟩, ?_⟩; conv => whnf)
        exact ⟨rfl, .bool _⟩
    · have hc : ¬ k < n := by simp at hc; omega
      omega
theorem S_rPoints {m : Mem} {x : AV} {K : AV → Mem → Prop} {n : Nat} {P : Nat → Pt Fp} (hx : ShowsG m x 9 n (ptsG P)) (oP : ∀ i, i < n → On (P i)) (hn : n ≤ 140737488355328) (h : K (.bool true) m) : ACall Pg F_witanref06_Points [x] m K := by
  obtain ⟨cap, hl⟩ := hx
  refine lift_flat (S_rPoints0 n cap P oP hn) (.cons _ _ _ _ hl .nil) ?_
  rintro v rfl
  exact h
theorem S_rPoints_bad {m : Mem} {x : AV} {K : AV → Mem → Prop} {n : Nat} {I : Nat → Bool} {X Y : Nat → Nat} (hx : ShowsG m x 9 n (rawsG I X Y)) (hX : ∀ i, i < n → X i < w256) (hY : ∀ i, i < n → Y i < w256) {b : Nat} (hbn : b < n) (hb : Bad (I b) (X b) (Y b)) (hn : n ≤ 140737488355328) (h : K (.bool false) m) : ACall Pg F_witanref06_Points [x] m K := by
  obtain ⟨cap, hl⟩ := hx
  refine lift_flat (S_rPoints_bad0 n cap I X Y hX hY b hbn hb hn) (.cons _ _ _ _ hl .nil) ?_
  rintro v rfl
  exact h

noncomputable def horP (P : Nat → Pt Fp) (x n : Nat) : Nat → Pt Fp := Nat.rec (motive := fun _ => Pt Fp) .inf (fun t ih => padd (nmul x ih) (P (n - 1 - t)))
theorem horP_succ {P : Nat → Pt Fp} {x n t : Nat} : horP P x n (t + 1) = padd (nmul x (horP P x n t)) (P (n - 1 - t)) := rfl
theorem On.horP {P : Nat → Pt Fp} {x n : Nat} (oP : ∀ i, i < n → On (P i)) : ∀ t, t ≤ n → On (horP P x n t)
  | 0, _ => trivial
  | t + 1, h => ((On.horP oP t (by omega)).nmul crvP x).add crvP (oP _ (by omega))
theorem horP_poly {P : Nat → Pt Fp} {x n : Nat} (oP : ∀ i, i < n → On (P i)) : ∀ t, t ≤ n → padd (polyP P x (n - t)) (nmul (x ^ (n - t)) (horP P x n t)) = polyP P x n
  | 0, _ => by show padd (polyP P x n) (nmul _ .inf) = _; rw [nmul_inf, padd_inf]
  | t + 1, h => by
    have ih := horP_poly (x := x) oP t (by omega)
    have oH := On.horP (x := x) oP t (by omega)
    have e : n - t = n - (t + 1) + 1 := by omega
    have oA : On (polyP P x (n - (t + 1))) := On.polyP fun i hi => oP i (by omega)
    have oK := oP (n - (t + 1)) (by omega)
    rw [e, polyP_succ, Nat.pow_succ, nmul_mul crvP oH] at ih
    rw [← ih, horP_succ, show n - 1 - t = n - (t + 1) by omega, nmul_padd crvP (oH.nmul crvP x) oK, padd_assoc crvP oA (oK.nmul crvP _) ((oH.nmul crvP x).nmul crvP _), padd_comm (nmul (x ^ (n - (t + 1))) (P (n - (t + 1))))]
theorem horP_all {P : Nat → Pt Fp} {x n : Nat} (oP : ∀ i, i < n → On (P i)) : horP P x n n = polyP P x n := by
  have := horP_poly (x := x) oP n (Nat.le_refl _)
  rw [Nat.sub_self, Nat.pow_zero, nmul_one', polyP_0, inf_padd] at this
  exact this

theorem S_RAt0 (n cap : Nat) (P : Nat → Pt Fp) (x : Nat) (hx : x < w256) (oP : ∀ i, i < n → On (P i)) (hn : n ≤ 140737488355328) : ACall Pg F_witanref06_At [.vsl 9 n cap (ptsG P), numA x] [] (fun v _ => v = ptA (polyP P x n) ∧ Flat true v) := by
  refine B_witanref06_At ⟨rfl, ?_⟩
  conv => whnf
  repeat (refine ⟨⟨[], rfl⟩, ?_⟩; conv => whnf)
  refine S_rInf ?_
  conv => whnf
  repeat (refine ⟨⟨[], rfl⟩, ?_⟩; conv => whnf)
  have e10 : IntKind.i64.wrap ((n : Int) - 1) = (n : Int) - 1 := w64 (by omega) (by omega)
  refine loop_wk mixed (I := fun q l m => ∃ (v : Int) (t : Nat) (O : Pt Fp), l = [(0, .vsl 9 n cap (ptsG P)), (3, .ptr 0 0 0), (4, .ptr 1 0 0), (5, .ptr 2 0 0), (6, .int .i64 v)] ∧
      m = [some ⟨1, 4, lstG 1 (numL x)⟩, some ⟨9, 1, lstG 9 z9⟩, some ⟨9, 1, lstG 9 (rawL (isI O) (xN O) (yN O))⟩] ∧ q + t = n ∧ v = (q : Int) - 1 ∧ O = horP P x n t) n
    (l0 := [(0, .vsl 9 n cap (ptsG P)), (3, .ptr 0 0 0), (4, .ptr 1 0 0), (5, .ptr 2 0 0), (6, .int .i64 ((n : Int) - 1))])
    (m0 := [some ⟨1, 4, lstG 1 (numL x)⟩, some ⟨9, 1, lstG 9 z9⟩, some ⟨9, 1, lstG 9 (rawL (isI .inf) (xN .inf) (yN .inf))⟩]) [some 0, some 1, some 2] ⟨_, 0, .inf, rfl, rfl, rfl, rfl, rfl⟩ ?_ ?_
  · refine .mk0 ⟨.eq _ _ rfl (.vsl _ _ _ _ rfl (fun _ _ _ _ => flat_ptsG)), .ptr _ _ _ _ rfl, .ptr _ _ _ _ rfl, .ptr _ _ _ _ rfl, Flat.i e10, trivial⟩ ⟨.old 0 0 _ _ rfl rfl ⟨rfl, Nat.le_refl _, fun i j hi hj => .eq _ _ rfl flat_numG⟩,
      .old 1 1 _ _ rfl rfl ⟨rfl, Nat.le_refl _, fun i j hi hj => rv_one (l := z9) hi flat_z9⟩, .old 2 2 _ _ rfl rfl ⟨rfl, Nat.le_refl _, fun i j hi hj => .eq _ _ rfl flat_ptG9⟩, trivial⟩ rfl rfl
  · rintro q l m ⟨v, t, O, rfl, rfl, hq, hv, hO⟩
    conv => whnf
    repeat (refine ⟨⟨[], rfl⟩, ?_⟩; conv => whnf)
    refine condB_mk (fun hb => ?_) (fun hb => ?_)
    · have hb : v ≥ 0 := of_decide_eq_true hb
      obtain ⟨k, rfl⟩ : ∃ k, q = k + 1 := ⟨q - 1, by omega⟩
      obtain rfl : v = (k : Int) := by omega
      have oO : On O := by rw [hO]; exact On.horP oP t (by omega)
      conv => whnf
      repeat (refine ⟨⟨[], rfl⟩, ?_⟩; conv => whnf)
      refine condB_ok (by simp; omega) ?_
      conv => whnf
      repeat (refine ⟨⟨[], rfl⟩, ?_⟩; conv => whnf)
      refine S_RRed_1 hx (fun r hr => ?_)
      have hr1 : r < w256 := by rw [hr]; exact Nat.lt_trans (Nat.mod_lt _ (by decide)) (by decide)
      conv => whnf
      repeat (refine ⟨⟨[], rfl⟩, ?_⟩; conv => whnf)
      refine T_rTimes (P := O) hr1 oO (fun T oT hT => ?_)
      conv => whnf
      repeat (refine ⟨⟨[], rfl⟩, ?_⟩; conv => whnf)
      refine T_rSum (Q := P k) oT (oP k (by omega)) (fun S oS hS => ?_)
      have hS : S = horP P x n (t + 1) := by rw [hS, hT, hr, nmul_mod_all oO, horP_succ, hO, show n - 1 - t = k by omega]
      conv => whnf
      repeat (refine ⟨⟨[], rfl⟩, ?_⟩; conv => whnf)
      have e5 : IntKind.i64.wrap ((k : Int) - 1) = (k : Int) - 1 := w64 (by omega) (by omega)
      refine ⟨k, _, _, [some 0, some 1, some 2], Nat.lt_succ_self _, ⟨(k : Int) - 1, t + 1, S, rfl, rfl, by omega, rfl, hS⟩, ?_⟩
      exact .mk0 ⟨.eq _ _ rfl (.vsl _ _ _ _ rfl (fun _ _ _ _ => flat_ptsG)), .ptr _ _ _ _ rfl, .ptr _ _ _ _ rfl, .ptr _ _ _ _ rfl, Flat.i e5, trivial⟩ ⟨.old 0 0 _ _ rfl rfl ⟨rfl, Nat.le_refl _, fun i j hi hj => .eq _ _ rfl flat_numG1⟩,
        .old 1 1 _ _ rfl rfl ⟨rfl, Nat.le_refl _, fun i j hi hj => .eq _ _ rfl flat_z9⟩, .old 2 2 _ _ rfl rfl ⟨rfl, Nat.le_refl _, fun i j hi hj => .eq _ _ rfl flat_ptG9⟩, trivial⟩ rfl rfl
    · have hb : ¬ v ≥ 0 := of_decide_eq_false hb
      obtain rfl : q = 0 := by omega
      obtain rfl : t = n := by omega
      rw [horP_all oP] at hO
      conv => whnf
      repeat (refine ⟨⟨[], rfl⟩, ?_⟩; conv => whnf)
      rw [← hO]
      exact ⟨rfl, flat_ptA⟩
theorem S_RAt {m : Mem} {a : AV} {K : AV → Mem → Prop} {n x : Nat} {P : Nat → Pt Fp} (ha : ShowsG m a 9 n (ptsG P)) (hx : x < w256) (oP : ∀ i, i < n → On (P i)) (hn : n ≤ 140737488355328) (h : ∀ R, On R → R = polyP P x n → K (ptA R) m) : ACall Pg F_witanref06_At [a, numA x] m K := by
  obtain ⟨cap, hl⟩ := ha
  refine lift_flat (S_RAt0 n cap P x hx oP hn) (.cons _ _ _ _ hl (.cons _ _ _ _ lend_numA .nil)) ?_
  rintro v rfl
  exact h _ (On.polyP oP) rfl

theorem S_rsame0 (i j : Bool) (x y u v : Nat) (hx : x < w256) (hy : y < w256) (hu : u < w256) (hv : v < w256) : ACall Pg F_witanref06_same [rawA i x y, rawA j u v] [] (fun r _ => ((i = j ∧ x = u ∧ y = v ∧ r = .bool true) ∨ (¬ (i = j ∧ x = u ∧ y = v) ∧ r = .bool false)) ∧ Flat true r) := by
  refine B_witanref06_same ⟨rfl, ?_⟩
  conv => whnf
  refine condB_mk (p := _) (q := _) (fun h => ?_) (fun h => ?_)
  · conv => whnf
    refine c_eq_t hx hu (fun h1 => ?_) (fun h1 => ?_)
    · conv => whnf
      have hij : i = j := by cases i <;> cases j <;> first | rfl | exact absurd h (by decide)
      show ((i = j ∧ x = u ∧ y = v ∧ AV.bool (eqX y v) = .bool true) ∨ (¬ (i = j ∧ x = u ∧ y = v) ∧ AV.bool (eqX y v) = .bool false)) ∧ Flat true (AV.bool (eqX y v))
      refine ⟨?_, .bool _⟩
      rw [eqX_iff hy hv]
      by_cases e : y = v
      · exact .inl ⟨hij, h1, e, by rw [decide_eq_true e]⟩
      · exact .inr ⟨fun h => e h.2.2, by rw [decide_eq_false e]⟩
    · conv => whnf
      exact ⟨.inr ⟨fun h => h1 h.2.1, rfl⟩, .bool _⟩
  · conv => whnf
    refine ⟨.inr ⟨fun h1 => ?_, rfl⟩, .bool _⟩
    obtain ⟨rfl, -, -⟩ := h1
    revert h
    cases i <;> decide
theorem S_rsame {m : Mem} {K : AV → Mem → Prop} {P Q : Pt Fp} (h1 : P = Q → K (.bool true) m) (h2 : P ≠ Q → K (.bool false) m) : ACall Pg F_witanref06_same [ptA P, ptA Q] m K := by
  refine lift_flat (S_rsame0 _ _ _ _ _ _ (xN_w P) (yN_w P) (xN_w Q) (yN_w Q)) (.cons _ _ _ _ (lend_flat flat_ptA) (.cons _ _ _ _ (lend_flat flat_ptA) .nil)) ?_
  rintro r (⟨a, b, c, rfl⟩ | ⟨a, rfl⟩)
  · exact h1 (ptA_inj (by rw [ptA, ptA, a, b, c]))
  · exact h2 fun e => a (by subst e; exact ⟨rfl, rfl, rfl⟩)
theorem S_RFits0 (n cap : Nat) (P : Nat → Pt Fp) (x y : Nat) (hx : x < w256) (hy : y < w256) (oP : ∀ i, i < n → On (P i)) (hn : n ≤ 140737488355328) : ACall Pg F_witanref06_Fits [.vsl 9 n cap (ptsG P), numA x, numA y] [] (fun v _ => ((nmul y gG = polyP P x n ∧ v = .bool true) ∨ (nmul y gG ≠ polyP P x n ∧ v = .bool false)) ∧ Flat true v) := by
  refine B_witanref06_Fits ⟨rfl, ?_⟩
  conv => whnf
  repeat (refine ⟨⟨[], rfl⟩, ?_⟩; conv => whnf)
  refine T_rBase hy (fun Q oQ hQ => ?_)
  conv => whnf
  repeat (refine ⟨⟨[], rfl⟩, ?_⟩; conv => whnf)
  refine S_RAt (P := P) (ShowsG.vsl fun _ _ _ _ => flat_ptsG) hx oP hn (fun R oR hR => ?_)
  rw [← hQ, ← hR]
  conv => whnf
  repeat (refine ⟨⟨[], rfl⟩, ?_⟩; conv => whnf)
  refine S_rsame (P := Q) (Q := R) (fun e => ?_) (fun e => ?_)
  · conv => whnf
    repeat (refine ⟨⟨[], rfl⟩, ?_⟩; conv => whnf)
    exact ⟨.inl ⟨e, rfl⟩, .bool _⟩
  · conv => whnf
    repeat (refine ⟨⟨[], rfl⟩, ?_⟩; conv => whnf)
    exact ⟨.inr ⟨e, rfl⟩, .bool _⟩
theorem S_RFits {m : Mem} {a : AV} {K : AV → Mem → Prop} {n x y : Nat} {P : Nat → Pt Fp} (ha : ShowsG m a 9 n (ptsG P)) (hx : x < w256) (hy : y < w256) (oP : ∀ i, i < n → On (P i)) (hn : n ≤ 140737488355328) (h1 : nmul y gG = polyP P x n → K (.bool true) m) (h2 : nmul y gG ≠ polyP P x n → K (.bool false) m) : ACall Pg F_witanref06_Fits [a, numA x, numA y] m K := by
  obtain ⟨cap, hl⟩ := ha
  refine lift_flat (S_RFits0 n cap P x y hx hy oP hn) (.cons _ _ _ _ hl (.cons _ _ _ _ lend_numA (.cons _ _ _ _ lend_numA .nil))) ?_
  rintro v (⟨e, rfl⟩ | ⟨e, rfl⟩)
  · exact h1 e
  · exact h2 e

theorem S_TwinNums0 (n cap : Nat) (c : Nat → Nat) (hn : n ≤ 1000000) : ACall Pg F_witankeep_TwinNums [.vsl 4 n cap (numsG c)] [] (fun v m' => ∃ n' G, (n' = n ∧ G = numsG c) ∧ RetG 4 n' G v m') := by
  refine B_witankeep_TwinNums ⟨rfl, ?_⟩
  conv => whnf
  repeat (refine ⟨⟨[], rfl⟩, ?_⟩; conv => whnf)
  refine condB_ok (app_ok rfl rfl rfl (by omega) (by omega)) (fun cap' hcap => ?_)
  conv => whnf
  repeat (refine ⟨⟨[], rfl⟩, ?_⟩; conv => whnf)
  refine ⟨n, numsG c, ⟨rfl, rfl⟩, .inr ⟨0, cap', _, _, by first | rfl | (rw [Nat.zero_add]; rfl) | rw [Nat.zero_add], rfl, by omega, fun i j hi hj => ?_⟩⟩
  rw [catG_ge (by omega)]; rfl
theorem S_TwinNums {m : Mem} {x : AV} {K : AV → Mem → Prop} {n : Nat} {c : Nat → Nat} (hx : ShowsG m x 4 n (numsG c)) (hn : n ≤ 1000000) (hK : ∀ cap, memK (m ++ [some ⟨4, n, numsG c⟩]) (K (.sl m.length 0 n cap))) : ACall Pg F_witankeep_TwinNums [x] m K := by
  simp only [memK_eq] at hK
  obtain ⟨cap, hl⟩ := hx
  refine lift_G (S_TwinNums0 n cap c hn) (fun n G hR i j _ _ => by rw [hR.2]; exact flat_numsG) (.cons _ _ _ _ hl .nil) ?_
  rintro n' G cap' ⟨rfl, rfl⟩
  exact hK cap'
theorem S_TwinPoints0 (n cap : Nat) (I : Nat → Bool) (X Y : Nat → Nat) (hn : n ≤ 1000000) : ACall Pg F_witankeep_TwinPoints [.vsl 9 n cap (rawsG I X Y)] [] (fun v m' => ∃ n' G, (n' = n ∧ G = rawsG I X Y) ∧ RetG 9 n' G v m') := by
  refine B_witankeep_TwinPoints ⟨rfl, ?_⟩
  conv => whnf
  repeat (refine ⟨⟨[], rfl⟩, ?_⟩; conv => whnf)
  refine condB_ok (app_ok rfl rfl rfl (by omega) (by omega)) (fun cap' hcap => ?_)
  conv => whnf
  repeat (refine ⟨⟨[], rfl⟩, ?_⟩; conv => whnf)
  refine ⟨n, rawsG I X Y, ⟨rfl, rfl⟩, .inr ⟨0, cap', _, _, by first | rfl | (rw [Nat.zero_add]; rfl) | rw [Nat.zero_add], rfl, by omega, fun i j hi hj => ?_⟩⟩
  rw [catG_ge (by omega)]; rfl
theorem S_TwinPoints {m : Mem} {x : AV} {K : AV → Mem → Prop} {n : Nat} {I : Nat → Bool} {X Y : Nat → Nat} (hx : ShowsG m x 9 n (rawsG I X Y)) (hn : n ≤ 1000000) (hK : ∀ cap, memK (m ++ [some ⟨9, n, rawsG I X Y⟩]) (K (.sl m.length 0 n cap))) : ACall Pg F_witankeep_TwinPoints [x] m K := by
  simp only [memK_eq] at hK
  obtain ⟨cap, hl⟩ := hx
  refine lift_G (S_TwinPoints0 n cap I X Y hn) (fun n G hR i j _ _ => by rw [hR.2]; exact flat_rawsG) (.cons _ _ _ _ hl .nil) ?_
  rintro n' G cap' ⟨rfl, rfl⟩
  exact hK cap'

theorem S_kNums0 (n c1 c2 : Nat) (c : Nat → Nat) (hc : ∀ i, i < n → c i < w256) (hn : n ≤ 140737488355328) : ACall Pg F_witankeep_Nums [.vsl 4 n c1 (numsG c), .vsl 4 n c2 (numsG c)] [] (fun v _ => v = .bool true ∧ Flat true v) := by
  refine B_witankeep_Nums ⟨rfl, ?_⟩
  conv => whnf
  repeat (refine ⟨⟨[], rfl⟩, ?_⟩; conv => whnf)
  refine condB_mk (fun h => by exfalso; simp at h) (fun h => ?_)
  conv => whnf
  repeat (refine ⟨⟨[], rfl⟩, ?_⟩; conv => whnf)
  refine loop_wk mixed (I := fun q l m => ∃ (k : Nat), l = [(0, .vsl 4 n c1 (numsG c)), (1, .vsl 4 n c2 (numsG c)), (5, .int .i64 k)] ∧ m = [] ∧ q + k = n) n
    (l0 := [(0, .vsl 4 n c1 (numsG c)), (1, .vsl 4 n c2 (numsG c)), (5, .int .i64 (0 : Nat))]) (m0 := []) [] ⟨0, rfl, rfl, rfl⟩ ?_ ?_
  · exact .mk0 ⟨.eq _ _ rfl (.vsl _ _ _ _ rfl (fun _ _ _ _ => flat_numsG)), .eq _ _ rfl (.vsl _ _ _ _ rfl (fun _ _ _ _ => flat_numsG)), Flat.i rfl, trivial⟩ trivial rfl rfl
  · rintro q l m ⟨k, rfl, rfl, hq⟩
    conv => whnf
    repeat (refine ⟨⟨[], rfl⟩, ?_⟩; conv => whnf)
    refine condB_mk (fun hb => ?_) (fun hb => ?_)
    · have hb : k < n := by simp at hb; omega
      conv => whnf
      repeat (refine ⟨⟨[], rfl⟩, ?_⟩; conv => whnf)
      refine condB_ok (by simp; omega) ?_
      conv => whnf
      repeat (refine ⟨⟨[], rfl⟩, ?_⟩; conv => whnf)
      refine condB_ok (by simp; omega) ?_
      conv => whnf
      repeat (refine ⟨⟨[], rfl⟩, ?_⟩; conv => whnf)
      refine c_ne (a := c k) (b := c k) (hc k hb) (hc k hb) (fun h => absurd rfl h) (fun _ => ?_)
      conv => whnf
      repeat (refine ⟨⟨[], rfl⟩, ?_⟩; conv => whnf)
      have e5 : IntKind.i64.wrap ((k : Int) + 1) = ((k + 1 : Nat) : Int) := by rw [w64 (by omega) (by omega)]; omega
      refine ⟨q - 1, [(0, .vsl 4 n c1 (numsG c)), (1, .vsl 4 n c2 (numsG c)), (5, .int .i64 ((k + 1 : Nat) : Int))], [], [], by omega, ⟨k + 1, rfl, rfl, by omega⟩, ?_⟩
      exact .mk0 ⟨.eq _ _ rfl (.vsl _ _ _ _ rfl (fun _ _ _ _ => flat_numsG)), .eq _ _ rfl (.vsl _ _ _ _ rfl (fun _ _ _ _ => flat_numsG)), Flat.i e5, trivial⟩ trivial rfl rfl
    · conv => whnf
      repeat (refine ⟨⟨[], rfl⟩, ?_⟩; conv => whnf)
      exact ⟨rfl, .bool _⟩
theorem S_kNums {m : Mem} {x y : AV} {K : AV → Mem → Prop} {n : Nat} {c : Nat → Nat} (hx : ShowsG m x 4 n (numsG c)) (hy : ShowsG m y 4 n (numsG c)) (hc : ∀ i, i < n → c i < w256) (hn : n ≤ 140737488355328) (h : K (.bool true) m) : ACall Pg F_witankeep_Nums [x, y] m K := by
  obtain ⟨c1, hl⟩ := hx
  obtain ⟨c2, hl2⟩ := hy
  refine lift_flat (S_kNums0 n c1 c2 c hc hn) (.cons _ _ _ _ hl (.cons _ _ _ _ hl2 .nil)) ?_
  rintro v rfl
  exact h
theorem S_kPoints0 (n c1 c2 : Nat) (I : Nat → Bool) (X Y : Nat → Nat) (hX : ∀ i, i < n → X i < w256) (hY : ∀ i, i < n → Y i < w256) (hn : n ≤ 140737488355328) : ACall Pg F_witankeep_Points [.vsl 9 n c1 (rawsG I X Y), .vsl 9 n c2 (rawsG I X Y)] [] (fun v _ => v = .bool true ∧ Flat true v) := by
  refine B_witankeep_Points ⟨rfl, ?_⟩
  conv => whnf
  repeat (refine ⟨⟨[], rfl⟩, ?_⟩; conv => whnf)
  refine condB_mk (fun h => by exfalso; simp at h) (fun h => ?_)
  conv => whnf
  repeat (refine ⟨⟨[], rfl⟩, ?_⟩; conv => whnf)
  refine loop_wk mixed (I := fun q l m => ∃ (k : Nat), l = [(0, .vsl 9 n c1 (rawsG I X Y)), (1, .vsl 9 n c2 (rawsG I X Y)), (5, .int .i64 k)] ∧ m = [] ∧ q + k = n) n
    (l0 := [(0, .vsl 9 n c1 (rawsG I X Y)), (1, .vsl 9 n c2 (rawsG I X Y)), (5, .int .i64 (0 : Nat))]) (m0 := []) [] ⟨0, rfl, rfl, rfl⟩ ?_ ?_
  · exact .mk0 ⟨.eq _ _ rfl (.vsl _ _ _ _ rfl (fun _ _ _ _ => flat_rawsG)), .eq _ _ rfl (.vsl _ _ _ _ rfl (fun _ _ _ _ => flat_rawsG)), Flat.i rfl, trivial⟩ trivial rfl rfl
  · rintro q l m ⟨k, rfl, rfl, hq⟩
    conv => whnf
    repeat (refine ⟨⟨[], rfl⟩, ?_⟩; conv => whnf)
    refine condB_mk (fun hb => ?_) (fun hb => ?_)
    · have hb : k < n := by simp at hb; omega
      conv => whnf
      repeat (refine ⟨⟨[], rfl⟩, ?_⟩; conv => whnf)
      refine condB_ok (by simp; omega) ?_
      conv => whnf
      repeat (refine ⟨⟨[], rfl⟩, ?_⟩; conv => whnf)
      refine condB_ok (by simp; omega) ?_
      conv => whnf
      repeat (refine ⟨⟨[], rfl⟩, ?_⟩; conv => whnf)
      refine S_kPoint_eq (i := I k) (x := X k) (y := Y k) (hX k hb) (hY k hb) ?_
      conv => whnf
      repeat (refine ⟨⟨[], rfl⟩, ?_⟩; conv => whnf)
      have e5 : IntKind.i64.wrap ((k : Int) + 1) = ((k + 1 : Nat) : Int) := by rw [w64 (by omega) (by omega)]; omega
      refine ⟨q - 1, [(0, .vsl 9 n c1 (rawsG I X Y)), (1, .vsl 9 n c2 (rawsG I X Y)), (5, .int .i64 ((k + 1 : Nat) : Int))], [], [], by omega, ⟨k + 1, rfl, rfl, by omega⟩, ?_⟩
      exact .mk0 ⟨.eq _ _ rfl (.vsl _ _ _ _ rfl (fun _ _ _ _ => flat_rawsG)), .eq _ _ rfl (.vsl _ _ _ _ rfl (fun _ _ _ _ => flat_rawsG)), Flat.i e5, trivial⟩ trivial rfl rfl
    · conv => whnf
      repeat (refine ⟨⟨[], rfl⟩, ?_⟩; conv => whnf)
      exact ⟨rfl, .bool _⟩
theorem S_kPoints {m : Mem} {x y : AV} {K : AV → Mem → Prop} {n : Nat} {I : Nat → Bool} {X Y : Nat → Nat} (hx : ShowsG m x 9 n (rawsG I X Y)) (hy : ShowsG m y 9 n (rawsG I X Y)) (hX : ∀ i, i < n → X i < w256) (hY : ∀ i, i < n → Y i < w256) (hn : n ≤ 140737488355328) (h : K (.bool true) m) : ACall Pg F_witankeep_Points [x, y] m K := by
  obtain ⟨c1, hl⟩ := hx
  obtain ⟨c2, hl2⟩ := hy
  refine lift_flat (S_kPoints0 n c1 c2 I X Y hX hY hn) (.cons _ _ _ _ hl (.cons _ _ _ _ hl2 .nil)) ?_
  rintro v rfl
  exact h
theorem S_kPts {m : Mem} {x y : AV} {K : AV → Mem → Prop} {n : Nat} {P : Nat → Pt Fp} (hx : ShowsG m x 9 n (ptsG P)) (hy : ShowsG m y 9 n (ptsG P)) (hn : n ≤ 140737488355328) (h : K (.bool true) m) : ACall Pg F_witankeep_Points [x, y] m K :=
  S_kPoints hx hy (fun i _ => xN_w _) (fun i _ => yN_w _) hn h
end Go.Proofs.Ytmngdaeogbjpiaa
end

section
/- What laws of lists are handed; no condition. -/
set_option linter.unusedVariables false
set_option linter.unusedSimpArgs false
set_option maxRecDepth 100000
set_option pp.maxSteps 3000
namespace Go.Proofs.Ytmngdaeogbjpiaa
open Go Go.Wit

theorem map_get {es : Nat} {g : Nat → AV} {l : List AV} (h : (List.range es).map g = l) {j : Nat} (hj : j < es) : g j = l.getD j .un := by
  subst h
  rw [List.getD_eq_getElem?_getD, List.getElem?_map, List.getElem?_range hj]
  rfl
theorem ok_nums {av : AV} (h : okV (.sl 4 tNum) av) : ∃ (n cap : Nat) (c : Nat → Nat), Retold1 av (.vsl 4 n cap (numsG c)) ∧ n ≤ cap ∧ cap ≤ Go.maxLen ∧ ∀ i, i < n → c i < w256 := by
  simp only [okV] at h
  unfold okC at h
  obtain ⟨n, cap, get, he, h1, h2, h3⟩ := h
  obtain rfl := List.head_eq_of_cons_eq he
  classical
  have sp : ∀ i, i < n → ∃ k, k < w256 ∧ (List.range 4).map (get i) = numL k := fun i hi => ok_cells4 (h3 i hi)
  refine ⟨n, cap, fun i => if hi : i < n then (sp i hi).choose else 0, Retold1.vsl (fun i j hi hj => Retold1.of_eq ?_), h1, h2, fun i hi => ?_⟩
  · have := (sp i hi).choose_spec.2
    unfold numsG
    simp only [dif_pos hi]
    exact map_get this hj
  · simp only [dif_pos hi]; exact (sp i hi).choose_spec.1
theorem ok_pointsL {av : AV} (h : okV (.sl 9 tPoint) av) : ∃ (n cap : Nat) (I : Nat → Bool) (X Y : Nat → Nat), Retold1 av (.vsl 9 n cap (rawsG I X Y)) ∧ n ≤ cap ∧ cap ≤ Go.maxLen ∧ (∀ i, i < n → X i < w256) ∧ ∀ i, i < n → Y i < w256 := by
  simp only [okV] at h
  unfold okC at h
  obtain ⟨n, cap, get, he, h1, h2, h3⟩ := h
  obtain rfl := List.head_eq_of_cons_eq he
  classical
  have sp : ∀ i, i < n → ∃ p : Bool × Nat × Nat, p.2.1 < w256 ∧ p.2.2 < w256 ∧ (List.range 9).map (get i) = rawL p.1 p.2.1 p.2.2 := fun i hi => by
    obtain ⟨b, x, y, hx, hy, e⟩ := ok_cells9 (h3 i hi)
    exact ⟨(b, x, y), hx, hy, e⟩
  refine ⟨n, cap, fun i => if hi : i < n then (sp i hi).choose.1 else false, fun i => if hi : i < n then (sp i hi).choose.2.1 else 0, fun i => if hi : i < n then (sp i hi).choose.2.2 else 0, Retold1.vsl (fun i j hi hj => Retold1.of_eq ?_), h1, h2, fun i hi => ?_, fun i hi => ?_⟩
  · have := (sp i hi).choose_spec.2.2
    unfold rawsG
    simp only [dif_pos hi]
    exact map_get this hj
  · simp only [dif_pos hi]; exact (sp i hi).choose_spec.1
  · simp only [dif_pos hi]; exact (sp i hi).choose_spec.2.1
/-- Rows that are points, told as such. -/
theorem retold_pts {n cap : Nat} {I : Nat → Bool} {X Y : Nat → Nat} {P : Nat → Pt Fp} (h : ∀ i, i < n → rawL (I i) (X i) (Y i) = rawL (isI (P i)) (xN (P i)) (yN (P i))) : Retold1 (.vsl 9 n cap (rawsG I X Y)) (.vsl 9 n cap (ptsG P)) :=
  Retold1.vsl fun i j hi hj => Retold1.of_eq (by unfold ptsG rawsG; rw [h i hi])
theorem retold_tr {a b c : AV} (h1 : Retold1 a b) (h2 : Retold1 b c) : Retold1 a c := fun _ _ _ _ h => h2 _ _ _ _ (h1 _ _ _ _ h)
theorem ShowsG.own {m : Mem} {l es n cap N : Nat} {G : Nat → Nat → AV} (h : m[l]? = some (some ⟨es, N, G⟩)) (hn : n ≤ N) (hf : ∀ i j, Flat false (G i j)) : ShowsG m (.sl l 0 n cap) es n G :=
  ShowsG.sl h (by omega) fun i j _ _ => ⟨by rw [Nat.zero_add], hf i j⟩
end Go.Proofs.Ytmngdaeogbjpiaa
end

section
/- The laws FeldExact, FeldFits, FeldAt; no condition. -/
set_option linter.unusedVariables false
set_option linter.unusedSimpArgs false
set_option maxRecDepth 100000
set_option pp.maxSteps 3000
namespace Go.Proofs.Ytmngdaeogbjpiaa
open Go Go.Wit

theorem polyP_mod {P : Nat → Pt Fp} {x n : Nat} (oP : ∀ i, i < n → On (P i)) : polyP P (x % nN) n = polyP P x n := by
  induction n with
  | zero => rfl
  | succ n ih =>
    have oN := oP n (by omega)
    rw [polyP_succ, polyP_succ, ih fun i hi => oP i (by omega), ← nmul_mod_all oN ((x % nN) ^ n), ← Nat.pow_mod, nmul_mod_all oN]
theorem mod_cancel {y w n : Nat} (h : (y + w) % n = y % n) : w % n = 0 := by
  have h1 := dvd_of_mod_eq h (by omega)
  rw [show y + w - y = w by omega] at h1
  exact Nat.mod_eq_zero_of_dvd h1
theorem polyP_zero {P : Nat → Pt Fp} {n : Nat} (oP : ∀ i, i < n → On (P i)) (h : 0 < n) : polyP P 0 n = P 0 := by
  obtain ⟨k, rfl⟩ : ∃ k, n = k + 1 := ⟨n - 1, by omega⟩
  clear h
  induction k with
  | zero => rw [polyP_succ, polyP_0, Nat.pow_zero, nmul_one', inf_padd]
  | succ k ih =>
    rw [polyP_succ, ih fun i hi => oP i (by omega), Nat.zero_pow (by omega)]
    exact padd_inf _
theorem c_fz {r : Nat} {p q : Prop} (h1 : r < w256) (h0 : r ≠ 0) (hp : p) : condB ((bif false then (!false) == (bif false then !(eqZ r) else eqZ r) else false == (bif false then !(eqZ r) else eqZ r)) == true) p q := by
  rw [eqZ_iff h1, decide_eq_false h0]
  exact hp
theorem S_FeldExact_ok (n c1 k c2 : Nat) (c : Nat → Nat) (P : Nat → Pt Fp) (x y : Nat) (hc : ∀ i, i < n → c i < w256) (oP : ∀ i, i < k → On (P i)) (hx : x < w256) (hy : y < w256) :
    ACall Pg F_witanlaw07_FeldExact [.vsl 4 n c1 (numsG c), .vsl 9 k c2 (ptsG P), numA x, numA y] [] (fun r _ => r = .bool true) := by
  refine B_witanlaw07_FeldExact ⟨rfl, ?_⟩
  conv => whnf
  repeat (refine ⟨⟨[], rfl⟩, ?_⟩; conv => whnf)
  refine condB_mk (fun h => ?_) (fun h => ?_)
  rotate_left
  · conv => whnf
    repeat (refine ⟨⟨[], rfl⟩, ?_⟩; conv => whnf)
  have hn : n ≤ 5 := by simp at h; omega
  conv => whnf
  repeat (refine ⟨⟨[], rfl⟩, ?_⟩; conv => whnf)
  refine condB_mk (fun h => ?_) (fun h => ?_)
  · conv => whnf
    repeat (refine ⟨⟨[], rfl⟩, ?_⟩; conv => whnf)
  have hk : k ≤ 5 := by simp at h; omega
  conv => whnf
  repeat (refine ⟨⟨[], rfl⟩, ?_⟩; conv => whnf)
  refine S_TwinNums (c := c) (ShowsG.vsl fun _ _ _ _ => flat_numsG) (by omega) (fun cap1 => ?_)
  conv => whnf
  repeat (refine ⟨⟨[], rfl⟩, ?_⟩; conv => whnf)
  refine S_TwinPoints (I := fun i => isI (P i)) (X := fun i => xN (P i)) (Y := fun i => yN (P i)) (ShowsG.vsl fun _ _ _ _ => flat_rawsG) (by omega) (fun cap2 => ?_)
  conv => whnf
  repeat (refine ⟨⟨[], rfl⟩, ?_⟩; conv => whnf)
  refine S_Commit (c := c) (ShowsG.own rfl (Nat.le_refl _) fun _ _ => flat_numsG) hc (fun _ Q cap3 hQ => ?_) (fun h => by omega)
  conv => whnf
  repeat (refine ⟨⟨[], rfl⟩, ?_⟩; conv => whnf)
  refine S_At (n := k) (P := P) (ShowsG.own rfl (Nat.le_refl _) fun _ _ => flat_ptsG) hx oP (by omega) (fun R oR hR => ?_)
  conv => whnf
  repeat (refine ⟨⟨[], rfl⟩, ?_⟩; conv => whnf)
  refine S_Fits (n := k) (P := P) (ShowsG.own rfl (Nat.le_refl _) fun _ _ => flat_ptsG) hx hy oP (by omega) (fun e => ?_) (fun ne => ?_)
  · conv => whnf
    repeat (refine ⟨⟨[], rfl⟩, ?_⟩; conv => whnf)
    refine S_RCommit (n := n) (c := c) (ShowsG.vsl fun _ _ _ _ => flat_numsG) hc (by omega) (fun Q2 cap4 hQ2 => ?_)
    obtain rfl : Q2 = Q := hQ2.trans hQ.symm
    conv => whnf
    repeat (refine ⟨⟨[], rfl⟩, ?_⟩; conv => whnf)
    refine S_kPts (P := Q2) (ShowsG.own rfl (Nat.le_refl _) fun _ _ => flat_ptsG) (ShowsG.own rfl (Nat.le_refl _) fun _ _ => flat_ptsG) (by omega) ?_
    conv => whnf
    repeat (refine ⟨⟨[], rfl⟩, ?_⟩; conv => whnf)
    refine S_kNums (c := c) (ShowsG.own rfl (Nat.le_refl _) fun _ _ => flat_numsG) (ShowsG.vsl fun _ _ _ _ => flat_numsG) hc (by omega) ?_
    conv => whnf
    repeat (refine ⟨⟨[], rfl⟩, ?_⟩; conv => whnf)
    refine S_kPts (P := P) (ShowsG.own rfl (Nat.le_refl _) fun _ _ => flat_ptsG) (ShowsG.vsl fun _ _ _ _ => flat_ptsG) (by omega) ?_
    conv => whnf
    repeat (refine ⟨⟨[], rfl⟩, ?_⟩; conv => whnf)
    refine S_rPoints (P := P) (ShowsG.vsl fun _ _ _ _ => flat_ptsG) oP (by omega) ?_
    conv => whnf
    repeat (refine ⟨⟨[], rfl⟩, ?_⟩; conv => whnf)
    refine S_RAt (P := P) (ShowsG.vsl fun _ _ _ _ => flat_ptsG) hx oP (by omega) (fun R2 oR2 hR2 => ?_)
    obtain rfl : R2 = R := hR2.trans hR.symm
    conv => whnf
    repeat (refine ⟨⟨[], rfl⟩, ?_⟩; conv => whnf)
    refine S_kPt_eq (P := R2) ?_
    conv => whnf
    repeat (refine ⟨⟨[], rfl⟩, ?_⟩; conv => whnf)
    refine S_RFits (P := P) (ShowsG.vsl fun _ _ _ _ => flat_ptsG) hx hy oP (by omega) (fun _ => ?_) (fun ne => absurd e ne)
    conv => whnf
    repeat (refine ⟨⟨[], rfl⟩, ?_⟩; conv => whnf)
    refine S_wakes07 ?_
    conv => whnf
    repeat (refine ⟨⟨[], rfl⟩, ?_⟩; conv => whnf)
  · conv => whnf
    repeat (refine ⟨⟨[], rfl⟩, ?_⟩; conv => whnf)
    refine S_RCommit (n := n) (c := c) (ShowsG.vsl fun _ _ _ _ => flat_numsG) hc (by omega) (fun Q2 cap4 hQ2 => ?_)
    obtain rfl : Q2 = Q := hQ2.trans hQ.symm
    conv => whnf
    repeat (refine ⟨⟨[], rfl⟩, ?_⟩; conv => whnf)
    refine S_kPts (P := Q2) (ShowsG.own rfl (Nat.le_refl _) fun _ _ => flat_ptsG) (ShowsG.own rfl (Nat.le_refl _) fun _ _ => flat_ptsG) (by omega) ?_
    conv => whnf
    repeat (refine ⟨⟨[], rfl⟩, ?_⟩; conv => whnf)
    refine S_kNums (c := c) (ShowsG.own rfl (Nat.le_refl _) fun _ _ => flat_numsG) (ShowsG.vsl fun _ _ _ _ => flat_numsG) hc (by omega) ?_
    conv => whnf
    repeat (refine ⟨⟨[], rfl⟩, ?_⟩; conv => whnf)
    refine S_kPts (P := P) (ShowsG.own rfl (Nat.le_refl _) fun _ _ => flat_ptsG) (ShowsG.vsl fun _ _ _ _ => flat_ptsG) (by omega) ?_
    conv => whnf
    repeat (refine ⟨⟨[], rfl⟩, ?_⟩; conv => whnf)
    refine S_rPoints (P := P) (ShowsG.vsl fun _ _ _ _ => flat_ptsG) oP (by omega) ?_
    conv => whnf
    repeat (refine ⟨⟨[], rfl⟩, ?_⟩; conv => whnf)
    refine S_RAt (P := P) (ShowsG.vsl fun _ _ _ _ => flat_ptsG) hx oP (by omega) (fun R2 oR2 hR2 => ?_)
    obtain rfl : R2 = R := hR2.trans hR.symm
    conv => whnf
    repeat (refine ⟨⟨[], rfl⟩, ?_⟩; conv => whnf)
    refine S_kPt_eq (P := R2) ?_
    conv => whnf
    repeat (refine ⟨⟨[], rfl⟩, ?_⟩; conv => whnf)
    refine S_RFits (P := P) (ShowsG.vsl fun _ _ _ _ => flat_ptsG) hx hy oP (by omega) (fun e => absurd e ne) (fun _ => ?_)
    conv => whnf
    repeat (refine ⟨⟨[], rfl⟩, ?_⟩; conv => whnf)
    refine S_wakes07 ?_
    conv => whnf
    repeat (refine ⟨⟨[], rfl⟩, ?_⟩; conv => whnf)

theorem S_FeldExact_bad (n c1 k c2 : Nat) (c : Nat → Nat) (I : Nat → Bool) (X Y : Nat → Nat) (x y : Nat) (hc : ∀ i, i < n → c i < w256) (hX : ∀ i, i < k → X i < w256) (hY : ∀ i, i < k → Y i < w256) (b : Nat) (hbk : b < k) (hb : Bad (I b) (X b) (Y b)) (hg : ∀ i, i < b → ∃ P, On P ∧ rawA (I i) (X i) (Y i) = ptA P) (hx : x < w256) (hy : y < w256) :
    ACall Pg F_witanlaw07_FeldExact [.vsl 4 n c1 (numsG c), .vsl 9 k c2 (rawsG I X Y), numA x, numA y] [] (fun r _ => r = .bool true) := by
  refine B_witanlaw07_FeldExact ⟨rfl, ?_⟩
  conv => whnf
  repeat (refine ⟨⟨[], rfl⟩, ?_⟩; conv => whnf)
  refine condB_mk (fun h => ?_) (fun h => ?_)
  rotate_left
  · conv => whnf
    repeat (refine ⟨⟨[], rfl⟩, ?_⟩; conv => whnf)
  have hn : n ≤ 5 := by simp at h; omega
  conv => whnf
  repeat (refine ⟨⟨[], rfl⟩, ?_⟩; conv => whnf)
  refine condB_mk (fun h => ?_) (fun h => ?_)
  · conv => whnf
    repeat (refine ⟨⟨[], rfl⟩, ?_⟩; conv => whnf)
  have hk : k ≤ 5 := by simp at h; omega
  conv => whnf
  repeat (refine ⟨⟨[], rfl⟩, ?_⟩; conv => whnf)
  refine S_TwinNums (c := c) (ShowsG.vsl fun _ _ _ _ => flat_numsG) (by omega) (fun cap1 => ?_)
  conv => whnf
  repeat (refine ⟨⟨[], rfl⟩, ?_⟩; conv => whnf)
  refine S_TwinPoints (I := I) (X := X) (Y := Y) (ShowsG.vsl fun _ _ _ _ => flat_rawsG) (by omega) (fun cap2 => ?_)
  conv => whnf
  repeat (refine ⟨⟨[], rfl⟩, ?_⟩; conv => whnf)
  refine S_Commit (c := c) (ShowsG.own rfl (Nat.le_refl _) fun _ _ => flat_numsG) hc (fun _ Q cap3 hQ => ?_) (fun h => by omega)
  conv => whnf
  repeat (refine ⟨⟨[], rfl⟩, ?_⟩; conv => whnf)
  refine S_At_bad (n := k) (I := I) (X := X) (Y := Y) (ShowsG.own rfl (Nat.le_refl _) fun _ _ => flat_rawsG) hX hY hbk hb hg (by omega) ?_
  conv => whnf
  repeat (refine ⟨⟨[], rfl⟩, ?_⟩; conv => whnf)
  refine S_Fits_bad (n := k) (I := I) (X := X) (Y := Y) (ShowsG.own rfl (Nat.le_refl _) fun _ _ => flat_rawsG) hX hY hbk hb hg (by omega) ?_
  conv => whnf
  repeat (refine ⟨⟨[], rfl⟩, ?_⟩; conv => whnf)
  refine S_RCommit (n := n) (c := c) (ShowsG.vsl fun _ _ _ _ => flat_numsG) hc (by omega) (fun Q2 cap4 hQ2 => ?_)
  obtain rfl : Q2 = Q := hQ2.trans hQ.symm
  conv => whnf
  repeat (refine ⟨⟨[], rfl⟩, ?_⟩; conv => whnf)
  refine S_kPts (P := Q2) (ShowsG.own rfl (Nat.le_refl _) fun _ _ => flat_ptsG) (ShowsG.own rfl (Nat.le_refl _) fun _ _ => flat_ptsG) (by omega) ?_
  conv => whnf
  repeat (refine ⟨⟨[], rfl⟩, ?_⟩; conv => whnf)
  refine S_kNums (c := c) (ShowsG.own rfl (Nat.le_refl _) fun _ _ => flat_numsG) (ShowsG.vsl fun _ _ _ _ => flat_numsG) hc (by omega) ?_
  conv => whnf
  repeat (refine ⟨⟨[], rfl⟩, ?_⟩; conv => whnf)
  refine S_kPoints (I := I) (X := X) (Y := Y) (ShowsG.own rfl (Nat.le_refl _) fun _ _ => flat_rawsG) (ShowsG.vsl fun _ _ _ _ => flat_rawsG) hX hY (by omega) ?_
  conv => whnf
  repeat (refine ⟨⟨[], rfl⟩, ?_⟩; conv => whnf)
  refine S_rPoints_bad (I := I) (X := X) (Y := Y) (ShowsG.vsl fun _ _ _ _ => flat_rawsG) hX hY hbk hb (by omega) ?_
  conv => whnf
  repeat (refine ⟨⟨[], rfl⟩, ?_⟩; conv => whnf)
  refine S_kPoint_eq (i := false) (x := 0) (y := 0) (by decide) (by decide) ?_
  conv => whnf
  repeat (refine ⟨⟨[], rfl⟩, ?_⟩; conv => whnf)
  refine S_wakes07 ?_
  conv => whnf
  repeat (refine ⟨⟨[], rfl⟩, ?_⟩; conv => whnf)
theorem S_row_FeldExact (avs : List AV) (h : okVs [.sl 4 tNum, .sl 9 tPoint, tNum, tNum] avs) : ∃ avs', Retold avs avs' ∧ ACall Pg F_witanlaw07_FeldExact avs' [] (fun x _ => x = .bool true) := by
  obtain ⟨p, _, rfl, h1, q, _, rfl, h2, a, _, rfl, h3, b, _, rfl, h4, rfl⟩ := h
  obtain ⟨n, c1, c, r1, _, _, hc⟩ := ok_nums h1
  obtain ⟨k, c2, I, X, Y, r2, _, _, hX, hY⟩ := ok_pointsL h2
  obtain ⟨x, hx, rfl⟩ := ok_num h3
  obtain ⟨y, hy, rfl⟩ := ok_num h4
  rcases raws_cases k I X Y with ⟨P, hP⟩ | ⟨b, hbk, hb, hg⟩
  · exact ⟨_, .cons r1 (.cons (retold_tr r2 (retold_pts fun i hi => (hP i hi).2)) (.cons (Retold1.refl _) (.cons (Retold1.refl _) .nil))), S_FeldExact_ok n c1 k c2 c P x y hc (fun i hi => (hP i hi).1) hx hy⟩
  · exact ⟨_, .cons r1 (.cons r2 (.cons (Retold1.refl _) (.cons (Retold1.refl _) .nil))), S_FeldExact_bad n c1 k c2 c I X Y x y hc hX hY b hbk hb hg hx hy⟩

theorem S_FeldFits (n c1 : Nat) (c : Nat → Nat) (x w : Nat) (hc : ∀ i, i < n → c i < w256) (hx : x < w256) (hw : w < w256) :
    ACall Pg F_witanlaw07_FeldFits [.vsl 4 n c1 (numsG c), numA x, numA w] [] (fun r _ => r = .bool true) := by
  refine B_witanlaw07_FeldFits ⟨rfl, ?_⟩
  conv => whnf
  repeat (refine ⟨⟨[], rfl⟩, ?_⟩; conv => whnf)
  refine condB_mk (fun h => ?_) (fun h => ?_)
  · conv => whnf
    repeat (refine ⟨⟨[], rfl⟩, ?_⟩; conv => whnf)
  have hn : n ≤ 5 := by simp at h; omega
  conv => whnf
  repeat (refine ⟨⟨[], rfl⟩, ?_⟩; conv => whnf)
  refine S_Commit (c := c) (ShowsG.vsl fun _ _ _ _ => flat_numsG) hc (fun _ P cap3 hP => ?_) (fun h => by omega)
  have oP : ∀ i, i < n → On (P i) := fun i _ => by rw [hP]; exact on_G.nmul crvP _
  have key : ∀ z, polyP P z n = nmul (sumN c z n) gG := fun z => by rw [hP, polyP_sum]
  clear hP
  conv => whnf
  repeat (refine ⟨⟨[], rfl⟩, ?_⟩; conv => whnf)
  refine S_Eval (c := c) (ShowsG.vsl fun _ _ _ _ => flat_numsG) hx hc (by omega) (fun y hy hy1 => ?_)
  conv => whnf
  repeat (refine ⟨⟨[], rfl⟩, ?_⟩; conv => whnf)
  have e1 : nmul y gG = polyP P x n := by rw [key, hy, nmul_mod]
  refine S_Fits (n := n) (P := P) (ShowsG.own rfl (Nat.le_refl _) fun _ _ => flat_ptsG) hx hy1 oP (by omega) (fun _ => ?_) (fun ne => absurd e1 ne)
  conv => whnf
  repeat (refine ⟨⟨[], rfl⟩, ?_⟩; conv => whnf)
  refine S_FAdd_1 (b := 0) hx (by decide) (fun x2 hx2 => ?_)
  have hx3 : x2 < w256 := by rw [hx2]; exact Nat.lt_trans (Nat.mod_lt _ (by decide)) (by decide)
  conv => whnf
  repeat (refine ⟨⟨[], rfl⟩, ?_⟩; conv => whnf)
  refine S_FAdd_1 hy1 hw (fun y2 hy2 => ?_)
  have hy3 : y2 < w256 := by rw [hy2]; exact Nat.lt_trans (Nat.mod_lt _ (by decide)) (by decide)
  conv => whnf
  repeat (refine ⟨⟨[], rfl⟩, ?_⟩; conv => whnf)
  have e2 : polyP P x2 n = nmul y gG := by
    rw [e1, hx2, Nat.add_zero]
    exact polyP_mod oP
  refine S_Fits (n := n) (P := P) (ShowsG.own rfl (Nat.le_refl _) fun _ _ => flat_ptsG) hx3 hy3 oP (by omega) (fun e => ?_) (fun ne => ?_)
  · have hz : w % nN = 0 := by
      rw [e2, hy2, nmul_mod] at e
      have := nmul_G_eq e
      exact mod_cancel this
    conv => whnf
    repeat (refine ⟨⟨[], rfl⟩, ?_⟩; conv => whnf)
    refine S_Red_1 hw (fun r hr => ?_)
    obtain rfl : r = 0 := hr.trans hz
    conv => whnf
    repeat (refine ⟨⟨[], rfl⟩, ?_⟩; conv => whnf)
    refine S_wakes07 ?_
    conv => whnf
    repeat (refine ⟨⟨[], rfl⟩, ?_⟩; conv => whnf)
  · have hz : w % nN ≠ 0 := fun hz => ne (by
      rw [e2, hy2, nmul_mod, ← nmul_mod (y + w), Nat.add_mod, hz, Nat.add_zero, Nat.mod_mod, nmul_mod])
    conv => whnf
    repeat (refine ⟨⟨[], rfl⟩, ?_⟩; conv => whnf)
    refine S_Red_1 hw (fun r hr => ?_)
    have hr0 : r ≠ 0 := hr ▸ hz
    have hr1 : r < w256 := by rw [hr]; exact Nat.lt_trans (Nat.mod_lt _ (by decide)) (by decide)
    conv => whnf
    repeat (refine ⟨⟨[], rfl⟩, ?_⟩; conv => whnf)
    refine c_fz hr1 hr0 ?_
    conv => whnf
    repeat (refine ⟨⟨[], rfl⟩, ?_⟩; conv => whnf)
    refine S_wakes07 ?_
    conv => whnf
    repeat (refine ⟨⟨[], rfl⟩, ?_⟩; conv => whnf)

theorem S_FeldAt (n c1 : Nat) (c : Nat → Nat) (x : Nat) (hc : ∀ i, i < n → c i < w256) (hx : x < w256) :
    ACall Pg F_witanlaw07_FeldAt [.vsl 4 n c1 (numsG c), numA x] [] (fun r _ => r = .bool true) := by
  refine B_witanlaw07_FeldAt ⟨rfl, ?_⟩
  conv => whnf
  repeat (refine ⟨⟨[], rfl⟩, ?_⟩; conv => whnf)
  refine condB_mk (fun h => ?_) (fun h => ?_)
  · conv => whnf
    repeat (refine ⟨⟨[], rfl⟩, ?_⟩; conv => whnf)
  have hn : n ≤ 5 := by simp at h; omega
  conv => whnf
  repeat (refine ⟨⟨[], rfl⟩, ?_⟩; conv => whnf)
  refine S_Commit (c := c) (ShowsG.vsl fun _ _ _ _ => flat_numsG) hc (fun _ P cap3 hP => ?_) (fun h => by omega)
  have oP : ∀ i, i < n → On (P i) := fun i _ => by rw [hP]; exact on_G.nmul crvP _
  have key : ∀ z, polyP P z n = nmul (sumN c z n) gG := fun z => by rw [hP, polyP_sum]
  clear hP
  conv => whnf
  repeat (refine ⟨⟨[], rfl⟩, ?_⟩; conv => whnf)
  refine S_At (n := n) (P := P) (ShowsG.own rfl (Nat.le_refl _) fun _ _ => flat_ptsG) hx oP (by omega) (fun R oR hR => ?_)
  conv => whnf
  repeat (refine ⟨⟨[], rfl⟩, ?_⟩; conv => whnf)
  refine S_At (n := n) (P := P) (x := 0) (ShowsG.own rfl (Nat.le_refl _) fun _ _ => flat_ptsG) (by decide) oP (by omega) (fun Z oZ hZ => ?_)
  conv => whnf
  repeat (refine ⟨⟨[], rfl⟩, ?_⟩; conv => whnf)
  refine condB_mk (fun h => ?_) (fun h => ?_)
  rotate_left
  · exfalso; simp at h
  conv => whnf
  repeat (refine ⟨⟨[], rfl⟩, ?_⟩; conv => whnf)
  refine S_Eval (c := c) (ShowsG.vsl fun _ _ _ _ => flat_numsG) hx hc (by omega) (fun y hy hy1 => ?_)
  conv => whnf
  repeat (refine ⟨⟨[], rfl⟩, ?_⟩; conv => whnf)
  refine T_Base hy1 (fun B oB hB => ?_)
  obtain rfl : B = R := by rw [hB, hR, key, hy, nmul_mod]
  conv => whnf
  repeat (refine ⟨⟨[], rfl⟩, ?_⟩; conv => whnf)
  refine S_kPt_eq (P := B) ?_
  conv => whnf
  repeat (refine ⟨⟨[], rfl⟩, ?_⟩; conv => whnf)
  refine condB_mk (fun h => ?_) (fun h => ?_)
  · have h0 : n = 0 := by simp at h; omega
    subst h0
    obtain rfl : Z = .inf := hZ
    obtain rfl : B = .inf := hR
    conv => whnf
    repeat (refine ⟨⟨[], rfl⟩, ?_⟩; conv => whnf)
    refine S_wakes07 ?_
    conv => whnf
    repeat (refine ⟨⟨[], rfl⟩, ?_⟩; conv => whnf)
  · have h0 : 0 < n := by simp at h; omega
    have hz : Z = P 0 := by rw [hZ]; exact polyP_zero oP h0
    conv => whnf
    repeat (refine ⟨⟨[], rfl⟩, ?_⟩; conv => whnf)
    refine S_Prime_1 (fun p hp => ?_)
    conv => whnf
    repeat (refine ⟨⟨[], rfl⟩, ?_⟩; conv => whnf)
    refine S_At (n := n) (P := P) (x := p) (ShowsG.own rfl (Nat.le_refl _) fun _ _ => flat_ptsG) (by rw [hp]; decide) oP (by omega) (fun Q oQ hQ => ?_)
    have hq : Q = P 0 := by rw [hQ, ← polyP_mod oP, hp, Nat.mod_self]; exact polyP_zero oP h0
    conv => whnf
    repeat (refine ⟨⟨[], rfl⟩, ?_⟩; conv => whnf)
    refine condB_ok (by simp; omega) ?_
    conv => whnf
    repeat (refine ⟨⟨[], rfl⟩, ?_⟩; conv => whnf)
    refine condB_ok (by simp [roomG, Nat.ble_eq]; omega) ?_
    conv => whnf
    repeat (refine ⟨⟨[], rfl⟩, ?_⟩; conv => whnf)
    rw [hz]
    refine S_kPt_eq (P := P 0) ?_
    conv => whnf
    repeat (refine ⟨⟨[], rfl⟩, ?_⟩; conv => whnf)
    refine condB_ok (by simp; omega) ?_
    conv => whnf
    repeat (refine ⟨⟨[], rfl⟩, ?_⟩; conv => whnf)
    refine condB_ok (by simp [roomG, Nat.ble_eq]; omega) ?_
    conv => whnf
    repeat (refine ⟨⟨[], rfl⟩, ?_⟩; conv => whnf)
    rw [hq]
    refine S_kPt_eq (P := P 0) ?_
    conv => whnf
    repeat (refine ⟨⟨[], rfl⟩, ?_⟩; conv => whnf)
    refine S_wakes07 ?_
    conv => whnf
    repeat (refine ⟨⟨[], rfl⟩, ?_⟩; conv => whnf)
theorem S_row_FeldFits (avs : List AV) (h : okVs [.sl 4 tNum, tNum, tNum] avs) : ∃ avs', Retold avs avs' ∧ ACall Pg F_witanlaw07_FeldFits avs' [] (fun x _ => x = .bool true) := by
  obtain ⟨p, _, rfl, h1, a, _, rfl, h3, b, _, rfl, h4, rfl⟩ := h
  obtain ⟨n, c1, c, r1, _, _, hc⟩ := ok_nums h1
  obtain ⟨x, hx, rfl⟩ := ok_num h3
  obtain ⟨y, hy, rfl⟩ := ok_num h4
  exact ⟨_, .cons r1 (.cons (Retold1.refl _) (.cons (Retold1.refl _) .nil)), S_FeldFits n c1 c x y hc hx hy⟩
theorem S_row_FeldAt (avs : List AV) (h : okVs [.sl 4 tNum, tNum] avs) : ∃ avs', Retold avs avs' ∧ ACall Pg F_witanlaw07_FeldAt avs' [] (fun x _ => x = .bool true) := by
  obtain ⟨p, _, rfl, h1, a, _, rfl, h3, rfl⟩ := h
  obtain ⟨n, c1, c, r1, _, _, hc⟩ := ok_nums h1
  obtain ⟨x, hx, rfl⟩ := ok_num h3
  exact ⟨_, .cons r1 (.cons (Retold1.refl _) .nil), S_FeldAt n c1 c x hc hx⟩
end Go.Proofs.Ytmngdaeogbjpiaa
end

