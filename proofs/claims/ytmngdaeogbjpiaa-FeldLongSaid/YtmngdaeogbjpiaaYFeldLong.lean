/- Texts of a proof, one behind the other; the last of these: The law FeldLong answers true for all that it may be handed: its row; no condition. -/
import Derived.Test.YtmngdaeogbjpiaaYFeldLongp1
import Derived.Test.YtmngdaeogbjpiaaRows
import Derived.WalkKit
import Derived.ProofKit
import Derived.OpenShut
import Derived.ShutString
import Derived.ChangeOld
import Derived.Below
import Derived.SizedLaws
section
/- Sums of lists of points; no condition. -/
set_option linter.unusedVariables false
set_option linter.unusedSimpArgs false
set_option maxRecDepth 100000
set_option pp.maxSteps 3000
namespace Go.Proofs.Ytmngdaeogbjpiaa
open Go Go.Wit

/-- Lists of points, one behind the other. -/
def rowsG (N C : Nat → Nat) (I : Nat → Nat → Bool) (X Y : Nat → Nat → Nat) : Nat → Nat → AV := fun k _ => .vsl 9 (N k) (C k) (rawsG (I k) (X k) (Y k))
theorem flat_rowsG {N C : Nat → Nat} {I : Nat → Nat → Bool} {X Y : Nat → Nat → Nat} {i j : Nat} : Flat false (rowsG N C I X Y i j) := .vsl _ _ _ _ rfl fun _ _ _ _ => flat_rawsG
theorem flat_rowsV {n cap : Nat} {N C : Nat → Nat} {I : Nat → Nat → Bool} {X Y : Nat → Nat → Nat} : Flat false (.vsl 1 n cap (rowsG N C I X Y)) := .vsl _ _ _ _ rfl fun _ _ _ _ => flat_rowsG
theorem ShowsG.raws {m : Mem} {n cap : Nat} {I : Nat → Bool} {X Y : Nat → Nat} {P : Nat → Pt Fp} (h : ∀ i, i < n → rawL (I i) (X i) (Y i) = rawL (isI (P i)) (xN (P i)) (yN (P i))) : ShowsG m (.vsl 9 n cap (rawsG I X Y)) 9 n (ptsG P) :=
  ⟨cap, .vsl _ _ _ _ _ fun i j hi hj => ⟨by unfold ptsG rawsG; rw [h i hi], flat_ptsG⟩⟩

theorem upd9 {n t i j : Nat} {F : Nat → Pt Fp} {R : Pt Fp} (hj : j < 9) : updG ⟨9, n, ptsG F⟩ (0 + t) 0 9 (rawL (isI R) (xN R) (yN R)) i j = ptsG (fun i => if i = t then R else F i) i j := by
  unfold updG
  rw [show Nat.ble (0 + 9) (Blk.mk 9 n (ptsG F)).es = true from rfl]
  simp only [cond_true, pickA_eq, Nat.sub_zero, Nat.zero_add]
  rw [show Nat.ble 0 j = true by simp, blt_true hj]
  unfold ptsG rawsG
  by_cases h : i = t
  · subst h
    simp
  · have e : (i == t) = false := by simpa using h
    simp [e, h]

/-- Sums of the first so many, place by place. -/
noncomputable def sumP (P : Nat → Nat → Pt Fp) (i : Nat) : Nat → Pt Fp := Nat.rec (motive := fun _ => Pt Fp) .inf (fun k ih => padd ih (P k i))
theorem sumP_succ {P : Nat → Nat → Pt Fp} {i k : Nat} : sumP P i (k + 1) = padd (sumP P i k) (P k i) := rfl
theorem On.sumP {P : Nat → Nat → Pt Fp} {i : Nat} : ∀ k, (∀ j, j < k → On (P j i)) → On (sumP P i k)
  | 0, _ => trivial
  | k + 1, h => (On.sumP k fun j hj => h j (by omega)).add crvP (h k (by omega))

theorem T_AddE {m : Mem} {x y : AV} {K : AV → Mem → Prop} {P Q : Pt Fp} (hx : x = ptA P) (hy : y = ptA Q) (oP : On P) (oQ : On Q) (h : ∀ R, On R → R = padd P Q → K (.tup [ptA R, .int .i64 0]) m) : ACall Pg F_curve_Add [x, y] m K := by
  subst hx hy
  exact T_Add oP oQ h

theorem S_Sum0 (r b n cap : Nat) (C : Nat → Nat) (I : Nat → Nat → Bool) (X Y : Nat → Nat → Nat) (P : Nat → Nat → Pt Fp) (hr : r ≤ 8) (hn : n ≤ 64) (hbr : b ≤ r)
    (hP : ∀ k i, k < b → i < n → On (P k i) ∧ rawL (I k i) (X k i) (Y k i) = rawL (isI (P k i)) (xN (P k i)) (yN (P k i)))
    (hbad : b < r → (∀ i, i < n → X b i < w256) ∧ (∀ i, i < n → Y b i < w256) ∧ ∃ t, t < n ∧ Bad (I b t) (X b t) (Y b t) ∧ ∀ i, i < t → ∃ Q, On Q ∧ rawA (I b i) (X b i) (Y b i) = ptA Q) :
    ACall Pg F_feld_Sum [.vsl 1 r cap (rowsG (fun _ => n) C I X Y)] []
      (fun v m' => ∃ n' G x vs, v = .tup (x :: vs) ∧ ((b = r ∧ n' = (if r = 0 then 0 else n) ∧ G = ptsG (fun i => sumP P i r) ∧ vs = [.int .i64 0]) ∨ (b < r ∧ n' = 0 ∧ (∃ P, G = ptsG P) ∧ vs = [.int .i64 3])) ∧ RetG 9 n' G x m' ∧ Flats true vs) := by
  refine B_feld_Sum ⟨rfl, ?_⟩
  conv => whnf
  repeat (refine ⟨⟨[], rfl⟩, ?_⟩; conv => whnf)
  refine condB_mk (fun h => by exfalso; simp at h; omega) (fun h => ?_)
  conv => whnf
  repeat (refine ⟨⟨[], rfl⟩, ?_⟩; conv => whnf)
  refine loop_wk mixed (I := fun q l m => ∃ (k : Nat), l = [(0, .vsl 1 r cap (rowsG (fun _ => n) C I X Y)), (14, .vsl 1 r cap (rowsG (fun _ => n) C I X Y)), (15, .int .i64 r), (16, .int .i64 k)] ∧ m = [] ∧ q + k = r) r
    (l0 := [(0, .vsl 1 r cap (rowsG (fun _ => n) C I X Y)), (14, .vsl 1 r cap (rowsG (fun _ => n) C I X Y)), (15, .int .i64 r), (16, .int .i64 (0 : Nat))]) (m0 := []) [] ⟨0, rfl, rfl, rfl⟩ ?_ ?_
  · exact .mk0 ⟨.eq _ _ rfl flat_rowsV, .eq _ _ rfl flat_rowsV, Flat.i rfl, Flat.i rfl, trivial⟩ trivial rfl rfl
  · rintro q l m ⟨k, rfl, rfl, hq⟩
    conv => whnf
    repeat (refine ⟨⟨[], rfl⟩, ?_⟩; conv => whnf)
    refine condB_mk (fun hb => ?_) (fun hb => ?_)
    · have hb : k < r := by simp at hb; omega
      conv => whnf
      repeat (refine ⟨⟨[], rfl⟩, ?_⟩; conv => whnf)
      refine condB_ok (by simp; omega) ?_
      conv => whnf
      repeat (refine ⟨⟨[], rfl⟩, ?_⟩; conv => whnf)
      refine condB_ok (by simp; omega) ?_
      conv => whnf
      repeat (refine ⟨⟨[], rfl⟩, ?_⟩; conv => whnf)
      refine condB_mk (fun h => ?_) (fun h => by exfalso; simp at h)
      conv => whnf
      repeat (refine ⟨⟨[], rfl⟩, ?_⟩; conv => whnf)
      refine condB_mk (fun h => by exfalso; simp at h; omega) (fun h => ?_)
      conv => whnf
      repeat (refine ⟨⟨[], rfl⟩, ?_⟩; conv => whnf)
      have e5 : IntKind.i64.wrap ((k : Int) + 1) = ((k + 1 : Nat) : Int) := by rw [w64 (by omega) (by omega)]; omega
      refine ⟨q - 1, [(0, .vsl 1 r cap (rowsG (fun _ => n) C I X Y)), (14, .vsl 1 r cap (rowsG (fun _ => n) C I X Y)), (15, .int .i64 r), (16, .int .i64 ((k + 1 : Nat) : Int))], [], [], by omega, ⟨k + 1, rfl, rfl, by omega⟩, ?_⟩
      exact .mk0 ⟨.eq _ _ rfl flat_rowsV, .eq _ _ rfl flat_rowsV, Flat.i rfl, Flat.i e5, trivial⟩ trivial rfl rfl
    · conv => whnf
      repeat (refine ⟨⟨[], rfl⟩, ?_⟩; conv => whnf)
      refine loop_wk mixed (I := fun q l m => ∃ (k N' c' : Nat) (F : Nat → Pt Fp), l = [(33, .vsl 1 r cap (rowsG (fun _ => n) C I X Y)), (34, .int .i64 r), (35, .int .i64 k), (6, .sl 0 0 N' c')] ∧ m = [some ⟨9, N', ptsG F⟩] ∧ q + k = r ∧ k ≤ b ∧ N' = (if k = 0 then 0 else n) ∧ ∀ i, i < n → F i = sumP P i k) r
        (l0 := [(33, .vsl 1 r cap (rowsG (fun _ => n) C I X Y)), (34, .int .i64 r), (35, .int .i64 (0 : Nat)), (6, .sl 0 0 0 0)]) (m0 := [some ⟨9, 0, ptsG (fun _ => .inf)⟩]) [none] ⟨0, 0, 0, _, rfl, rfl, rfl, Nat.zero_le _, rfl, fun _ _ => rfl⟩ ?_ ?_
      · exact .mk0 ⟨.eq _ _ rfl flat_rowsV, Flat.i rfl, Flat.i rfl, .nils _ _, trivial⟩ ⟨.ph _ _ _ rfl, trivial⟩ rfl rfl
      · rintro q l m ⟨k, N', c', F, rfl, rfl, hq, hkb, hN, hF⟩
        conv => whnf
        repeat (refine ⟨⟨[], rfl⟩, ?_⟩; conv => whnf)
        refine condB_mk (fun hb => ?_) (fun hb => ?_)
        · have hb : k < r := by simp at hb; omega
          conv => whnf
          repeat (refine ⟨⟨[], rfl⟩, ?_⟩; conv => whnf)
          refine condB_ok (by simp; omega) ?_
          conv => whnf
          repeat (refine ⟨⟨[], rfl⟩, ?_⟩; conv => whnf)
          by_cases hkb2 : k = b
          · obtain ⟨hX, hY, t, ht, hbt, hg⟩ := hbad (by omega)
            subst hkb2
            refine S_points_bad (n := n) (I := I k) (X := X k) (Y := Y k) (ShowsG.vsl fun _ _ _ _ => flat_rawsG) hX hY ht hbt hg (by omega) ?_
            conv => whnf
            repeat (refine ⟨⟨[], rfl⟩, ?_⟩; conv => whnf)
            exact ⟨0, ptsG F, .nils, _, rfl, .inr ⟨hb, rfl, ⟨_, rfl⟩, rfl⟩, .inl ⟨rfl, rfl⟩, .cons _ _ (.int _ _) .nil⟩
          have hPk : ∀ i, i < n → On (P k i) ∧ rawL (I k i) (X k i) (Y k i) = rawL (isI (P k i)) (xN (P k i)) (yN (P k i)) := fun i hi => hP k i (by omega) hi
          refine S_points (n := n) (P := P k) (ShowsG.raws fun i hi => (hPk i hi).2) (fun i hi => (hPk i hi).1) (by omega) ?_
          conv => whnf
          repeat (refine ⟨⟨[], rfl⟩, ?_⟩; conv => whnf)
          refine condB_mk (fun h0 => ?_) (fun h0 => ?_)
          · have h0 : k = 0 := by simp at h0; omega
            subst h0
            obtain rfl : N' = 0 := by rw [hN]; rfl
            conv => whnf
            repeat (refine ⟨⟨[], rfl⟩, ?_⟩; conv => whnf)
            refine condB_ok (app_ok (decide_eq_true (Nat.le_refl _)) rfl rfl (by show (0 + n) * 72 ≤ 140737488355328; omega) (by show 0 + n ≤ 140737488355328; omega)) (fun cap' hcap => ?_)
            conv => whnf
            repeat (refine ⟨⟨[], rfl⟩, ?_⟩; conv => whnf)
            have e5 : IntKind.i64.wrap (((0 : Nat) : Int) + 1) = ((0 + 1 : Nat) : Int) := by decide
            refine ⟨q - 1, [(33, .vsl 1 r cap (rowsG (fun _ => n) C I X Y)), (34, .int .i64 r), (35, .int .i64 ((0 + 1 : Nat) : Int)), (6, .sl 0 0 n cap')], [some ⟨9, n, ptsG (P 0)⟩], [some 1], by omega, ⟨0 + 1, n, cap', P 0, rfl, rfl, by omega, by omega, by rw [if_neg (by omega)], fun i hi => by rw [sumP_succ]; exact (inf_padd _).symm⟩, ?_⟩
            refine .mk0 ⟨.eq _ _ rfl flat_rowsV, Flat.i rfl, Flat.i e5, by
              have e : 0 + (fun _ => n) ((0 : Nat) : Int).toNat = n := Nat.zero_add n
              rw [e] 
              exact .sl _ _ _ _ _ rfl, trivial⟩ ⟨.old 0 1 _ _ rfl rfl ⟨rfl, by show n ≤ 0 + n; omega, fun i j hi hj => ?_⟩, trivial⟩ rfl rfl
            have hi : i < n := hi
            have e : catG 0 (ptsG F) (rawsG (I 0) (X 0) (Y 0)) i j = ptsG (P 0) i j := by
              rw [catG_ge (Nat.zero_le _)]
              show rawsG (I 0) (X 0) (Y 0) i j = _
              unfold ptsG rawsG
              rw [(hPk i hi).2]
            exact .eq _ _ e (by show Flat false (catG 0 (ptsG F) (rawsG (I 0) (X 0) (Y 0)) i j); rw [e]; exact flat_ptsG)
          · have h0 : k ≠ 0 := by simp at h0; omega
            obtain rfl : n = N' := by rw [hN, if_neg h0]
            conv => whnf
            repeat (refine ⟨⟨[], rfl⟩, ?_⟩; conv => whnf)
            refine loop_wk mixed (I := fun q l m => ∃ (t : Nat) (F' : Nat → Pt Fp), l = [(33, .vsl 1 r cap (rowsG (fun _ => n) C I X Y)), (34, .int .i64 r), (35, .int .i64 k), (6, .sl 0 0 n c'), (48, .vsl 9 n (C k) (rawsG (I k) (X k) (Y k))), (49, .int .i64 n), (50, .int .i64 t)] ∧ m = [some ⟨9, n, ptsG F'⟩] ∧ q + t = n ∧ ∀ i, i < n → F' i = if i < t then padd (F i) (P k i) else F i) n
              (l0 := [(33, .vsl 1 r cap (rowsG (fun _ => n) C I X Y)), (34, .int .i64 r), (35, .int .i64 k), (6, .sl 0 0 n c'), (48, .vsl 9 n (C k) (rawsG (I k) (X k) (Y k))), (49, .int .i64 n), (50, .int .i64 (0 : Nat))]) (m0 := [some ⟨9, n, ptsG F⟩]) [some 0] ⟨0, F, rfl, rfl, rfl, fun i hi => by rw [if_neg (by omega)]⟩ ?_ ?_
            · exact .mk0 ⟨.eq _ _ rfl flat_rowsV, Flat.i rfl, Flat.i rfl, .sl _ _ _ _ _ rfl, .eq _ _ rfl (.vsl _ _ _ _ rfl (fun _ _ _ _ => flat_rawsG)), Flat.i rfl, Flat.i rfl, trivial⟩ ⟨.old 0 0 _ _ rfl rfl ⟨rfl, Nat.le_refl _, fun i j hi hj => .eq _ _ rfl flat_ptsG⟩, trivial⟩ rfl rfl
            · rintro q2 l m ⟨t, F', rfl, rfl, hq2, hF'⟩
              conv => whnf
              repeat (refine ⟨⟨[], rfl⟩, ?_⟩; conv => whnf)
              refine condB_mk (fun hb2 => ?_) (fun hb2 => ?_)
              · have hb2 : t < n := by simp at hb2; omega
                conv => whnf
                repeat (refine ⟨⟨[], rfl⟩, ?_⟩; conv => whnf)
                refine condB_ok (by simp; omega) ?_
                conv => whnf
                repeat (refine ⟨⟨[], rfl⟩, ?_⟩; conv => whnf)
                refine condB_ok (by simp; omega) ?_
                conv => whnf
                repeat (refine ⟨⟨[], rfl⟩, ?_⟩; conv => whnf)
                refine condB_ok (by simp [roomG, Nat.ble_eq]; omega) ?_
                conv => whnf
                repeat (refine ⟨⟨[], rfl⟩, ?_⟩; conv => whnf)
                have hF2 : F' t = F t := by rw [hF' t hb2, if_neg (by omega)]
                refine T_AddE (P := F' t) (Q := P k t) (by rw [show (t : Int).toNat = t from rfl, Nat.zero_add]; rfl) (congrArg AV.agg (hPk t hb2).2) (by rw [hF2, hF t hb2]; exact On.sumP _ fun j hj => (hP j t (by omega) hb2).1) (hPk t hb2).1 (fun R oR hR => ?_)
                conv => whnf
                repeat (refine ⟨⟨[], rfl⟩, ?_⟩; conv => whnf)
                refine condB_ok (by simp; omega) ?_
                conv => whnf
                repeat (refine ⟨⟨[], rfl⟩, ?_⟩; conv => whnf)
                refine condB_ok (by simp [roomG, Nat.ble_eq]; omega) ?_
                conv => whnf
                repeat (refine ⟨⟨[], rfl⟩, ?_⟩; conv => whnf)
                have e5 : IntKind.i64.wrap ((t : Int) + 1) = ((t + 1 : Nat) : Int) := by rw [w64 (by omega) (by omega)]; omega
                refine ⟨q2 - 1, [(33, .vsl 1 r cap (rowsG (fun _ => n) C I X Y)), (34, .int .i64 r), (35, .int .i64 k), (6, .sl 0 0 n c'), (48, .vsl 9 n (C k) (rawsG (I k) (X k) (Y k))), (49, .int .i64 n), (50, .int .i64 ((t + 1 : Nat) : Int))], [some ⟨9, n, ptsG (fun i => if i = t then R else F' i)⟩], [some 0], by omega, ⟨t + 1, _, rfl, rfl, by omega, fun i hi => ?_⟩, ?_⟩
                · by_cases hit : i = t
                  · subst hit
                    rw [if_pos rfl, if_pos (by omega), hR, hF2]
                  · rw [if_neg hit, hF' i hi]
                    by_cases hlt : i < t
                    · rw [if_pos hlt, if_pos (by omega)]
                    · rw [if_neg hlt, if_neg (by omega)]
                · exact .mk0 ⟨.eq _ _ rfl flat_rowsV, Flat.i rfl, Flat.i rfl, .sl _ _ _ _ _ rfl, .eq _ _ rfl (.vsl _ _ _ _ rfl (fun _ _ _ _ => flat_rawsG)), Flat.i rfl, Flat.i e5, trivial⟩ ⟨.old 0 0 _ _ rfl rfl ⟨rfl, Nat.le_refl _, fun i j hi hj => .eq _ _ (upd9 hj) (by refine Eq.mpr (congrArg (Flat false) (upd9 hj)) flat_ptsG)⟩, trivial⟩ rfl rfl
              · have hb2 : t = n := by simp at hb2; omega
                subst hb2
                conv => whnf
                repeat (refine ⟨⟨[], rfl⟩, ?_⟩; conv => whnf)
                have e5 : IntKind.i64.wrap ((k : Int) + 1) = ((k + 1 : Nat) : Int) := by rw [w64 (by omega) (by omega)]; omega
                refine ⟨q - 1, [(33, .vsl 1 r cap (rowsG (fun _ => t) C I X Y)), (34, .int .i64 r), (35, .int .i64 ((k + 1 : Nat) : Int)), (6, .sl 0 0 t c')], [some ⟨9, t, ptsG F'⟩], [some 0], by omega, ⟨k + 1, t, c', F', rfl, rfl, by omega, by omega, by rw [if_neg (by omega)], fun i hi => by rw [hF' i hi, if_pos hi, hF i hi, sumP_succ]⟩, ?_⟩
                exact .mk0 ⟨.eq _ _ rfl flat_rowsV, Flat.i rfl, Flat.i e5, .sl _ _ _ _ _ rfl, trivial⟩ ⟨.old 0 0 _ _ rfl rfl ⟨rfl, Nat.le_refl _, fun i j hi hj => .eq _ _ rfl flat_ptsG⟩, trivial⟩ rfl rfl
        · have hb : k = r := by simp at hb; omega
          subst hb
          obtain rfl : b = k := by omega
          conv => whnf
          repeat (refine ⟨⟨[], rfl⟩, ?_⟩; conv => whnf)
          exact ⟨N', ptsG (fun i => sumP P i b), _, _, rfl, .inl ⟨rfl, hN, rfl, rfl⟩, .inr ⟨0, c', N', _, rfl, rfl, Nat.le_refl _, fun i j hi hj => by
            have hi2 : i < n := by rw [hN] at hi; split at hi <;> omega
            show (rawL (isI (F i)) (xN (F i)) (yN (F i))).getD j .un = (rawL (isI (sumP P i b)) (xN (sumP P i b)) (yN (sumP P i b))).getD j .un
            rw [hF i hi2]⟩, .cons _ _ (.int _ _) .nil⟩

theorem S_SumMany0 (r cap : Nat) (N C : Nat → Nat) (I : Nat → Nat → Bool) (X Y : Nat → Nat → Nat) (hr : 8 < r) :
    ACall Pg F_feld_Sum [.vsl 1 r cap (rowsG N C I X Y)] [] (fun v m' => ∃ n' G x vs, v = .tup (x :: vs) ∧ (n' = 0 ∧ (∃ P, G = ptsG P) ∧ vs = [.int .i64 4]) ∧ RetG 9 n' G x m' ∧ Flats true vs) := by
  refine B_feld_Sum ⟨rfl, ?_⟩
  conv => whnf
  repeat (refine ⟨⟨[], rfl⟩, ?_⟩; conv => whnf)
  refine condB_mk (fun h => ?_) (fun h => by exfalso; simp at h; omega)
  conv => whnf
  repeat (refine ⟨⟨[], rfl⟩, ?_⟩; conv => whnf)
  exact ⟨0, ptsG (fun _ => .inf), .nils, _, rfl, ⟨rfl, ⟨_, rfl⟩, rfl⟩, .inl ⟨rfl, rfl⟩, .cons _ _ (.int _ _) .nil⟩

theorem S_SumLen0 (r b cap : Nat) (N C : Nat → Nat) (I : Nat → Nat → Bool) (X Y : Nat → Nat → Nat) (hr : r ≤ 8) (hbr : b < r) (h0 : N 0 ≤ 64) (hN : ∀ k, k < b → N k = N 0) (hb0 : N b ≠ N 0) :
    ACall Pg F_feld_Sum [.vsl 1 r cap (rowsG N C I X Y)] [] (fun v m' => ∃ n' G x vs, v = .tup (x :: vs) ∧ (n' = 0 ∧ (∃ P, G = ptsG P) ∧ vs = [.int .i64 4]) ∧ RetG 9 n' G x m' ∧ Flats true vs) := by
  refine B_feld_Sum ⟨rfl, ?_⟩
  conv => whnf
  repeat (refine ⟨⟨[], rfl⟩, ?_⟩; conv => whnf)
  refine condB_mk (fun h => by exfalso; simp at h; omega) (fun h => ?_)
  conv => whnf
  repeat (refine ⟨⟨[], rfl⟩, ?_⟩; conv => whnf)
  refine loop_wk mixed (I := fun q l m => ∃ (k : Nat), l = [(0, .vsl 1 r cap (rowsG N C I X Y)), (14, .vsl 1 r cap (rowsG N C I X Y)), (15, .int .i64 r), (16, .int .i64 k)] ∧ m = [] ∧ q + k = r ∧ k ≤ b) r
    (l0 := [(0, .vsl 1 r cap (rowsG N C I X Y)), (14, .vsl 1 r cap (rowsG N C I X Y)), (15, .int .i64 r), (16, .int .i64 (0 : Nat))]) (m0 := []) [] ⟨0, rfl, rfl, rfl, Nat.zero_le _⟩ ?_ ?_
  · exact .mk0 ⟨.eq _ _ rfl flat_rowsV, .eq _ _ rfl flat_rowsV, Flat.i rfl, Flat.i rfl, trivial⟩ trivial rfl rfl
  · rintro q l m ⟨k, rfl, rfl, hq, hkb⟩
    conv => whnf
    repeat (refine ⟨⟨[], rfl⟩, ?_⟩; conv => whnf)
    refine condB_mk (fun hb => ?_) (fun hb => by exfalso; simp at hb; omega)
    have hb : k < r := by simp at hb; omega
    conv => whnf
    repeat (refine ⟨⟨[], rfl⟩, ?_⟩; conv => whnf)
    refine condB_ok (by simp; omega) ?_
    conv => whnf
    repeat (refine ⟨⟨[], rfl⟩, ?_⟩; conv => whnf)
    refine condB_ok (by simp; omega) ?_
    conv => whnf
    repeat (refine ⟨⟨[], rfl⟩, ?_⟩; conv => whnf)
    by_cases hk : k = b
    · subst hk
      refine condB_mk (fun h => by
        exfalso
        have h : (N k : Int) = N 0 := by simpa using h
        omega) (fun h => ?_)
      conv => whnf
      repeat (refine ⟨⟨[], rfl⟩, ?_⟩; conv => whnf)
      exact ⟨0, ptsG (fun _ => .inf), .nils, _, rfl, ⟨rfl, ⟨_, rfl⟩, rfl⟩, .inl ⟨rfl, rfl⟩, .cons _ _ (.int _ _) .nil⟩
    · have e0 := hN k (by omega)
      refine condB_mk (fun h => ?_) (fun h => by
        exfalso
        have h : ¬ (N k : Int) = N 0 := by simpa using h
        omega)
      conv => whnf
      repeat (refine ⟨⟨[], rfl⟩, ?_⟩; conv => whnf)
      refine condB_mk (fun h => by
        exfalso
        have h : (N k : Int) > 64 := by simpa using h
        omega) (fun h => ?_)
      conv => whnf
      repeat (refine ⟨⟨[], rfl⟩, ?_⟩; conv => whnf)
      have e5 : IntKind.i64.wrap ((k : Int) + 1) = ((k + 1 : Nat) : Int) := by rw [w64 (by omega) (by omega)]; omega
      refine ⟨q - 1, [(0, .vsl 1 r cap (rowsG N C I X Y)), (14, .vsl 1 r cap (rowsG N C I X Y)), (15, .int .i64 r), (16, .int .i64 ((k + 1 : Nat) : Int))], [], [], by omega, ⟨k + 1, rfl, rfl, by omega, by omega⟩, ?_⟩
      exact .mk0 ⟨.eq _ _ rfl flat_rowsV, .eq _ _ rfl flat_rowsV, Flat.i rfl, Flat.i e5, trivial⟩ trivial rfl rfl

/-- What stands in slot x shows r rows of points. -/
def ShowsR (m : Mem) (x : AV) (r : Nat) (N : Nat → Nat) (I : Nat → Nat → Bool) (X Y : Nat → Nat → Nat) : Prop := ∃ cap C, Lend (fun _ => none) (List.range m.length) m x (.vsl 1 r cap (rowsG N C I X Y))
theorem ShowsR.nils {m : Mem} {N : Nat → Nat} {I : Nat → Nat → Bool} {X Y : Nat → Nat → Nat} : ShowsR m .nils 0 N I X Y := ⟨0, fun _ => 0, .nils _ _⟩
theorem ShowsR.sl {m : Mem} {l off r cap M : Nat} {N : Nat → Nat} {I : Nat → Nat → Bool} {X Y : Nat → Nat → Nat} {g : Nat → Nat → AV} (h : m[l]? = some (some ⟨1, M, g⟩)) (hn : off + r ≤ M) (hG : ∀ i, i < r → ShowsG m (g (off + i) 0) 9 (N i) (rawsG (I i) (X i) (Y i))) : ShowsR m (.sl l off r cap) r N I X Y := by
  have hC : ∃ C : Nat → Nat, ∀ i, i < r → Lend (fun _ => none) (List.range m.length) m (g (off + i) 0) (.vsl 9 (N i) (C i) (rawsG (I i) (X i) (Y i))) := by
    refine ⟨fun i => if h : i < r then Classical.choose (hG i h) else 0, fun i hi => ?_⟩
    dsimp only
    rw [dif_pos hi]
    exact Classical.choose_spec (hG i hi)
  obtain ⟨C, hC⟩ := hC
  refine ⟨cap, C, .slR l off r cap ⟨1, M, g⟩ _ (List.mem_range.2 (lt_of_get h)) h hn fun i j hi hj => ?_⟩
  have hj : j < 1 := hj
  obtain rfl : j = 0 := by omega
  exact hC i hi

theorem S_Sum {m : Mem} {x : AV} {K : AV → Mem → Prop} {r n : Nat} {I : Nat → Nat → Bool} {X Y : Nat → Nat → Nat} {P : Nat → Nat → Pt Fp} (hx : ShowsR m x r (fun _ => n) I X Y) (hr : r ≤ 8) (hn : n ≤ 64)
    (hP : ∀ k i, k < r → i < n → On (P k i) ∧ rawL (I k i) (X k i) (Y k i) = rawL (isI (P k i)) (xN (P k i)) (yN (P k i)))
    (h : ∀ n' Q cap, n' = (if r = 0 then 0 else n) → (Q = fun i => sumP P i r) → memK (m ++ [some ⟨9, n', ptsG Q⟩]) (K (.tup [.sl m.length 0 n' cap, .int .i64 0]))) : ACall Pg F_feld_Sum [x] m K := by
  simp only [memK_eq] at h
  obtain ⟨cap, C, hl⟩ := hx
  refine lift_tupG (S_Sum0 r r n cap C I X Y P hr hn (Nat.le_refl _) hP (fun h => absurd h (by omega))) (fun n G vs hR i j _ _ => ?_) (.cons _ _ _ _ hl .nil) ?_
  · rcases hR with ⟨_, _, rfl, _⟩ | ⟨h, _⟩
    · exact flat_ptsG
    · exact absurd h (by omega)
  · rintro n' G cap' vs (⟨_, rfl, rfl, rfl⟩ | ⟨h, _⟩)
    · exact h _ _ cap' rfl rfl
    · exact absurd h (by omega)
theorem S_Sum_bad {m : Mem} {x : AV} {K : AV → Mem → Prop} {r b n : Nat} {I : Nat → Nat → Bool} {X Y : Nat → Nat → Nat} {P : Nat → Nat → Pt Fp} (hx : ShowsR m x r (fun _ => n) I X Y) (hr : r ≤ 8) (hn : n ≤ 64) (hb : b < r)
    (hP : ∀ k i, k < b → i < n → On (P k i) ∧ rawL (I k i) (X k i) (Y k i) = rawL (isI (P k i)) (xN (P k i)) (yN (P k i)))
    (hX : ∀ i, i < n → X b i < w256) (hY : ∀ i, i < n → Y b i < w256) (t : Nat) (ht : t < n) (hbad : Bad (I b t) (X b t) (Y b t)) (hg : ∀ i, i < t → ∃ Q, On Q ∧ rawA (I b i) (X b i) (Y b i) = ptA Q)
    (h : ∀ P cap, memK (m ++ [some ⟨9, 0, ptsG P⟩]) (K (.tup [.sl m.length 0 0 cap, .int .i64 3]))) : ACall Pg F_feld_Sum [x] m K := by
  simp only [memK_eq] at h
  obtain ⟨cap, C, hl⟩ := hx
  refine lift_tupG (S_Sum0 r b n cap C I X Y P hr hn (by omega) hP (fun _ => ⟨hX, hY, t, ht, hbad, hg⟩)) (fun n G vs hR i j _ _ => ?_) (.cons _ _ _ _ hl .nil) ?_
  · rcases hR with ⟨h, _⟩ | ⟨_, _, ⟨_, rfl⟩, _⟩
    · exact absurd h (by omega)
    · exact flat_ptsG
  · rintro n' G cap' vs (⟨h, _⟩ | ⟨_, rfl, ⟨P, rfl⟩, rfl⟩)
    · exact absurd h (by omega)
    · exact h P cap'
theorem S_Sum_len {m : Mem} {x : AV} {K : AV → Mem → Prop} {r b : Nat} {N : Nat → Nat} {I : Nat → Nat → Bool} {X Y : Nat → Nat → Nat} (hx : ShowsR m x r N I X Y) (hr : r ≤ 8) (hbr : b < r) (h0 : N 0 ≤ 64) (hN : ∀ k, k < b → N k = N 0) (hb0 : N b ≠ N 0)
    (h : ∀ P cap, memK (m ++ [some ⟨9, 0, ptsG P⟩]) (K (.tup [.sl m.length 0 0 cap, .int .i64 4]))) : ACall Pg F_feld_Sum [x] m K := by
  simp only [memK_eq] at h
  obtain ⟨cap, C, hl⟩ := hx
  refine lift_tupG (S_SumLen0 r b cap N C I X Y hr hbr h0 hN hb0) (fun n G vs hR i j _ _ => ?_) (.cons _ _ _ _ hl .nil) ?_
  · obtain ⟨_, ⟨_, rfl⟩, _⟩ := hR
    exact flat_ptsG
  · rintro n' G cap' vs ⟨rfl, ⟨P, rfl⟩, rfl⟩
    exact h P cap'
theorem S_Sum_many {m : Mem} {x : AV} {K : AV → Mem → Prop} {r : Nat} {N : Nat → Nat} {I : Nat → Nat → Bool} {X Y : Nat → Nat → Nat} (hx : ShowsR m x r N I X Y) (hr : 8 < r)
    (h : ∀ P cap, memK (m ++ [some ⟨9, 0, ptsG P⟩]) (K (.tup [.sl m.length 0 0 cap, .int .i64 4]))) : ACall Pg F_feld_Sum [x] m K := by
  simp only [memK_eq] at h
  obtain ⟨cap, C, hl⟩ := hx
  refine lift_tupG (S_SumMany0 r cap N C I X Y hr) (fun n G vs hR i j _ _ => ?_) (.cons _ _ _ _ hl .nil) ?_
  · obtain ⟨_, ⟨_, rfl⟩, _⟩ := hR
    exact flat_ptsG
  · rintro n' G cap' vs ⟨rfl, ⟨P, rfl⟩, rfl⟩
    exact h P cap'
end Go.Proofs.Ytmngdaeogbjpiaa
end

section
/- The laws FeldRows, FeldLong, FeldSums; no condition. -/
set_option linter.unusedVariables false
set_option linter.unusedSimpArgs false
set_option maxRecDepth 100000
set_option pp.maxSteps 3000
namespace Go.Proofs.Ytmngdaeogbjpiaa
open Go Go.Wit

/-- Two rows, or three. -/
def ch2 {α : Type} (a b : α) (i : Nat) : α := if i = 0 then a else b
theorem sumN_add {a b : Nat → Nat} {x n : Nat} : sumN (fun i => a i + b i) x n = sumN a x n + sumN b x n := by
  induction n with
  | zero => rfl
  | succ n ih => rw [sumN_succ, sumN_succ, sumN_succ, ih, Nat.mul_add]; omega
theorem S_FeldRows (n1 c1 n2 c2 : Nat) (a b : Nat → Nat) (x : Nat) (ha : ∀ i, i < n1 → a i < w256) (hb : ∀ i, i < n2 → b i < w256) (hn1 : n1 ≤ c1) (hn2 : n2 ≤ c2) (hx : x < w256) :
    ACall Pg F_witanlaw07_FeldRows [.vsl 4 n1 c1 (numsG a), .vsl 4 n2 c2 (numsG b), numA x] [] (fun r _ => r = .bool true) := by
  refine B_witanlaw07_FeldRows ⟨rfl, ?_⟩
  conv => whnf
  repeat (refine ⟨⟨[], rfl⟩, ?_⟩; conv => whnf)
  obtain ⟨n, hn, e, l1, l2⟩ : ∃ n : Nat, n = (if n2 < n1 then n2 else n1) ∧ (if (n2 : Int) < n1 then (n2 : Int) else n1) = n ∧ n ≤ n1 ∧ n ≤ n2 := by
    by_cases h : n2 < n1
    · exact ⟨n2, by rw [if_pos h], by rw [if_pos (by omega)], by omega, by omega⟩
    · exact ⟨n1, by rw [if_neg h], by rw [if_neg (by omega)], by omega, by omega⟩
  rw [e]
  refine condB_mk (fun h => ?_) (fun h => ?_)
  rotate_left
  · conv => whnf
    repeat (refine ⟨⟨[], rfl⟩, ?_⟩; conv => whnf)
  conv => whnf
  repeat (refine ⟨⟨[], rfl⟩, ?_⟩; conv => whnf)
  refine condB_mk (fun h => ?_) (fun h2 => ?_)
  · conv => whnf
    repeat (refine ⟨⟨[], rfl⟩, ?_⟩; conv => whnf)
  have h5 : n1 ≤ 5 := by simp at h; omega
  conv => whnf
  repeat (refine ⟨⟨[], rfl⟩, ?_⟩; conv => whnf)
  refine condB_ok (by simp; omega) ?_
  conv => whnf
  repeat (refine ⟨⟨[], rfl⟩, ?_⟩; conv => whnf)
  refine S_Commit (n := n) (c := a) (ShowsG.vsl fun _ _ _ _ => flat_numsG) (fun i hi => ha i (by omega)) (fun _ P cap3 hP => ?_) (fun h => by omega)
  conv => whnf
  repeat (refine ⟨⟨[], rfl⟩, ?_⟩; conv => whnf)
  refine condB_ok (by simp; omega) ?_
  conv => whnf
  repeat (refine ⟨⟨[], rfl⟩, ?_⟩; conv => whnf)
  refine S_Commit (n := n) (c := b) (ShowsG.vsl fun _ _ _ _ => flat_numsG) (fun i hi => hb i (by omega)) (fun _ Q cap4 hQ => ?_) (fun h => by omega)
  conv => whnf
  repeat (refine ⟨⟨[], rfl⟩, ?_⟩; conv => whnf)
  refine S_Sum (r := 2) (n := n) (I := ch2 (fun i => isI (P i)) (fun i => isI (Q i))) (X := ch2 (fun i => xN (P i)) (fun i => xN (Q i))) (Y := ch2 (fun i => yN (P i)) (fun i => yN (Q i))) (P := ch2 P Q) (ShowsR.sl rfl (by decide) (fun i hi => ?_)) (by decide) (by omega) (fun k i hk hi => ?_) (fun n' S cap5 hn' hS => ?_)
  · have : i = 0 ∨ i = 1 := by omega
    rcases this with rfl | rfl
    · exact ShowsG.own rfl (Nat.le_refl _) fun _ _ => flat_ptsG
    · exact ShowsG.own rfl (Nat.le_refl _) fun _ _ => flat_ptsG
  · have : k = 0 ∨ k = 1 := by omega
    rcases this with rfl | rfl
    · refine ⟨?_, rfl⟩
      show On (P i)
      rw [hP]; exact on_G.nmul crvP _
    · refine ⟨?_, rfl⟩
      show On (Q i)
      rw [hQ]; exact on_G.nmul crvP _
  obtain rfl : n' = n := by rw [hn', if_neg (by decide)]
  have oP : ∀ i, i < n' → On (P i) := fun i _ => by rw [hP]; exact on_G.nmul crvP _
  have oQ : ∀ i, i < n' → On (Q i) := fun i _ => by rw [hQ]; exact on_G.nmul crvP _
  have eS : S = fun i => nmul (a i + b i) gG := by
    rw [hS]
    funext i
    show padd (padd .inf (P i)) (Q i) = _
    rw [inf_padd, hP, hQ, nmul_add crvP on_G]
  have oS : ∀ i, i < n' → On (S i) := fun i _ => by rw [eS]; exact on_G.nmul crvP _
  have key : polyP S x n' = padd (polyP P x n') (polyP Q x n') := by
    rw [hP, hQ, eS, polyP_sum, polyP_sum, polyP_sum, sumN_add, nmul_add crvP on_G]
  clear hP hQ hS hn'
  conv => whnf
  repeat (refine ⟨⟨[], rfl⟩, ?_⟩; conv => whnf)
  refine condB_no (by simp) ?_
  conv => whnf
  repeat (refine ⟨⟨[], rfl⟩, ?_⟩; conv => whnf)
  refine S_At (n := n') (P := P) (ShowsG.own rfl (Nat.le_refl _) fun _ _ => flat_ptsG) hx oP (by omega) (fun U oU hU => ?_)
  conv => whnf
  repeat (refine ⟨⟨[], rfl⟩, ?_⟩; conv => whnf)
  refine S_At (n := n') (P := Q) (ShowsG.own rfl (Nat.le_refl _) fun _ _ => flat_ptsG) hx oQ (by omega) (fun V oV hV => ?_)
  conv => whnf
  repeat (refine ⟨⟨[], rfl⟩, ?_⟩; conv => whnf)
  refine S_At (n := n') (P := S) (ShowsG.own rfl (Nat.le_refl _) fun _ _ => flat_ptsG) hx oS (by omega) (fun W oW hW => ?_)
  conv => whnf
  repeat (refine ⟨⟨[], rfl⟩, ?_⟩; conv => whnf)
  refine T_Add oU oV (fun T oT hT => ?_)
  obtain rfl : W = T := by rw [hW, key, hT, hU, hV]
  conv => whnf
  repeat (refine ⟨⟨[], rfl⟩, ?_⟩; conv => whnf)
  refine S_kPt_eq (P := W) ?_
  conv => whnf
  repeat (refine ⟨⟨[], rfl⟩, ?_⟩; conv => whnf)
  refine S_wakes07 ?_
  conv => whnf
  repeat (refine ⟨⟨[], rfl⟩, ?_⟩; conv => whnf)

theorem S_CommitE {m : Mem} {x : AV} {K : AV → Mem → Prop} {n : Nat} {c : Nat → Nat} (hx : ShowsG m x 4 n (numsG c)) (hc : ∀ i, i < n → c i < w256)
    (h : ∀ n' P cap e, e = (if n ≤ 64 then 0 else 4 : Int) → memK (m ++ [some ⟨9, n', ptsG P⟩]) (K (.tup [.sl m.length 0 n' cap, .int .i64 e]))) : ACall Pg F_feld_Commit [x] m K :=
  S_Commit hx hc (fun hn P cap _ => h n P cap 0 (by rw [if_pos hn])) (fun hn P cap => h 0 P cap 4 (by rw [if_neg (by omega)]))
theorem S_AtE {m : Mem} {a : AV} {K : AV → Mem → Prop} {n x : Nat} {P : Nat → Pt Fp} (ha : ShowsG m a 9 n (ptsG P)) (hx : x < w256) (oP : ∀ i, i < n → On (P i)) (h : ∀ R e, e = (if n ≤ 64 then 0 else 4 : Int) → (n ≤ 64 → R = polyP P x n) → K (.tup [ptA R, .int .i64 e]) m) : ACall Pg F_feld_At [a, numA x] m K := by
  by_cases hn : n ≤ 64
  · exact S_At ha hx oP hn fun R _ hR => h R 0 (by rw [if_pos hn]) fun _ => hR
  · exact S_At_long ha (by omega) (h (.aff 0 0) 4 (by rw [if_neg hn]) fun h => absurd h hn)

theorem polyP_inf {x n : Nat} : polyP (fun _ => .inf) x n = .inf := by
  induction n with
  | zero => rfl
  | succ n ih => rw [polyP_succ, ih, nmul_inf]; rfl
theorem sumP_inf {i n : Nat} : sumP (fun _ _ => .inf) i n = .inf := by
  induction n with
  | zero => rfl
  | succ n ih => rw [sumP_succ, ih]; rfl
theorem lim0 {k : Nat} : lim 0 k = 0 := by simp [lim]
theorem num0_cells {i j : Nat} : ([.int .u64 0, .int .u64 0, .int .u64 0, .int .u64 0] : List AV).getD j .un = numsG (fun _ => 0) i j := by
  simp only [numsG, numL, lim0]
theorem inf0_cells {b : Bool} {i j : Nat} (h : b = false) : ([.bool false, .int .u64 0, .int .u64 0, .int .u64 0, .int .u64 0, .int .u64 0, .int .u64 0, .int .u64 0, .int .u64 0] : List AV).getD j .un = rawsG (fun _ => b) (fun _ => 0) (fun _ => 0) i j := by
  subst h
  simp only [rawsG, rawL, lim0]
theorem RV.of {nv : Bool} {σ : Nat → Option Nat} {v v' : AV} (h : v = v') (hf : Flat nv v') : RV nv σ v v' := by subst h; exact .eq _ _ rfl hf
theorem updI {n t i j : Nat} {I : Nat → Bool} {X Y : Nat → Nat} : updG ⟨9, n, rawsG I X Y⟩ t 0 1 [.bool true] i j = rawsG (fun i => if i = t then true else I i) X Y i j := by
  unfold updG
  rw [show Nat.ble (0 + 1) (Blk.mk 9 n (rawsG I X Y)).es = true from rfl]
  simp only [cond_true, pickA_eq, Nat.sub_zero]
  unfold rawsG
  by_cases h : i = t
  · subst h
    by_cases hj : j = 0
    · subst hj
      simp [rawL]
      rfl
    · obtain ⟨q, rfl⟩ : ∃ q, j = q + 1 := ⟨j - 1, by omega⟩
      have e : Nat.blt (q + 1) 1 = false := blt_false (by omega)
      simp [rawL, e]
  · have e : (i == t) = false := by simpa using h
    simp [e, h]
theorem S_FeldLong (a b : Int) : ACall Pg F_witanlaw07_FeldLong [.int .i64 a, .int .i64 b] [] (fun r _ => r = .bool true) := by
  refine B_witanlaw07_FeldLong ⟨rfl, ?_⟩
  conv => whnf
  repeat (refine ⟨⟨[], rfl⟩, ?_⟩; conv => whnf)
  refine condB_mk (fun h => ?_) (fun h => ?_)
  rotate_left
  · conv => whnf
    repeat (refine ⟨⟨[], rfl⟩, ?_⟩; conv => whnf)
  conv => whnf
  repeat (refine ⟨⟨[], rfl⟩, ?_⟩; conv => whnf)
  refine condB_mk (fun h2 => ?_) (fun h2 => ?_)
  rotate_left
  · conv => whnf
    repeat (refine ⟨⟨[], rfl⟩, ?_⟩; conv => whnf)
  conv => whnf
  repeat (refine ⟨⟨[], rfl⟩, ?_⟩; conv => whnf)
  refine condB_mk (fun h3 => ?_) (fun h3 => ?_)
  rotate_left
  · conv => whnf
    repeat (refine ⟨⟨[], rfl⟩, ?_⟩; conv => whnf)
  conv => whnf
  repeat (refine ⟨⟨[], rfl⟩, ?_⟩; conv => whnf)
  refine condB_mk (fun h4 => ?_) (fun h4 => ?_)
  · conv => whnf
    repeat (refine ⟨⟨[], rfl⟩, ?_⟩; conv => whnf)
  obtain ⟨A, rfl⟩ : ∃ A : Nat, a = A := ⟨a.toNat, by simp at h; omega⟩
  obtain ⟨B, rfl⟩ : ∃ B : Nat, b = B := ⟨b.toNat, by simp at h3; omega⟩
  have hA : A ≤ 1 := by simp at h2; omega
  have hB : B ≤ 10 := by simp at h4; omega
  obtain ⟨N, hN⟩ : ∃ N, N = 64 + A := ⟨_, rfl⟩
  have eN : IntKind.i64.wrap (64 + (A : Int)) = (N : Int) := by rw [w64 (by omega) (by omega)]; omega
  clear h h2 h3 h4
  conv => whnf
  repeat (refine ⟨⟨[], rfl⟩, ?_⟩; conv => whnf)
  rw [eN]
  refine condB_ok (by simp; omega) ?_
  conv => whnf
  repeat (refine ⟨⟨[], rfl⟩, ?_⟩; conv => whnf)
  rw [eN]
  refine condB_ok (by simp; omega) ?_
  conv => whnf
  repeat (refine ⟨⟨[], rfl⟩, ?_⟩; conv => whnf)
  refine loop_wk mixed (I := fun q l m => ∃ (k : Nat), l = [(0, .int .i64 A), (1, .int .i64 B), (5, .sl 0 0 N N), (6, .sl 1 0 N N), (7, .int .i64 k)] ∧ m = [some ⟨4, N, numsG (fun _ => 0)⟩, some ⟨9, N, rawsG (fun i => decide (i < k)) (fun _ => 0) (fun _ => 0)⟩] ∧ q + k = N) N
    (l0 := [(0, .int .i64 A), (1, .int .i64 B), (5, .sl 0 0 N N), (6, .sl 1 0 N N), (7, .int .i64 (0 : Nat))]) (m0 := [some ⟨4, N, numsG (fun _ => 0)⟩, some ⟨9, N, rawsG (fun i => decide (i < 0)) (fun _ => 0) (fun _ => 0)⟩]) [some 0, some 1] ⟨0, rfl, rfl, rfl⟩ ?_ ?_
  · exact .mk0 ⟨Flat.i rfl, Flat.i rfl, .sl _ _ _ _ _ rfl, .sl _ _ _ _ _ rfl, Flat.i rfl, trivial⟩ ⟨.old 0 0 _ _ rfl rfl ⟨rfl, Nat.le_refl _, fun i j hi hj => RV.of (num0_cells (i := i)) (by dsimp only; exact flat_numsG)⟩, .old 1 1 _ _ rfl rfl ⟨rfl, Nat.le_refl _, fun i j hi hj => RV.of ((inf0_cells (i := i) (b := false) rfl).trans (by simp [rawsG])) (by dsimp only; exact flat_rawsG)⟩, trivial⟩ rfl rfl
  · rintro q l m ⟨k, rfl, rfl, hq⟩
    conv => whnf
    repeat (refine ⟨⟨[], rfl⟩, ?_⟩; conv => whnf)
    refine condB_mk (fun hb => ?_) (fun hb => ?_)
    · have hb : k < N := by simp at hb; omega
      conv => whnf
      repeat (refine ⟨⟨[], rfl⟩, ?_⟩; conv => whnf)
      refine condB_ok (by simp; omega) ?_
      conv => whnf
      repeat (refine ⟨⟨[], rfl⟩, ?_⟩; conv => whnf)
      refine condB_ok (by simp [roomG, Nat.ble_eq]; omega) ?_
      conv => whnf
      repeat (refine ⟨⟨[], rfl⟩, ?_⟩; conv => whnf)
      have e5 : IntKind.i64.wrap ((k : Int) + 1) = ((k + 1 : Nat) : Int) := by rw [w64 (by omega) (by omega)]; omega
      refine ⟨q - 1, [(0, .int .i64 A), (1, .int .i64 B), (5, .sl 0 0 N N), (6, .sl 1 0 N N), (7, .int .i64 ((k + 1 : Nat) : Int))], [some ⟨4, N, numsG (fun _ => 0)⟩, some ⟨9, N, rawsG (fun i => decide (i < k + 1)) (fun _ => 0) (fun _ => 0)⟩], [some 0, some 1], by omega, ⟨k + 1, rfl, rfl, by omega⟩, ?_⟩
      refine .mk0 ⟨Flat.i rfl, Flat.i rfl, .sl _ _ _ _ _ rfl, .sl _ _ _ _ _ rfl, Flat.i e5, trivial⟩ ⟨.old 0 0 _ _ rfl rfl ⟨rfl, Nat.le_refl _, fun i j hi hj => RV.of rfl (by dsimp only; exact flat_numsG)⟩, .old 1 1 _ _ rfl rfl ⟨rfl, Nat.le_refl _, fun i j hi hj => ?_⟩, trivial⟩ rfl rfl
      refine RV.of (updI.trans ?_) (by dsimp only; exact flat_rawsG)
      have e : (if i = 0 + k then true else decide (i < k)) = decide (i < k + 1) := by
        by_cases h : i = k
        · subst h; simp
        · rw [if_neg (by omega)]; exact decide_eq_decide.2 (by omega)
      exact congrArg (fun b => (rawL b 0 0).getD j .un) e
    · have hb : k = N := by simp at hb; omega
      subst hb
      conv => whnf
      repeat (refine ⟨⟨[], rfl⟩, ?_⟩; conv => whnf)
      refine S_CommitE (n := k) (c := fun _ => 0) (ShowsG.own rfl (Nat.le_refl _) fun _ _ => flat_numsG) (fun _ _ => by decide) (fun n' P cap e he => ?_)
      conv => whnf
      repeat (refine ⟨⟨[], rfl⟩, ?_⟩; conv => whnf)
      refine S_AtE (n := k) (P := fun _ => .inf) (x := 3) (ShowsG.sl rfl (by omega) (fun i j hi hj => ⟨?_, flat_ptsG⟩)) (by decide) (fun _ _ => trivial) (fun R f hf hR => ?_)
      · rw [Nat.zero_add]
        have e : (decide (i < k)) = true := by simpa using hi
        exact (congrArg (fun b => (rawL b 0 0).getD j .un) e).symm
      obtain rfl : f = e := hf.trans he.symm
      conv => whnf
      repeat (refine ⟨⟨[], rfl⟩, ?_⟩; conv => whnf)
      have hi0 : ∀ i j, i < k → rawsG (fun i => decide (i < k)) (fun _ => 0) (fun _ => 0) i j = ptsG (fun _ => .inf) i j := fun i j hi => by
        have e : (decide (i < k)) = true := by simpa using hi
        exact congrArg (fun b => (rawL b 0 0).getD j .un) e
      refine loop_wk mixed (I := fun q l m => ∃ (t c' : Nat), l = [(0, .int .i64 A), (1, .int .i64 B), (6, .sl 0 0 k k), (9, .int .i64 f), (11, .int .i64 f), (10, .ptr 1 0 0), (12, .sl 2 0 t c'), (13, .int .i64 t)] ∧ m = [some ⟨9, k, ptsG (fun _ => .inf)⟩, some ⟨9, 1, lstG 9 (rawL (isI R) (xN R) (yN R))⟩, some ⟨1, t, fun _ _ => .sl 0 0 2 k⟩] ∧ q + t = B) B
        (l0 := [(0, .int .i64 A), (1, .int .i64 B), (6, .sl 0 0 k k), (9, .int .i64 f), (11, .int .i64 f), (10, .ptr 1 0 0), (12, .sl 2 0 0 0), (13, .int .i64 (0 : Nat))]) (m0 := [some ⟨9, k, ptsG (fun _ => .inf)⟩, some ⟨9, 1, lstG 9 (rawL (isI R) (xN R) (yN R))⟩, some ⟨1, 0, fun _ _ => .sl 0 0 2 k⟩]) [some 1, some 3, none] ⟨0, 0, rfl, rfl, rfl⟩ ?_ ?_
      · exact .mk0 ⟨Flat.i rfl, Flat.i rfl, .sl _ _ _ _ _ rfl, Flat.i rfl, Flat.i rfl, .ptr _ _ _ _ rfl, .nils _ _, Flat.i rfl, trivial⟩ ⟨.old 0 1 _ _ rfl rfl ⟨rfl, Nat.le_refl _, fun i j hi hj => RV.of (hi0 i j hi) (by dsimp only; exact flat_ptsG)⟩, .old 1 3 _ _ rfl rfl ⟨rfl, Nat.le_refl _, fun i j hi hj => by
          have hi : i < 1 := hi
          obtain rfl : i = 0 := by omega
          exact .eq _ _ rfl (by dsimp only; unfold lstG; exact flat_rawG)⟩, .ph _ _ _ rfl, trivial⟩ rfl rfl
      · rintro q2 l m ⟨t, c', rfl, rfl, hq2⟩
        conv => whnf
        repeat (refine ⟨⟨[], rfl⟩, ?_⟩; conv => whnf)
        refine condB_mk (fun hb => ?_) (fun hb => ?_)
        · have hb : t < B := by simp at hb; omega
          conv => whnf
          repeat (refine ⟨⟨[], rfl⟩, ?_⟩; conv => whnf)
          refine condB_ok (by simp; omega) ?_
          conv => whnf
          repeat (refine ⟨⟨[], rfl⟩, ?_⟩; conv => whnf)
          refine condB_ok (app_ok (by simp) rfl rfl (by omega) (by omega)) (fun cap' hcap => ?_)
          conv => whnf
          repeat (refine ⟨⟨[], rfl⟩, ?_⟩; conv => whnf)
          have e5 : IntKind.i64.wrap ((t : Int) + 1) = ((t + 1 : Nat) : Int) := by rw [w64 (by omega) (by omega)]; omega
          refine ⟨q2 - 1, [(0, .int .i64 A), (1, .int .i64 B), (6, .sl 0 0 k k), (9, .int .i64 f), (11, .int .i64 f), (10, .ptr 1 0 0), (12, .sl 2 0 (t + 1) cap'), (13, .int .i64 ((t + 1 : Nat) : Int))], [some ⟨9, k, ptsG (fun _ => .inf)⟩, some ⟨9, 1, lstG 9 (rawL (isI R) (xN R) (yN R))⟩, some ⟨1, t + 1, fun _ _ => .sl 0 0 2 k⟩], [some 0, some 1, some 4], by omega, ⟨t + 1, cap', rfl, rfl, by omega⟩, ?_⟩
          refine .mk0 ⟨Flat.i rfl, Flat.i rfl, .sl _ _ _ _ _ rfl, Flat.i rfl, Flat.i rfl, .ptr _ _ _ _ rfl, .sl _ _ _ _ _ rfl, Flat.i e5, trivial⟩ ⟨.old 0 0 _ _ rfl rfl ⟨rfl, Nat.le_refl _, fun i j hi hj => RV.of rfl (by dsimp only; exact flat_ptsG)⟩, .old 1 1 _ _ rfl rfl ⟨rfl, Nat.le_refl _, fun i j hi hj => RV.of rfl (by dsimp only; unfold lstG; exact flat_rawG)⟩, .old 2 4 _ _ rfl rfl ⟨rfl, Nat.le_refl _, fun i j hi hj => ?_⟩, trivial⟩ rfl rfl
          have hi : i < t + 1 := hi
          have hj : j < 1 := hj
          obtain rfl : j = 0 := by omega
          dsimp only
          by_cases hit : i < t
          · rw [catG_lt hit]
            exact .sl _ _ _ _ _ rfl
          · obtain rfl : i = t := by omega
            rw [catG_ge (Nat.le_refl _), Nat.sub_self]
            exact .sl _ _ _ _ _ rfl
        · have hb : t = B := by simp at hb; omega
          subst hb
          conv => whnf
          repeat (refine ⟨⟨[], rfl⟩, ?_⟩; conv => whnf)
          have hrow : ∀ {cc : Nat}, ShowsR [some ⟨9, k, ptsG (fun _ => .inf)⟩, some ⟨9, 1, lstG 9 (rawL (isI R) (xN R) (yN R))⟩, some ⟨1, t, fun _ _ => .sl 0 0 2 k⟩] (.sl 2 0 t cc) t (fun _ => 2) (fun _ _ => true) (fun _ _ => 0) (fun _ _ => 0) := fun {cc} =>
            ShowsR.sl rfl (by omega) (fun i hi => ShowsG.sl rfl (by omega) (fun i j hi hj => ⟨rfl, flat_rawsG⟩))
          by_cases ht : t ≤ 8
          · refine S_Sum (r := t) (n := 2) (I := fun _ _ => true) (X := fun _ _ => 0) (Y := fun _ _ => 0) (P := fun _ _ => .inf) hrow ht (by decide) (fun _ _ _ _ => ⟨trivial, rfl⟩) (fun n' S cap5 hn' hS => ?_)
            obtain rfl : S = fun _ => .inf := hS.trans (funext fun _ => sumP_inf)
            conv => whnf
            repeat (refine ⟨⟨[], rfl⟩, ?_⟩; conv => whnf)
            refine condB_no (by simp; omega) ?_
            conv => whnf
            repeat (refine ⟨⟨[], rfl⟩, ?_⟩; conv => whnf)
            by_cases ht0 : t = 0
            · refine condB_no (by simp; omega) ?_
              conv => whnf
              repeat (refine ⟨⟨[], rfl⟩, ?_⟩; conv => whnf)
              refine condB_mk (fun h => ?_) (fun h => ?_)
              · obtain rfl : f = 4 := by rw [he, if_neg (by simp at h; omega)]
                conv => whnf
                repeat (refine ⟨⟨[], rfl⟩, ?_⟩; conv => whnf)
                refine S_wakes07 ?_
                conv => whnf
                repeat (refine ⟨⟨[], rfl⟩, ?_⟩; conv => whnf)
              · have hk64 : k ≤ 64 := by simp at h; omega
                obtain rfl : f = 0 := by rw [he, if_pos hk64]
                obtain rfl : R = .inf := (hR hk64).trans polyP_inf
                conv => whnf
                repeat (refine ⟨⟨[], rfl⟩, ?_⟩; conv => whnf)
                refine S_wakes07 ?_
                conv => whnf
                repeat (refine ⟨⟨[], rfl⟩, ?_⟩; conv => whnf)
            · obtain rfl : n' = 2 := by rw [hn', if_neg ht0]
              refine condB_yes (by simp; omega) ?_
              conv => whnf
              repeat (refine ⟨⟨[], rfl⟩, ?_⟩; conv => whnf)
              refine condB_mk (fun h => ?_) (fun h => ?_)
              · obtain rfl : f = 4 := by rw [he, if_neg (by simp at h; omega)]
                conv => whnf
                repeat (refine ⟨⟨[], rfl⟩, ?_⟩; conv => whnf)
                refine S_wakes07 ?_
                conv => whnf
                repeat (refine ⟨⟨[], rfl⟩, ?_⟩; conv => whnf)
              · have hk64 : k ≤ 64 := by simp at h; omega
                obtain rfl : f = 0 := by rw [he, if_pos hk64]
                obtain rfl : R = .inf := (hR hk64).trans polyP_inf
                conv => whnf
                repeat (refine ⟨⟨[], rfl⟩, ?_⟩; conv => whnf)
                refine S_wakes07 ?_
                conv => whnf
                repeat (refine ⟨⟨[], rfl⟩, ?_⟩; conv => whnf)
          · refine S_Sum_many (r := t) hrow (by omega) (fun S cap5 => ?_)
            conv => whnf
            repeat (refine ⟨⟨[], rfl⟩, ?_⟩; conv => whnf)
            refine condB_yes (by simp; omega) ?_
            conv => whnf
            repeat (refine ⟨⟨[], rfl⟩, ?_⟩; conv => whnf)
            refine condB_mk (fun h => ?_) (fun h => ?_)
            · obtain rfl : f = 4 := by rw [he, if_neg (by simp at h; omega)]
              conv => whnf
              repeat (refine ⟨⟨[], rfl⟩, ?_⟩; conv => whnf)
              refine S_wakes07 ?_
              conv => whnf
              repeat (refine ⟨⟨[], rfl⟩, ?_⟩; conv => whnf)
            · have hk64 : k ≤ 64 := by simp at h; omega
              obtain rfl : f = 0 := by rw [he, if_pos hk64]
              obtain rfl : R = .inf := (hR hk64).trans polyP_inf
              conv => whnf
              repeat (refine ⟨⟨[], rfl⟩, ?_⟩; conv => whnf)
              refine S_wakes07 ?_
              conv => whnf
              repeat (refine ⟨⟨[], rfl⟩, ?_⟩; conv => whnf)

theorem cat_nums {c : Nat → Nat} {k : Nat} {g : Nat → Nat → AV} {i j : Nat} (hi : i < k + 1) (hg : i = k → g 0 j = numsG c k j) : catG k (numsG c) g i j = numsG c i j := by
  by_cases h : i < k
  · rw [catG_lt h]
  · obtain rfl : i = k := by omega
    rw [catG_ge (Nat.le_refl _), Nat.sub_self, hg rfl]
def ch3 {α : Type} (a b c : α) (i : Nat) : α := if i = 0 then a else if i = 1 then b else c
theorem bad51 : Bad false 5 1 := by
  intro P oP e
  obtain ⟨h1, h2, h3⟩ := rawA_inj (by decide) (by decide) (xN_w P) (yN_w P) e
  cases P with
  | inf => exact absurd h1 (by decide)
  | aff x y =>
    have hx : x = 5 := Fin.ext h2.symm
    have hy : y = 1 := Fin.ext h3.symm
    subst hx hy
    exact absurd (show (1 : Fp) * 1 = 5 * 5 * 5 + 7 from oP) (by decide)
theorem updP {n t i j : Nat} {I : Nat → Bool} {X Y : Nat → Nat} {b : Bool} {x y : Nat} (hj : j < 9) : updG ⟨9, n, rawsG I X Y⟩ t 0 9 (rawL b x y) i j = rawsG (fun i => if i = t then b else I i) (fun i => if i = t then x else X i) (fun i => if i = t then y else Y i) i j := by
  unfold updG
  rw [show Nat.ble (0 + 9) (Blk.mk 9 n (rawsG I X Y)).es = true from rfl]
  simp only [cond_true, pickA_eq, Nat.sub_zero, Nat.zero_add]
  rw [show Nat.ble 0 j = true by simp, blt_true hj]
  unfold rawsG
  by_cases h : i = t
  · subst h
    simp
  · have e : (i == t) = false := by simpa using h
    simp [e, h]
def smN (a b c : Nat → Nat) (i : Nat) : Nat := ((a i + b i) % nN + c i) % nN
theorem smN_lt {a b c : Nat → Nat} {i : Nat} : smN a b c i < w256 := Nat.lt_trans (Nat.mod_lt _ (by decide)) (by decide)
theorem S_FeldSums (n c1 n2 c2 n3 c3 : Nat) (a b c : Nat → Nat) (cut : Bool) (ha : ∀ i, i < n → a i < w256) (hb : ∀ i, i < n2 → b i < w256) (hc : ∀ i, i < n3 → c i < w256) (h1 : n ≤ c1) (h2 : n2 ≤ c2) (h3 : n3 ≤ c3) :
    ACall Pg F_witanlaw07_FeldSums [.vsl 4 n c1 (numsG a), .vsl 4 n2 c2 (numsG b), .vsl 4 n3 c3 (numsG c), .bool cut] [] (fun r _ => r = .bool true) := by
  refine B_witanlaw07_FeldSums ⟨rfl, ?_⟩
  conv => whnf
  repeat (refine ⟨⟨[], rfl⟩, ?_⟩; conv => whnf)
  refine condB_mk (fun h => ?_) (fun h => ?_)
  rotate_left
  · conv => whnf
    repeat (refine ⟨⟨[], rfl⟩, ?_⟩; conv => whnf)
  have h5 : n ≤ 5 := by simp at h; omega
  clear h
  conv => whnf
  repeat (refine ⟨⟨[], rfl⟩, ?_⟩; conv => whnf)
  refine condB_mk (fun h => ?_) (fun h => ?_)
  rotate_left
  · conv => whnf
    repeat (refine ⟨⟨[], rfl⟩, ?_⟩; conv => whnf)
  have l2 : n ≤ n2 := by simp at h; omega
  clear h
  conv => whnf
  repeat (refine ⟨⟨[], rfl⟩, ?_⟩; conv => whnf)
  refine condB_mk (fun h => ?_) (fun h => ?_)
  rotate_left
  · conv => whnf
    repeat (refine ⟨⟨[], rfl⟩, ?_⟩; conv => whnf)
  have l3 : n ≤ n3 := by simp at h; omega
  clear h
  conv => whnf
  repeat (refine ⟨⟨[], rfl⟩, ?_⟩; conv => whnf)
  refine condB_mk (fun h => ?_) (fun h => ?_)
  rotate_left
  · conv => whnf
    repeat (refine ⟨⟨[], rfl⟩, ?_⟩; conv => whnf)
  clear h
  conv => whnf
  repeat (refine ⟨⟨[], rfl⟩, ?_⟩; conv => whnf)
  refine condB_mk (fun h => ?_) (fun h => ?_)
  · conv => whnf
    repeat (refine ⟨⟨[], rfl⟩, ?_⟩; conv => whnf)
  clear h
  conv => whnf
  repeat (refine ⟨⟨[], rfl⟩, ?_⟩; conv => whnf)
  refine condB_ok (by simp; omega) ?_
  conv => whnf
  repeat (refine ⟨⟨[], rfl⟩, ?_⟩; conv => whnf)
  refine condB_ok (by simp; omega) ?_
  conv => whnf
  repeat (refine ⟨⟨[], rfl⟩, ?_⟩; conv => whnf)
  refine loop_wk mixed (I := fun q l m => ∃ (k c' : Nat), l = [(0, .vsl 4 n c1 (numsG a)), (1, .vsl 4 n c2 (numsG b)), (2, .vsl 4 n c3 (numsG c)), (3, .bool cut), (9, .int .i64 n), (10, .sl 0 0 k c'), (11, .int .i64 k)] ∧ m = [some ⟨4, k, numsG (smN a b c)⟩] ∧ q + k = n) n
    (l0 := [(0, .vsl 4 n c1 (numsG a)), (1, .vsl 4 n c2 (numsG b)), (2, .vsl 4 n c3 (numsG c)), (3, .bool cut), (9, .int .i64 n), (10, .sl 0 0 0 0), (11, .int .i64 (0 : Nat))]) (m0 := [some ⟨4, 0, numsG (smN a b c)⟩]) [none] ⟨0, 0, rfl, rfl, rfl⟩ ?_ ?_
  · exact .mk0 ⟨.eq _ _ rfl (.vsl _ _ _ _ rfl (fun _ _ _ _ => flat_numsG)), .eq _ _ rfl (.vsl _ _ _ _ rfl (fun _ _ _ _ => flat_numsG)), .eq _ _ rfl (.vsl _ _ _ _ rfl (fun _ _ _ _ => flat_numsG)), Flat.b rfl, Flat.i rfl, .nils _ _, Flat.i rfl, trivial⟩ ⟨.ph _ _ _ rfl, trivial⟩ rfl rfl
  · rintro q l m ⟨k, c', rfl, rfl, hq⟩
    conv => whnf
    repeat (refine ⟨⟨[], rfl⟩, ?_⟩; conv => whnf)
    refine condB_mk (fun hb1 => ?_) (fun hb1 => ?_)
    · have hk : k < n := by simp at hb1; omega
      conv => whnf
      repeat (refine ⟨⟨[], rfl⟩, ?_⟩; conv => whnf)
      refine condB_ok (by simp; omega) ?_
      conv => whnf
      repeat (refine ⟨⟨[], rfl⟩, ?_⟩; conv => whnf)
      refine condB_ok (by simp; omega) ?_
      conv => whnf
      repeat (refine ⟨⟨[], rfl⟩, ?_⟩; conv => whnf)
      refine condB_ok (by simp; omega) ?_
      conv => whnf
      repeat (refine ⟨⟨[], rfl⟩, ?_⟩; conv => whnf)
      refine S_FAdd_1 (ha k hk) (hb k (by omega)) (fun x hx => ?_)
      have hx1 : x < w256 := by rw [hx]; exact Nat.lt_trans (Nat.mod_lt _ (by decide)) (by decide)
      conv => whnf
      repeat (refine ⟨⟨[], rfl⟩, ?_⟩; conv => whnf)
      refine S_FAdd_1 hx1 (hc k (by omega)) (fun y hy => ?_)
      have hy1 : y = smN a b c k := by rw [hy, hx]; rfl
      conv => whnf
      repeat (refine ⟨⟨[], rfl⟩, ?_⟩; conv => whnf)
      refine condB_ok (app_ok (by simp) rfl rfl (by omega) (by omega)) (fun cap' hcap => ?_)
      conv => whnf
      repeat (refine ⟨⟨[], rfl⟩, ?_⟩; conv => whnf)
      have e5 : IntKind.i64.wrap ((k : Int) + 1) = ((k + 1 : Nat) : Int) := by rw [w64 (by omega) (by omega)]; omega
      refine ⟨q - 1, [(0, .vsl 4 n c1 (numsG a)), (1, .vsl 4 n c2 (numsG b)), (2, .vsl 4 n c3 (numsG c)), (3, .bool cut), (9, .int .i64 n), (10, .sl 0 0 (k + 1) cap'), (11, .int .i64 ((k + 1 : Nat) : Int))], [some ⟨4, k + 1, numsG (smN a b c)⟩], [some 2], by omega, ⟨k + 1, cap', rfl, rfl, by omega⟩, ?_⟩
      refine .mk0 ⟨.eq _ _ rfl (.vsl _ _ _ _ rfl (fun _ _ _ _ => flat_numsG)), .eq _ _ rfl (.vsl _ _ _ _ rfl (fun _ _ _ _ => flat_numsG)), .eq _ _ rfl (.vsl _ _ _ _ rfl (fun _ _ _ _ => flat_numsG)), Flat.b rfl, Flat.i rfl, .sl _ _ _ _ _ rfl, Flat.i e5, trivial⟩ ⟨.old 0 2 _ _ rfl rfl ⟨rfl, Nat.le_refl _, fun i j hi hj => ?_⟩, trivial⟩ rfl rfl
      refine RV.of ?_ (by dsimp only; exact flat_numsG)
      dsimp only
      refine cat_nums (c := smN a b c) hi (fun _ => ?_)
      have hj4 : j = 0 ∨ j = 1 ∨ j = 2 ∨ j = 3 := by
        have hj : j < 4 := hj
        omega
      refine Eq.trans ?_ (congrArg (fun z => (numL z).getD j .un) hy1)
      rcases hj4 with rfl | rfl | rfl | rfl <;> rfl
    · have hk : k = n := by simp at hb1; omega
      subst hk
      clear hb1 hq
      conv => whnf
      repeat (refine ⟨⟨[], rfl⟩, ?_⟩; conv => whnf)
      refine S_Commit (n := k) (c := a) (ShowsG.vsl fun _ _ _ _ => flat_numsG) ha (fun _ P cap3 hP => ?_) (fun h => by omega)
      conv => whnf
      repeat (refine ⟨⟨[], rfl⟩, ?_⟩; conv => whnf)
      refine S_Commit (n := k) (c := b) (ShowsG.vsl fun _ _ _ _ => flat_numsG) (fun i hi => hb i (by omega)) (fun _ Q cap4 hQ => ?_) (fun h => by omega)
      conv => whnf
      repeat (refine ⟨⟨[], rfl⟩, ?_⟩; conv => whnf)
      refine S_Commit (n := k) (c := c) (ShowsG.vsl fun _ _ _ _ => flat_numsG) (fun i hi => hc i (by omega)) (fun _ R cap5 hR => ?_) (fun h => by omega)
      conv => whnf
      repeat (refine ⟨⟨[], rfl⟩, ?_⟩; conv => whnf)
      refine S_Commit (n := k) (c := smN a b c) (ShowsG.own rfl (Nat.le_refl _) fun _ _ => flat_numsG) (fun i hi => smN_lt) (fun _ W cap6 hW => ?_) (fun h => by omega)
      have oP : ∀ i, On (P i) := fun i => by rw [hP]; exact on_G.nmul crvP _
      have oQ : ∀ i, On (Q i) := fun i => by rw [hQ]; exact on_G.nmul crvP _
      have oR : ∀ i, On (R i) := fun i => by rw [hR]; exact on_G.nmul crvP _
      have eW : W = fun i => padd (padd (padd .inf (P i)) (Q i)) (R i) := by
        rw [hW, hP, hQ, hR]
        funext i
        rw [inf_padd, ← nmul_add crvP on_G, ← nmul_add crvP on_G, smN, nmul_mod, ← nmul_mod, Nat.mod_add_mod, nmul_mod]
      clear hP hQ hR hW
      conv => whnf
      repeat (refine ⟨⟨[], rfl⟩, ?_⟩; conv => whnf)
      refine condB_yes (by simp) ?_
      conv => whnf
      repeat (refine ⟨⟨[], rfl⟩, ?_⟩; conv => whnf)
      refine condB_yes (by simp) ?_
      conv => whnf
      repeat (refine ⟨⟨[], rfl⟩, ?_⟩; conv => whnf)
      refine condB_yes (by simp) ?_
      conv => whnf
      repeat (refine ⟨⟨[], rfl⟩, ?_⟩; conv => whnf)
      refine condB_no (by simp) ?_
      conv => whnf
      repeat (refine ⟨⟨[], rfl⟩, ?_⟩; conv => whnf)
      refine S_TwinPoints (I := fun i => isI (P i)) (X := fun i => xN (P i)) (Y := fun i => yN (P i)) (ShowsG.own rfl (Nat.le_refl _) fun _ _ => flat_rawsG) (by omega) (fun cap7 => ?_)
      conv => whnf
      repeat (refine ⟨⟨[], rfl⟩, ?_⟩; conv => whnf)
      refine S_Sum (r := 3) (n := k) (I := fun i t => isI (ch3 P Q R i t)) (X := fun i t => xN (ch3 P Q R i t)) (Y := fun i t => yN (ch3 P Q R i t)) (P := ch3 P Q R) (ShowsR.sl rfl (by decide) (fun i hi => ?_)) (by decide) (by omega) (fun r i hr hi => ?_) (fun n' S cap8 hn' hS => ?_)
      · have : i = 0 ∨ i = 1 ∨ i = 2 := by omega
        rcases this with rfl | rfl | rfl
        · exact ShowsG.own rfl (Nat.le_refl _) fun _ _ => flat_rawsG
        · exact ShowsG.own rfl (Nat.le_refl _) fun _ _ => flat_ptsG
        · exact ShowsG.own rfl (Nat.le_refl _) fun _ _ => flat_ptsG
      · have : r = 0 ∨ r = 1 ∨ r = 2 := by omega
        rcases this with rfl | rfl | rfl
        · exact ⟨oP i, rfl⟩
        · exact ⟨oQ i, rfl⟩
        · exact ⟨oR i, rfl⟩
      obtain rfl : n' = k := by rw [hn', if_neg (by decide)]
      obtain rfl : S = W := by rw [hS, eW]; rfl
      clear hS hn' eW
      conv => whnf
      repeat (refine ⟨⟨[], rfl⟩, ?_⟩; conv => whnf)
      refine S_kPts (P := S) (ShowsG.own rfl (Nat.le_refl _) fun _ _ => flat_ptsG) (ShowsG.own rfl (Nat.le_refl _) fun _ _ => flat_ptsG) (by omega) ?_
      conv => whnf
      repeat (refine ⟨⟨[], rfl⟩, ?_⟩; conv => whnf)
      refine S_kPts (P := P) (ShowsG.own rfl (Nat.le_refl _) fun _ _ => flat_ptsG) (ShowsG.own rfl (Nat.le_refl _) fun _ _ => flat_ptsG) (by omega) ?_
      conv => whnf
      repeat (refine ⟨⟨[], rfl⟩, ?_⟩; conv => whnf)
      refine S_Sum (r := 0) (n := 0) (I := fun _ _ => false) (X := fun _ _ => 0) (Y := fun _ _ => 0) (P := fun _ _ => .inf) ShowsR.nils (by decide) (by decide) (fun r i hr hi => absurd hr (by omega)) (fun n2' S2 cap9 hn2' hS2 => ?_)
      obtain rfl : n2' = 0 := hn2'
      clear hS2
      conv => whnf
      repeat (refine ⟨⟨[], rfl⟩, ?_⟩; conv => whnf)
      refine condB_mk (fun h => ?_) (fun h => ?_)
      · conv => whnf
        repeat (refine ⟨⟨[], rfl⟩, ?_⟩; conv => whnf)
        refine S_wakes07 ?_
        conv => whnf
        repeat (refine ⟨⟨[], rfl⟩, ?_⟩; conv => whnf)
      have hk0 : 0 < n' := by simp at h; omega
      clear h
      conv => whnf
      repeat (refine ⟨⟨[], rfl⟩, ?_⟩; conv => whnf)
      refine condB_mk (fun h => ?_) (fun h => ?_)
      · conv => whnf
        repeat (refine ⟨⟨[], rfl⟩, ?_⟩; conv => whnf)
        have e10 : IntKind.i64.wrap ((n' : Int) - 1) = ((n' - 1 : Nat) : Int) := by rw [w64 (by omega) (by omega)]; omega
        refine condB_ok (by rw [e10]; simp) ?_
        conv => whnf
        repeat (refine ⟨⟨[], rfl⟩, ?_⟩; conv => whnf)
        have g1 : ch3 n' (n' - 1) n' 0 ≤ 64 := by show n' ≤ 64; omega
        have g2 : ∀ k, k < 1 → ch3 n' (n' - 1) n' k = ch3 n' (n' - 1) n' 0 := fun k hk => by
          obtain rfl : k = 0 := by omega
          rfl
        have g3 : ch3 n' (n' - 1) n' 1 ≠ ch3 n' (n' - 1) n' 0 := by show n' - 1 ≠ n'; omega
        refine S_Sum_len (r := 3) (b := 1) (N := ch3 n' (n' - 1) n') (I := fun i t => isI (ch3 P Q R i t)) (X := fun i t => xN (ch3 P Q R i t)) (Y := fun i t => yN (ch3 P Q R i t)) (ShowsR.sl rfl (Nat.le_refl 3) (fun i hi => ?_)) (by decide) (by decide) g1 g2 g3 (fun S3 cap10 => ?_)
        · have : i = 0 ∨ i = 1 ∨ i = 2 := by omega
          rcases this with rfl | rfl | rfl
          · exact ShowsG.own rfl (Nat.le_refl _) fun _ _ => flat_rawsG
          · show ShowsG _ (.sl 2 0 ((IntKind.i64.wrap ((n' : Int) - 1)).toNat - 0) (cap4 - 0)) 9 (n' - 1) _
            rw [e10]
            exact ShowsG.own rfl (by show n' - 1 - 0 ≤ n'; omega) fun _ _ => flat_ptsG
          · exact ShowsG.own rfl (Nat.le_refl _) fun _ _ => flat_ptsG
        conv => whnf
        repeat (refine ⟨⟨[], rfl⟩, ?_⟩; conv => whnf)
        refine S_Check_bad (i := false) (x := 5) (y := 1) (by decide) (by decide) bad51 ?_
        conv => whnf
        repeat (refine ⟨⟨[], rfl⟩, ?_⟩; conv => whnf)
        refine S_wakes07 ?_
        conv => whnf
        repeat (refine ⟨⟨[], rfl⟩, ?_⟩; conv => whnf)
      · conv => whnf
        repeat (refine ⟨⟨[], rfl⟩, ?_⟩; conv => whnf)
        refine S_TwinPoints (I := fun i => isI (Q i)) (X := fun i => xN (Q i)) (Y := fun i => yN (Q i)) (ShowsG.own rfl (Nat.le_refl _) fun _ _ => flat_rawsG) (by omega) (fun cap10 => ?_)
        conv => whnf
        repeat (refine ⟨⟨[], rfl⟩, ?_⟩; conv => whnf)
        have e10 : IntKind.i64.wrap ((n' : Int) - 1) = ((n' - 1 : Nat) : Int) := by rw [w64 (by omega) (by omega)]; omega
        refine condB_ok (by rw [e10]; simp; omega) ?_
        conv => whnf
        repeat (refine ⟨⟨[], rfl⟩, ?_⟩; conv => whnf)
        refine condB_ok (by rw [e10]; simp [roomG, Nat.ble_eq]; omega) ?_
        conv => whnf
        repeat (refine ⟨⟨[], rfl⟩, ?_⟩; conv => whnf)
        refine S_Sum_bad (r := 3) (b := 1) (n := n') (t := n' - 1) (I := ch3 (fun t => isI (P t)) (fun t => if t = 0 + (IntKind.i64.wrap ((n' : Int) - 1)).toNat then false else isI (Q t)) (fun t => isI (R t))) (X := ch3 (fun t => xN (P t)) (fun t => if t = 0 + (IntKind.i64.wrap ((n' : Int) - 1)).toNat then 5 else xN (Q t)) (fun t => xN (R t))) (Y := ch3 (fun t => yN (P t)) (fun t => if t = 0 + (IntKind.i64.wrap ((n' : Int) - 1)).toNat then 1 else yN (Q t)) (fun t => yN (R t))) (P := ch3 P Q R) (ShowsR.sl rfl (Nat.le_refl 3) (fun i hi => ?_)) (by decide) (by omega) (by decide) (fun r i hr hi => ?_) (fun i hi => ?_) (fun i hi => ?_) (by omega) ?_ (fun i hi => ?_) (fun S3 cap11 => ?_)
        · have : i = 0 ∨ i = 1 ∨ i = 2 := by omega
          rcases this with rfl | rfl | rfl
          · exact ShowsG.own rfl (Nat.le_refl _) fun _ _ => flat_rawsG
          · refine ShowsG.sl rfl (Nat.le_of_eq (Nat.zero_add _)) (fun i j hi hj => ⟨?_, flat_rawsG⟩)
            have e0 : 0 + i = i := Nat.zero_add i
            rw [e0]
            exact (updP (n := n') (t := 0 + (IntKind.i64.wrap ((n' : Int) - 1)).toNat) (I := fun i => isI (Q i)) (X := fun i => xN (Q i)) (Y := fun i => yN (Q i)) (b := false) (x := 5) (y := 1) hj).symm
          · exact ShowsG.own rfl (Nat.le_refl _) fun _ _ => flat_ptsG
        · obtain rfl : r = 0 := by omega
          exact ⟨oP i, rfl⟩
        · show (if i = _ then 5 else xN (Q i)) < w256
          split
          · decide
          · exact xN_w _
        · show (if i = _ then 1 else yN (Q i)) < w256
          split
          · decide
          · exact yN_w _
        · have e : n' - 1 = 0 + (IntKind.i64.wrap ((n' : Int) - 1)).toNat := by rw [e10]; simp
          show Bad (if n' - 1 = _ then false else _) (if n' - 1 = _ then 5 else _) (if n' - 1 = _ then 1 else _)
          rw [if_pos e, if_pos e, if_pos e]
          exact bad51
        · have e : ¬ i = 0 + (IntKind.i64.wrap ((n' : Int) - 1)).toNat := by rw [e10]; simp; omega
          refine ⟨Q i, oQ i, ?_⟩
          show rawA (if i = _ then false else isI (Q i)) (if i = _ then 5 else xN (Q i)) (if i = _ then 1 else yN (Q i)) = ptA (Q i)
          rw [if_neg e, if_neg e, if_neg e]
          rfl
        conv => whnf
        repeat (refine ⟨⟨[], rfl⟩, ?_⟩; conv => whnf)
        refine S_Check_bad (i := false) (x := 5) (y := 1) (by decide) (by decide) bad51 ?_
        conv => whnf
        repeat (refine ⟨⟨[], rfl⟩, ?_⟩; conv => whnf)
        refine S_wakes07 ?_
        conv => whnf
        repeat (refine ⟨⟨[], rfl⟩, ?_⟩; conv => whnf)
theorem S_row_FeldSums (avs : List AV) (h : okVs [.sl 4 tNum, .sl 4 tNum, .sl 4 tNum, .bool] avs) : ∃ avs', Retold avs avs' ∧ ACall Pg F_witanlaw07_FeldSums avs' [] (fun x _ => x = .bool true) := by
  obtain ⟨p, _, rfl, h1, q, _, rfl, h2, a, _, rfl, h3, b, _, rfl, h4, rfl⟩ := h
  obtain ⟨n, c1, c, r1, l1, _, hc⟩ := ok_nums h1
  obtain ⟨n2, c2, d, r2, l2, _, hd⟩ := ok_nums h2
  obtain ⟨n3, c3, e, r3, l3, _, he⟩ := ok_nums h3
  obtain ⟨x, rfl⟩ := ok_bool h4
  exact ⟨_, .cons r1 (.cons r2 (.cons r3 (.cons (Retold1.refl _) .nil))), S_FeldSums n c1 n2 c2 n3 c3 c d e x hc hd he l1 l2 l3⟩
theorem S_row_FeldRows (avs : List AV) (h : okVs [.sl 4 tNum, .sl 4 tNum, tNum] avs) : ∃ avs', Retold avs avs' ∧ ACall Pg F_witanlaw07_FeldRows avs' [] (fun x _ => x = .bool true) := by
  obtain ⟨p, _, rfl, h1, q, _, rfl, h2, a, _, rfl, h3, rfl⟩ := h
  obtain ⟨n, c1, c, r1, l1, _, hc⟩ := ok_nums h1
  obtain ⟨n2, c2, d, r2, l2, _, hd⟩ := ok_nums h2
  obtain ⟨x, hx, rfl⟩ := ok_num h3
  exact ⟨_, .cons r1 (.cons r2 (.cons (Retold1.refl _) .nil)), S_FeldRows n c1 n2 c2 c d x hc hd l1 l2 hx⟩
theorem S_row_FeldLong (avs : List AV) (h : okVs [.int .i64, .int .i64] avs) : ∃ avs', Retold avs avs' ∧ ACall Pg F_witanlaw07_FeldLong avs' [] (fun x _ => x = .bool true) := by
  obtain ⟨p, _, rfl, h1, q, _, rfl, h2, rfl⟩ := h
  obtain ⟨x, rfl, _, _⟩ := ok_int h1
  obtain ⟨y, rfl, _, _⟩ := ok_int h2
  exact ⟨_, .cons (Retold1.refl _) (.cons (Retold1.refl _) .nil), S_FeldLong x y⟩
end Go.Proofs.Ytmngdaeogbjpiaa
end

section
/- The law FeldLong answers true for all that it may be handed: its row; no condition. -/
namespace Go.Proofs.Ytmngdaeogbjpiaa.feldLong
open Go.ChangeShapes Go.WideShapes Go.ChangeAt Go.RowKit Go.Wit
set_option linter.unusedVariables false
theorem own : ownKnob Try.prog.godebug = none := by kernel_rfl
theorem laid : laidOutB Try.prog = true := by kernel_rfl
set_option maxRecDepth 100000 in
theorem lifted (os : Os) (started : os.Started) (H : Type) (enc : TypeId × Value → H) :
    ReturnsInHanded {} Try.checked os 18 .any (Rows.feldLongSpec.pre6 enc Try.prog Try.f18 Rows.feldLongRow.domain false) (Rows.feldLongSpec.post enc Try.prog Try.f18 false true false false) := by
  refine returnsInHanded_of_change_sized (C := Try.checked) own started (by kernel_rfl) Try.func18
    (ChangeSpec.witness6 (enc := enc) (C := Try.checked) false ⟨#[], #[.int .i64 0, .int .i64 0], []⟩ 12 (by kernel_rfl) (by kernel_rfl) (by kernel_rfl) (by kernel_rfl)) ?_
  intro W base args ds gs before hval0 hW hcnd hsz0 _
  have hval : ∀ (j : Nat) t v, Try.f18.params[j]? = some t → args[j]? = some v → Value.okWide Try.prog W .any base t v := hval0
  have hW' := hW
  obtain ⟨p, q, hA0, hV, rfl, hfz, hnd⟩ := hW
  have hA : DataW.TrodAll enc Try.prog W 0 (fun _ => true) true Try.f18.params.toList args.toList ds p := hA0
  obtain ⟨rfl, rfl⟩ := trodVars_none hV
  have l0 : ds.length = 2 := trod_len hA
  obtain ⟨d1, ds1, rfl, l1⟩ := cons_of_len l0
  obtain ⟨d2, ds2, rfl, l2⟩ := cons_of_len l1
  obtain rfl := nil_of_len l2
  refine (law_open (tys := [.int .i64, .int .i64]) (by kernel_rfl) (fun j t v h1 h2 => hval j t v (by simpa using h1) (by simpa using h2)) hA S_row_FeldLong).mono fun e W' ⟨he, bel⟩ => ?_
  subst he
  exact ⟨_, rfl, _, _, _, [], _, [], hW', trodAll_mk1 (shut_bool Try.underlying4 _), shut_vals laid bel (by kernel_rfl) hA, rfl, bel.frame _, fun h => by cases h⟩
theorem over : Rows.feldLongRow.holds Try.pinned (OpenSpec.ofChange Rows.feldLongSpec) :=
  OpenClaim.holds_of_wide 18 Try.f18 rfl rfl rfl rfl rfl rfl rfl ⟨rfl, rfl, rfl, rfl, rfl⟩ rfl rfl rfl rfl rfl (by kernel_rfl) Try.func18 (by kernel_rfl)
    (of_decide_eq_true (by kernel_rfl)) (by unfold Func.isWrapper; first | (rw [if_pos (by decide +kernel)]; kernel_rfl) | (rw [if_neg (by decide +kernel)]; exact ⟨rfl, rfl⟩))
    (fun os started H enc _ => lifted os started H enc)
theorem proved : Rows.FeldLongSaid := over
#print axioms proved
end Go.Proofs.Ytmngdaeogbjpiaa.feldLong
namespace Go.Proofs.Ytmngdaeogbjpiaa
/-- The row, under a short name, for the claim. -/
theorem feldLong_holds : Rows.FeldLongSaid := feldLong.proved
end Go.Proofs.Ytmngdaeogbjpiaa
end

