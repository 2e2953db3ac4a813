/- The law BinBack: what was put, one behind the other, is got so; no condition. -/
import Derived.Test.YtdobchoiiihfiaaD11
set_option linter.unusedVariables false
set_option linter.unusedSimpArgs false
set_option maxRecDepth 100000
set_option pp.maxSteps 300
namespace Go.Proofs.Ytdobchoiiihfiaa
open Go Go.Wit

/-- The bytes of a number's and a part's turn. -/
def encA (s cn : Nat) (V : Nat → Nat) (i : Nat) (p : Nat × (Nat → Int)) : Nat × (Nat → Int) := if i < cn then (p.1 + s, putB p.1 p.2 (V i) s) else p
def encB (cp : Nat) (N : Nat → Nat) (F : Nat → Nat → Int) (i : Nat) (p : Nat × (Nat → Int)) : Nat × (Nat → Int) := if i < cp then (p.1 + 4 + N i, catB (p.1 + 4) (putB p.1 p.2 (N i) 4) (F i)) else p
def encP (s cn cp : Nat) (V : Nat → Nat) (N : Nat → Nat) (F : Nat → Nat → Int) : Nat → Nat × (Nat → Int)
  | 0 => (0, fun _ => 0)
  | i + 1 => encB cp N F i (encA s cn V i (encP s cn cp V N F i))

/-- One row of bytes goes on with another. -/
def Goes (p q : Nat × (Nat → Int)) : Prop := p.1 ≤ q.1 ∧ ∀ j, j < p.1 → q.2 j = p.2 j
theorem Goes.refl (p) : Goes p p := ⟨Nat.le_refl _, fun _ _ => rfl⟩
theorem Goes.trans {p q r} (h : Goes p q) (k : Goes q r) : Goes p r := ⟨Nat.le_trans h.1 k.1, fun j hj => (k.2 j (Nat.lt_of_lt_of_le hj h.1)).trans (h.2 j hj)⟩
theorem goesA {s cn V i p} : Goes p (encA s cn V i p) := by
  unfold encA
  split
  · exact ⟨Nat.le_add_right _ _, fun j hj => by simp [putB, hj]⟩
  · exact .refl _
theorem goesB {cp N F i p} : Goes p (encB cp N F i p) := by
  unfold encB
  split
  · refine ⟨by simp; omega, fun j hj => ?_⟩
    simp [catB, putB, hj, show j < p.1 + 4 by omega]
  · exact .refl _
theorem goesP {s cn cp V N F} : ∀ {d i : Nat}, Goes (encP s cn cp V N F i) (encP s cn cp V N F (i + d))
  | 0, i => .refl _
  | d + 1, i => (goesP (d := d)).trans (goesA.trans goesB)

theorem encP_len {s cn cp V N F} (hs : s ≤ 7) : ∀ {i : Nat}, (∀ j, j < i → j < cp → N j ≤ 2000) → (encP s cn cp V N F i).1 ≤ i * 2011
  | 0, _ => by simp [encP]
  | i + 1, hN => by
    have h := encP_len (V := V) (F := F) (cn := cn) hs (i := i) (fun j h1 h2 => hN j (by omega) h2)
    simp only [encP, encB, encA]
    generalize encP s cn cp V N F i = p at *
    split
    · rename_i h1
      have := hN i (by omega) h1
      split <;> (try simp only) <;> omega
    · split <;> (try simp only) <;> omega

theorem encP_byte {s cn cp : Nat} {V N : Nat → Nat} {F : Nat → Nat → Int} (hF : ∀ i, i < cp → ∀ j, j < N i → 0 ≤ F i j ∧ F i j ≤ 255) : ∀ {i j : Nat}, j < (encP s cn cp V N F i).1 → 0 ≤ (encP s cn cp V N F i).2 j ∧ (encP s cn cp V N F i).2 j ≤ 255
  | 0, j, h => by simp [encP] at h
  | i + 1, j, h => by
    have ih := fun j => encP_byte (s := s) (cn := cn) (V := V) hF (i := i) (j := j)
    simp only [encP] at h ⊢
    generalize encP s cn cp V N F i = p at *
    have hA : ∀ j, j < (encA s cn V i p).1 → 0 ≤ (encA s cn V i p).2 j ∧ (encA s cn V i p).2 j ≤ 255 := by
      intro j hj
      unfold encA at hj ⊢
      split
      · rename_i h1
        rw [if_pos h1] at hj
        simp only at hj ⊢
        unfold putB
        split
        · rename_i h2; exact ih j h2
        · omega
      · rename_i h1
        rw [if_neg h1] at hj
        exact ih j hj
    generalize encA s cn V i p = q at *
    unfold encB at h ⊢
    split
    · rename_i h1
      rw [if_pos h1] at h
      simp only at h ⊢
      unfold catB putB
      split
      · split
        · rename_i h2; exact hA j h2
        · omega
      · exact hF i h1 _ (by omega)
    · rename_i h1
      rw [if_neg h1] at h
      exact hA j h

theorem putB_congr {n : Nat} {f g : Nat → Int} {v s : Int} {j : Nat} (h : ∀ j, j < n → f j = g j) : putB n f v s j = putB n g v s j := by
  unfold putB
  split
  · rename_i h1; exact h j h1
  · rfl
theorem catB_congr {n : Nat} {f g h : Nat → Int} {j : Nat} (hf : ∀ j, j < n → f j = g j) : catB n f h j = catB n g h j := by
  unfold catB
  split
  · rename_i h1; exact hf j h1
  · rfl

theorem encP_end {s cn cp V N F} : ∀ {d i : Nat}, ¬ i < cn → ¬ i < cp → encP s cn cp V N F (i + d) = encP s cn cp V N F i
  | 0, i, _, _ => rfl
  | d + 1, i, h1, h2 => by
    show encB cp N F (i + d) (encA s cn V (i + d) (encP s cn cp V N F (i + d))) = _
    rw [encB, if_neg (by omega), encA, if_neg (by omega), encP_end h1 h2]

theorem getR_good {n P : Nat} {f : Nat → Int} {s v : Nat} (hs : 1 ≤ s ∧ s ≤ 7) (hn : P + s ≤ n) (hv : getV f P s = v) : getR n f (P : Int) (s : Int) = .tup [.int .i64 v, .int .i64 ((P : Int) + s), .int .i64 0] := by
  have : getE n P s = 0 := by
    unfold getE
    rw [if_pos (by simp; omega), if_neg (by omega)]
  rw [getR, if_pos this, Int.toNat_natCast, Int.toNat_natCast, hv]

theorem part_good {Q n M : Nat} {f g h : Nat → Int} (hn : n ≤ 2000) (hM : Q + 4 + n ≤ M) (hf : ∀ j, j < Q + 4 + n → f j = catB (Q + 4) (putB Q g (n : Nat) 4) h j) :
    partV f (Q : Int) = n ∧ partOk M f (Q : Int) = true ∧ ∀ i, i < n → f (i + ((Q : Int).toNat + 4)) = h i := by
  have hv : partV f (Q : Int) = n := by
    show getV f (Q : Int).toNat 4 = n
    rw [Int.toNat_natCast]
    refine getV_back (n := Q) (f := g) (v := n) (by omega) (fun i hi => ?_)
    rw [hf _ (by omega), catB, if_pos (by omega)]; rfl
  refine ⟨hv, ?_, fun i hi => ?_⟩
  · simp only [partOk, hv, getE, Bool.and_eq_true, decide_eq_true_eq]
    rw [if_pos (by omega), if_neg (by omega)]
    omega
  · rw [Int.toNat_natCast, hf _ (by omega), catB, if_neg (by omega)]
    congr 1; omega

theorem S_BinBack (cn c1 cp c2 : Nat) (a : Nat → Int) (N C : Nat → Nat) (F : Nat → Nat → Int) (size : Int) (hF : ∀ i, i < cp → ∀ j, j < N i → 0 ≤ F i j ∧ F i j ≤ 255) :
    ACall Pg F_witanlaw10_BinBack [.vsl 1 cn c1 (fun i _ => .int .i64 (a i)), .vsl 1 cp c2 (fun i _ => .vsl 1 (N i) (C i) (bytesG (F i))), .int .i64 size] [] (fun r _ => r = .bool true) := by
  refine B_witanlaw10_BinBack ⟨rfl, ?_⟩
  conv => whnf
  refine condB_mk (fun h1 => ?_) (fun h1 => ?_)
  rotate_left
  · conv => whnf
  have h1 : cn ≤ 50 := by simp at h1; omega
  conv => whnf
  refine condB_mk (fun h2 => ?_) (fun h2 => ?_)
  · conv => whnf
  have h2 : cp ≤ 50 := by simp at h2; omega
  conv => whnf
  generalize hS : IntKind.i64.wrap (1 + IntKind.i64.wrap ((IntKind.u64.wrap size).tmod 7)) = S
  have hS1 : 1 ≤ S ∧ S ≤ 7 := by
    subst hS
    have := Int.tmod_nonneg (b := 7) (show 0 ≤ IntKind.u64.wrap size by rw [wu64]; omega)
    have := Int.tmod_lt_of_pos (IntKind.u64.wrap size) (show (0:Int) < 7 by omega)
    rw [w64 (n := (IntKind.u64.wrap size).tmod 7) (by omega) (by omega), w64 (by omega) (by omega)]
    omega
  obtain ⟨s, rfl⟩ : ∃ s : Nat, S = s := ⟨S.toNat, by omega⟩
  clear hS
  have hs : 1 ≤ s ∧ s ≤ 7 := by omega
  have hp : (2 : Nat) ^ (8 * s) ≤ 2 ^ 56 := Nat.pow_le_pow_right (by omega) (by omega)
  have hp0 : 0 < (2 : Nat) ^ (8 * s) := Nat.pow_pos (by omega)
  have hpi : ((2 : Nat) ^ (8 * s) : Nat) = (2 : Int) ^ (8 * s) := by simp
  have hm1 : IntKind.i64.wrap (8 * (s : Int)) = 8 * s := w64 (by omega) (by omega)
  have hm2 : IntKind.u64.wrap (8 * (s : Int)) = 8 * s := by rw [wu64]; omega
  have e1 : IntKind.i64.wrap (1 * 2 ^ min ((8 : Int) * (s : Int)).toNat IntKind.i64.bits) = 2 ^ (8 * s) := by
    rw [show min ((8 : Int) * (s : Int)).toNat IntKind.i64.bits = 8 * s by simp only [IntKind.bits]; omega, Int.one_mul]
    exact w64 (by omega) (by omega)
  have hm3 : IntKind.i64.wrap ((2 : Int) ^ (8 * s) - 1) = 2 ^ (8 * s) - 1 := w64 (by omega) (by omega)
  have hsn : ((8 : Int) * (s : Int)).toNat = 8 * s := by omega
  have hand := fun i : Nat => and_top (a := a i) hs
  let V : Nat → Nat := fun i => (hand i).choose
  have hV : ∀ i, V i < 2 ^ (8 * s) ∧ bitsV .and .i64 (a i) (2 ^ (8 * s) - 1) = V i := fun i => (hand i).choose_spec
  clear_value V
  clear hand
  have okV : ∀ i, putOk (V i) s = true := fun i => by
    have := (hV i).1
    simp only [putOk, Bool.and_eq_true, decide_eq_true_eq, hsn]; omega
  refine loop_wk mixed (I := fun q l m => ∃ (i cap : Nat) (f : Nat → Int), l = [(0, .vsl 1 cn c1 (fun i _ => .int .i64 (a i))), (1, .vsl 1 cp c2 (fun i _ => .vsl 1 (N i) (C i) (bytesG (F i)))), (2, .int .i64 s), (7, .sl 0 0 (encP s cn cp V N F i).1 cap), (9, .int .i64 i)] ∧
      m = [some ⟨1, (encP s cn cp V N F i).1, bytesG f⟩] ∧ q + i = 50 ∧ (∀ j, j < i → j < cp → N j ≤ 2000) ∧ (∀ j, j < (encP s cn cp V N F i).1 → f j = (encP s cn cp V N F i).2 j)) 50
    (l0 := [(0, .vsl 1 cn c1 (fun i _ => .int .i64 (a i))), (1, .vsl 1 cp c2 (fun i _ => .vsl 1 (N i) (C i) (bytesG (F i)))), (2, .int .i64 s), (7, .sl 0 0 0 0), (9, .int .i64 (0 : Nat))])
    (m0 := [some ⟨1, 0, bytesG fun _ => 0⟩]) [none] ⟨0, 0, _, rfl, rfl, rfl, fun j hj => absurd hj (Nat.not_lt_zero _), fun j hj => rfl⟩ ?_ ?_
  · refine .mk0 ⟨.eq _ _ rfl (.vsl _ _ _ _ rfl fun _ _ _ _ => .int _ _), .eq _ _ rfl (.vsl _ _ _ _ rfl fun _ _ _ _ => .vsl _ _ _ _ rfl fun _ _ _ _ => .int _ _), Flat.i rfl, .nils _ _, Flat.i rfl, trivial⟩ ⟨.ph _ _ _ rfl, trivial⟩ rfl rfl
  · rintro q l m ⟨i, cap, f, rfl, rfl, hq, hN, hf⟩
    have hlen := encP_len (V := V) (F := F) (cn := cn) (cp := cp) (N := N) hs.2 hN
    have hnext : encP s cn cp V N F (i + 1) = encB cp N F i (encA s cn V i (encP s cn cp V N F i)) := rfl
    have hi50 : i ≤ 50 := by omega
    have hmul : i * 2011 ≤ 50 * 2011 := Nat.mul_le_mul_right _ hi50
    generalize hpE : encP s cn cp V N F i = p at *
    conv => whnf
    refine condB_mk (fun hb => ?_) (fun hb => ?_)
    · have hb : ¬ i < cn := by simpa using hb
      conv => whnf
      refine condB_mk (fun hc => ?_) (fun hc => ?_)
      · have hc : i < cp := by simpa using hc
        conv => whnf
        refine condB_no (by simpa using hb) ?_
        conv => whnf
        refine condB_yes (by simpa using hc) ?_
        conv => whnf
        refine condB_ok (by simp; omega) ?_
        conv => whnf
        refine condB_mk (fun hd => ?_) (fun hd => ?_)
        · conv => whnf
        have hd : N i ≤ 2000 := by simp at hd; omega
        conv => whnf
        refine condB_ok (by simp; omega) ?_
        conv => whnf
        simp only [Int.toNat_natCast]
        refine S_PutPart (k := N i) (g := F i) (f := f) (Shows.sl rfl (by omega) (fun i hi => by simp)) Shows.vsl (by omega) (fun h => absurd (show N i ≤ 16384 by omega) h) (fun _ cap2 => ?_)
        conv => whnf
        rw [w64 (n := (i : Int) + 1) (by omega) (by omega)]
        refine ⟨q - 1, [(0, .vsl 1 cn c1 (fun i _ => .int .i64 (a i))), (1, .vsl 1 cp c2 (fun i _ => .vsl 1 (N i) (C i) (bytesG (F i)))), (2, .int .i64 s), (7, .sl 0 0 (encP s cn cp V N F (i + 1)).1 cap2), (9, .int .i64 ((i + 1 : Nat) : Int))],
          [some ⟨1, (encP s cn cp V N F (i + 1)).1, bytesG (catB (p.1 + 4) (putB p.1 f (N i) 4) (F i))⟩], [some 1], by omega, ⟨i + 1, cap2, _, rfl, rfl, by omega, fun j h3 h4 => by by_cases hji : j = i; subst hji; exact hd; exact hN j (by omega) h4, fun j hj => ?_⟩, ?_⟩
        · rw [hnext] at hj ⊢
          rw [encB, if_pos hc, encA, if_neg hb] at hj ⊢
          exact catB_congr (fun j hj => putB_congr hf)
        · rw [hnext]
          rw [encB, if_pos hc, encA, if_neg hb]
          refine .mk0 ⟨.eq _ _ rfl (.vsl _ _ _ _ rfl fun _ _ _ _ => .int _ _), .eq _ _ rfl (.vsl _ _ _ _ rfl fun _ _ _ _ => .vsl _ _ _ _ rfl fun _ _ _ _ => .int _ _), Flat.i rfl, .sl _ _ _ _ _ rfl, Flat.i (by omega), trivial⟩ ⟨.old 0 1 _ _ rfl rfl ⟨rfl, Nat.le_refl _, fun i j hi hj => .eq _ _ rfl (.int _ _)⟩, trivial⟩ rfl rfl
      · have hc : ¬ i < cp := by simpa using hc
        conv => whnf
        have hbyte := fun j => encP_byte (s := s) (cn := cn) (V := V) hF (i := i) (j := j)
        generalize hT : i = T at *
        refine loop_wk mixed (I := fun q l m => ∃ (k : Nat), l = [(0, .vsl 1 cn c1 (fun i _ => .int .i64 (a i))), (1, .vsl 1 cp c2 (fun i _ => .vsl 1 (N i) (C i) (bytesG (F i)))), (2, .int .i64 s), (7, .sl 0 0 p.1 cap), (10, .int .i64 (encP s cn cp V N F k).1), (11, .int .i64 k)] ∧
            m = [some ⟨1, p.1, bytesG f⟩] ∧ q + k = T ∧ k ≤ T) T
          (l0 := [(0, .vsl 1 cn c1 (fun i _ => .int .i64 (a i))), (1, .vsl 1 cp c2 (fun i _ => .vsl 1 (N i) (C i) (bytesG (F i)))), (2, .int .i64 s), (7, .sl 0 0 p.1 cap), (10, .int .i64 0), (11, .int .i64 (0 : Nat))])
          (m0 := [some ⟨1, p.1, bytesG f⟩]) [some 0] ⟨0, rfl, rfl, rfl, by omega⟩ ?_ ?_
        · refine .mk0 ⟨.eq _ _ rfl (.vsl _ _ _ _ rfl fun _ _ _ _ => .int _ _), .eq _ _ rfl (.vsl _ _ _ _ rfl fun _ _ _ _ => .vsl _ _ _ _ rfl fun _ _ _ _ => .int _ _), Flat.i rfl, .sl _ _ _ _ _ rfl, Flat.i rfl, Flat.i rfl, trivial⟩ ⟨.old 0 0 _ _ rfl rfl ⟨rfl, Nat.le_refl _, fun i j hi hj => .eq _ _ rfl (.int _ _)⟩, trivial⟩ rfl rfl
        · rintro q l m ⟨k, rfl, rfl, hq, hk⟩
          conv => whnf
          have step : k < T → Goes (encP s cn cp V N F (k + 1)) p := fun hk => by
            have := goesP (s := s) (cn := cn) (cp := cp) (V := V) (N := N) (F := F) (d := T - (k + 1)) (i := k + 1)
            rw [show k + 1 + (T - (k + 1)) = T by omega, hpE] at this
            exact this
          have hfb : ∀ j, j < p.1 → 0 ≤ f j ∧ f j ≤ 255 := fun j hj => by
            rw [hf j hj, ← hpE]; exact hbyte j (by rw [hpE]; exact hj)
          have hnx : encP s cn cp V N F (k + 1) = encB cp N F k (encA s cn V k (encP s cn cp V N F k)) := rfl
          generalize hPk : encP s cn cp V N F k = P at *
          refine condB_mk (fun hb2 => ?_) (fun hb2 => ?_)
          · have hb2 : ¬ k < cn := by simpa using hb2
            conv => whnf
            refine condB_mk (fun hc2 => ?_) (fun hc2 => ?_)
            · have hc2 : k < cp := by simpa using hc2
              have hgo := step (by omega)
              rw [hnx, encB, if_pos hc2, encA, if_neg hb2] at hgo
              conv => whnf
              refine condB_no (by simpa using hb2) ?_
              conv => whnf
              refine condB_yes (by simpa using hc2) ?_
              conv => whnf
              obtain ⟨g1, g2, g3⟩ := part_good (f := f) (hN k (by omega) hc2) hgo.1 (fun j hj => (hf j (Nat.lt_of_lt_of_le hj hgo.1)).trans (hgo.2 j hj))
              refine S_GetPart (f := f) (P.1 : Int) (n := p.1) (Shows.sl rfl (by omega) (fun i hi => by simp)) (by omega) hfb (fun h => by rw [g2] at h; cases h) (fun _ cap2 => ?_)
              rw [g1]
              conv => whnf
              refine condB_ok (by simp; omega) ?_
              conv => whnf
              simp only [Int.toNat_natCast] at g3 ⊢
              refine S_Bytes (n1 := N k) (n2 := N k) (f := fun i => f (i + (P.1 + 4))) (g := F k) (Shows.any rfl (by omega) (fun i hi => by rw [Nat.zero_add]; rfl)) Shows.vsl (by have := hN k (by omega) hc2; omega) ?_
              rw [sameB_t g3 (fun _ _ => rfl)]
              conv => whnf
              rw [w64 (n := (k : Int) + 1) (by omega) (by omega)]
              refine ⟨q - 1, [(0, .vsl 1 cn c1 (fun i _ => .int .i64 (a i))), (1, .vsl 1 cp c2 (fun i _ => .vsl 1 (N i) (C i) (bytesG (F i)))), (2, .int .i64 s), (7, .sl 0 0 p.1 cap), (10, .int .i64 (encP s cn cp V N F (k + 1)).1), (11, .int .i64 ((k + 1 : Nat) : Int))],
                [some ⟨1, p.1, bytesG f⟩], [some 0], by omega, ⟨k + 1, rfl, rfl, by omega, by omega⟩, ?_⟩
              rw [hnx, encB, if_pos hc2, encA, if_neg hb2]
              refine .mk0 ⟨.eq _ _ rfl (.vsl _ _ _ _ rfl fun _ _ _ _ => .int _ _), .eq _ _ rfl (.vsl _ _ _ _ rfl fun _ _ _ _ => .vsl _ _ _ _ rfl fun _ _ _ _ => .int _ _), Flat.i rfl, .sl _ _ _ _ _ rfl, Flat.i (by simp), Flat.i (by omega), trivial⟩ ⟨.old 0 0 _ _ rfl rfl ⟨rfl, Nat.le_refl _, fun i j hi hj => .eq _ _ rfl (.int _ _)⟩, trivial⟩ rfl rfl
            · have hc2 : ¬ k < cp := by simpa using hc2
              conv => whnf
              have hend := encP_end (s := s) (cn := cn) (cp := cp) (V := V) (N := N) (F := F) (d := T - k) hb2 hc2
              rw [show k + (T - k) = T by omega, hpE, hPk] at hend
              subst hend
              refine condB_yes (by simp) ?_
              conv => whnf
              refine S_wakes10 ?_
              conv => whnf
          · have hb2 : k < cn := by simpa using hb2
            have hgo := step (by omega)
            rw [hnx] at hgo
            have hgA := goesB.trans hgo
            rw [encA, if_pos hb2] at hgA
            conv => whnf
            refine condB_yes (by simpa using hb2) ?_
            conv => whnf
            refine S_Get (f := f) (P.1 : Int) (s : Int) (n := p.1) (Shows.sl rfl (by omega) (fun i hi => by simp)) (by omega) hfb ?_
            rw [getR_good (v := V k) hs hgA.1 (getV_back (n := P.1) (f := P.2) (by rw [show (256 : Nat) = 2 ^ 8 from rfl, ← Nat.pow_mul]; exact (hV k).1) (fun i hi => (hf _ (by have := hgA.1; omega)).trans (hgA.2 _ (by simp; omega))))]
            conv => whnf
            refine condB_ok (by simp; omega) ?_
            conv => whnf
            simp only [Int.toNat_natCast]
            rw [hm1, hm2, e1]
            conv => whnf
            rw [hm3, (hV k).2]
            refine condB_yes (by simp) ?_
            conv => whnf
            rw [w64 (n := (P.1 : Int) + s) (by omega) (by have := hgA.1; simp at this; omega)]
            refine condB_no (by simp) ?_
            conv => whnf
            refine condB_mk (fun hc2 => ?_) (fun hc2 => ?_)
            · have hc2 : k < cp := by simpa using hc2
              rw [encB, if_pos hc2, encA, if_pos hb2] at hgo
              conv => whnf
              obtain ⟨g1, g2, g3⟩ := part_good (f := f) (hN k (by omega) hc2) hgo.1 (fun j hj => (hf j (Nat.lt_of_lt_of_le hj hgo.1)).trans (hgo.2 j hj))
              rw [show ((P.1 : Int) + s) = ((P.1 + s : Nat) : Int) by omega]
              refine S_GetPart (f := f) ((P.1 + s : Nat) : Int) (n := p.1) (Shows.sl rfl (by omega) (fun i hi => by simp)) (by omega) hfb (fun h => by rw [g2] at h; cases h) (fun _ cap2 => ?_)
              rw [g1]
              conv => whnf
              refine condB_ok (by simp; omega) ?_
              conv => whnf
              simp only [Int.toNat_natCast] at g3 ⊢
              refine S_Bytes (n1 := N k) (n2 := N k) (f := fun i => f (i + (P.1 + s + 4))) (g := F k) (Shows.any rfl (by omega) (fun i hi => by rw [Nat.zero_add]; rfl)) Shows.vsl (by have := hN k (by omega) hc2; omega) ?_
              rw [sameB_t g3 (fun _ _ => rfl)]
              conv => whnf
              rw [w64 (n := (k : Int) + 1) (by omega) (by omega)]
              refine ⟨q - 1, [(0, .vsl 1 cn c1 (fun i _ => .int .i64 (a i))), (1, .vsl 1 cp c2 (fun i _ => .vsl 1 (N i) (C i) (bytesG (F i)))), (2, .int .i64 s), (7, .sl 0 0 p.1 cap), (10, .int .i64 (encP s cn cp V N F (k + 1)).1), (11, .int .i64 ((k + 1 : Nat) : Int))],
                [some ⟨1, p.1, bytesG f⟩], [some 0], by omega, ⟨k + 1, rfl, rfl, by omega, by omega⟩, ?_⟩
              rw [hnx, encB, if_pos hc2, encA, if_pos hb2]
              refine .mk0 ⟨.eq _ _ rfl (.vsl _ _ _ _ rfl fun _ _ _ _ => .int _ _), .eq _ _ rfl (.vsl _ _ _ _ rfl fun _ _ _ _ => .vsl _ _ _ _ rfl fun _ _ _ _ => .int _ _), Flat.i rfl, .sl _ _ _ _ _ rfl, Flat.i (by simp), Flat.i (by omega), trivial⟩ ⟨.old 0 0 _ _ rfl rfl ⟨rfl, Nat.le_refl _, fun i j hi hj => .eq _ _ rfl (.int _ _)⟩, trivial⟩ rfl rfl
            · have hc2 : ¬ k < cp := by simpa using hc2
              conv => whnf
              rw [w64 (n := (k : Int) + 1) (by omega) (by omega)]
              refine ⟨q - 1, [(0, .vsl 1 cn c1 (fun i _ => .int .i64 (a i))), (1, .vsl 1 cp c2 (fun i _ => .vsl 1 (N i) (C i) (bytesG (F i)))), (2, .int .i64 s), (7, .sl 0 0 p.1 cap), (10, .int .i64 (encP s cn cp V N F (k + 1)).1), (11, .int .i64 ((k + 1 : Nat) : Int))],
                [some ⟨1, p.1, bytesG f⟩], [some 0], by omega, ⟨k + 1, rfl, rfl, by omega, by omega⟩, ?_⟩
              rw [hnx, encB, if_neg hc2, encA, if_pos hb2]
              refine .mk0 ⟨.eq _ _ rfl (.vsl _ _ _ _ rfl fun _ _ _ _ => .int _ _), .eq _ _ rfl (.vsl _ _ _ _ rfl fun _ _ _ _ => .vsl _ _ _ _ rfl fun _ _ _ _ => .int _ _), Flat.i rfl, .sl _ _ _ _ _ rfl, Flat.i (by simp), Flat.i (by omega), trivial⟩ ⟨.old 0 0 _ _ rfl rfl ⟨rfl, Nat.le_refl _, fun i j hi hj => .eq _ _ rfl (.int _ _)⟩, trivial⟩ rfl rfl
    · have hb : i < cn := by simpa using hb
      conv => whnf
      refine condB_yes (by simpa using hb) ?_
      conv => whnf
      refine condB_ok (by simp; omega) ?_
      conv => whnf
      simp only [Int.toNat_natCast]
      rw [hm1, hm2, e1]
      conv => whnf
      rw [hm3, (hV i).2]
      refine S_Put (f := f) (V i : Int) (s : Int) (Shows.sl rfl (by omega) (fun i hi => by simp)) (by omega) (fun h => by rw [okV] at h; cases h) (fun _ cap1 => ?_)
      conv => whnf
      simp only [Int.toNat_natCast]
      refine condB_mk (fun hc => ?_) (fun hc => ?_)
      · have hc : i < cp := by simpa using hc
        conv => whnf
        refine condB_ok (by simp; omega) ?_
        conv => whnf
        refine condB_mk (fun hd => ?_) (fun hd => ?_)
        · conv => whnf
        have hd : N i ≤ 2000 := by simp at hd; omega
        conv => whnf
        refine condB_ok (by simp; omega) ?_
        conv => whnf
        simp only [Int.toNat_natCast]
        refine S_PutPart (k := N i) (g := F i) (f := putB p.1 f (V i) s) (Shows.sl rfl (by omega) (fun i hi => by simp)) Shows.vsl (by omega) (fun h => absurd (show N i ≤ 16384 by omega) h) (fun _ cap2 => ?_)
        conv => whnf
        rw [w64 (n := (i : Int) + 1) (by omega) (by omega)]
        refine ⟨q - 1, [(0, .vsl 1 cn c1 (fun i _ => .int .i64 (a i))), (1, .vsl 1 cp c2 (fun i _ => .vsl 1 (N i) (C i) (bytesG (F i)))), (2, .int .i64 s), (7, .sl 0 0 (encP s cn cp V N F (i + 1)).1 cap2), (9, .int .i64 ((i + 1 : Nat) : Int))],
          [some ⟨1, (encP s cn cp V N F (i + 1)).1, bytesG (catB (p.1 + s + 4) (putB (p.1 + s) (putB p.1 f (V i) s) (N i) 4) (F i))⟩], [some 2], by omega, ⟨i + 1, cap2, _, rfl, rfl, by omega, fun j h3 h4 => by by_cases hji : j = i; subst hji; exact hd; exact hN j (by omega) h4, fun j hj => ?_⟩, ?_⟩
        · rw [hnext] at hj ⊢
          rw [encB, if_pos hc, encA, if_pos hb] at hj ⊢
          exact catB_congr (fun j hj => putB_congr (fun j hj => putB_congr hf))
        · rw [hnext]
          rw [encB, if_pos hc, encA, if_pos hb]
          refine .mk0 ⟨.eq _ _ rfl (.vsl _ _ _ _ rfl fun _ _ _ _ => .int _ _), .eq _ _ rfl (.vsl _ _ _ _ rfl fun _ _ _ _ => .vsl _ _ _ _ rfl fun _ _ _ _ => .int _ _), Flat.i rfl, .sl _ _ _ _ _ rfl, Flat.i (by omega), trivial⟩ ⟨.old 0 2 _ _ rfl rfl ⟨rfl, Nat.le_refl _, fun i j hi hj => .eq _ _ rfl (.int _ _)⟩, trivial⟩ rfl rfl
      · have hc : ¬ i < cp := by simpa using hc
        conv => whnf
        rw [w64 (n := (i : Int) + 1) (by omega) (by omega)]
        refine ⟨q - 1, [(0, .vsl 1 cn c1 (fun i _ => .int .i64 (a i))), (1, .vsl 1 cp c2 (fun i _ => .vsl 1 (N i) (C i) (bytesG (F i)))), (2, .int .i64 s), (7, .sl 0 0 (encP s cn cp V N F (i + 1)).1 cap1), (9, .int .i64 ((i + 1 : Nat) : Int))],
          [some ⟨1, (encP s cn cp V N F (i + 1)).1, bytesG (putB p.1 f (V i) s)⟩], [some 1], by omega, ⟨i + 1, cap1, _, rfl, rfl, by omega, fun j h3 h4 => hN j (by omega) h4, fun j hj => ?_⟩, ?_⟩
        · rw [hnext] at hj ⊢
          rw [encB, if_neg hc, encA, if_pos hb] at hj ⊢
          exact putB_congr hf
        · rw [hnext]
          rw [encB, if_neg hc, encA, if_pos hb]
          refine .mk0 ⟨.eq _ _ rfl (.vsl _ _ _ _ rfl fun _ _ _ _ => .int _ _), .eq _ _ rfl (.vsl _ _ _ _ rfl fun _ _ _ _ => .vsl _ _ _ _ rfl fun _ _ _ _ => .int _ _), Flat.i rfl, .sl _ _ _ _ _ rfl, Flat.i (by omega), trivial⟩ ⟨.old 0 1 _ _ rfl rfl ⟨rfl, Nat.le_refl _, fun i j hi hj => .eq _ _ rfl (.int _ _)⟩, trivial⟩ rfl rfl

theorem S_row_BinBack (avs : List AV) (h : okVs [.sl 1 (.int .i64), .sl 1 (.sl 1 (.int .u8)), .int .i64] avs) : ∃ avs', Retold avs avs' ∧ ACall Pg F_witanlaw10_BinBack avs' [] (fun x _ => x = .bool true) := by
  obtain ⟨a, _, rfl, h1, b, _, rfl, h2, c, _, rfl, h3, rfl⟩ := h
  obtain ⟨n, c1, f, r1, _, _, hf⟩ := ok_ints h1
  obtain ⟨k, c2, N, C, F, r2, _, _, hF⟩ := ok_rows h2
  obtain ⟨v, rfl, _⟩ := ok_int h3
  exact ⟨_, .cons r1 (.cons r2 (.cons (Retold1.refl _) .nil)), S_BinBack n c1 k c2 f N C F v (fun i hi => (hF i hi).2)⟩
end Go.Proofs.Ytdobchoiiihfiaa
