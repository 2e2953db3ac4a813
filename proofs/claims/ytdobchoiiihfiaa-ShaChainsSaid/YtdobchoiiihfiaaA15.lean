/- A call in a greater memory: what it is lent, what it may write, and what it gives back; no condition. -/
import Derived.Test.YtdobchoiiihfiaaA14
set_option linter.unusedVariables false
set_option linter.unusedSimpArgs false
namespace Go.Wit

/-- An argument as the call is told of it: the same told anew, or a block of the caller's lent to be read. -/
inductive Lend (σ : Nat → Option Nat) (B : List Nat) (m : Mem) : AV → AV → Prop where
  | rv (v v' : AV) : RV false σ v v' → Lend σ B m v v'
  | sl (l off len cap : Nat) (blk : Blk) (get : Nat → Nat → AV) : l ∈ B → m[l]? = some (some blk) → off + len ≤ blk.n →
      (∀ i j, i < len → j < blk.es → get i j = blk.get (off + i) j ∧ Flat false (get i j)) → Lend σ B m (.sl l off len cap) (.vsl blk.es len cap get)
  | sl0 (l off es : Nat) (get : Nat → Nat → AV) : Lend σ B m (.sl l off 0 0) (.vsl es 0 0 get)
  | vsl (es len cap : Nat) (g g' : Nat → Nat → AV) : (∀ i j, i < len → j < es → g' i j = g i j ∧ Flat false (g' i j)) → Lend σ B m (.vsl es len cap g) (.vsl es len cap g')
  | nils (es : Nat) (get : Nat → Nat → AV) : Lend σ B m .nils (.vsl es 0 0 get)
  | ptr (l i j : Nat) (blk : Blk) (get : Nat → AV) : l ∈ B → m[l]? = some (some blk) → i < blk.n →
      (∀ t, t < blk.es → get t = blk.get i t ∧ Flat false (get t)) → Lend σ B m (.ptr l i j) (.vptr blk.es get j)

inductive Lends (σ : Nat → Option Nat) (B : List Nat) (m : Mem) : List AV → List AV → Prop where
  | nil : Lends σ B m [] []
  | cons (v v' : AV) (vs vs' : List AV) : Lend σ B m v v' → Lends σ B m vs vs' → Lends σ B m (v :: vs) (v' :: vs')

/-- What the caller's memory is behind the call: τ tells which of the call's blocks lies where. -/
structure Give (nv : Bool) (src : List (Option Nat)) (k0 : Nat) (m m' m2 : Mem) (τ : Nat → Option Nat) : Prop where
  len : m.length ≤ m2.length
  top : ∀ l q, τ l = some q → l < m2.length
  inj : ∀ l l' q, τ l = some q → τ l' = some q → l = l'
  low : ∀ l q, l < m.length → τ l = some q → q < k0 ∧ src.getD q none = some l
  blk : ∀ l b, m2[l]? = some (some b) → (τ l = none ∧ m[l]? = some (some b) ∧ ∀ i, src.getD i none ≠ some l) ∨ (∃ q b1, τ l = some q ∧ m'[q]? = some (some b1) ∧ BlkW nv τ b1 b) ∨ (τ l = none ∧ m.length ≤ l ∧ b.n = 0)

def bor (m : Mem) (L : Lay) (B : List Nat) (b : Nat) : Prop := ∃ l blk e, l ∈ B ∧ m[l]? = some (some blk) ∧ L l = some e ∧ 0 < e.tot ∧ e.b = b

theorem own_lt {C : Ctx} {m : Mem} {w : World} {L : Lay} (hR : MRel C m w L) {b : Nat} (h : own m L b) : b < w.heap.size := by
  obtain ⟨l, blk, e, h1, h2, h3, rfl⟩ := h
  obtain ⟨e', g1, g2, g3, g0⟩ := hR.blk l blk h1
  rw [h2] at g1; obtain rfl := Option.some.inj g1
  obtain ⟨c, T, g4, g5, g6, g7⟩ := g0 h3
  exact (Array.getElem?_eq_some_iff.1 g4).1

theorem ACall.frame {P : Program} {f : FuncId} {args args0 : List AV} {m m0 : Mem} {K0 K : AV → Mem → Prop} (h : ACall P f args0 m0 K0) (nv : Bool) (src : List (Option Nat)) (B : List Nat) (hB : nv = false → B = [])
    (hargs : Lends (fun l => src.getD l none) B m args args0) (hm0 : BWs false (fun l => src.getD l none) m 0 m0) (hlen : src.length = m0.length) (hnd : ∀ i j l, src.getD i none = some l → src.getD j none = some l → i = j)
    (hdis : ∀ l, l ∈ B → ∀ i, src.getD i none ≠ some l)
    (hK : ∀ v m', K0 v m' → ∃ v2 m2 τ, Give nv src m0.length m m' m2 τ ∧ RV nv τ v v2 ∧ K v2 m2) : ACall P f args m K := by
  refine ⟨h.callable, fun C w L cargs hR hv => ?_⟩
  have hRh := hR.here
  let L1 := layW L src m0
  have hOh : ∀ b, OO (C.here m w L) m L b ↔ OO C m L b := fun b => Iff.rfl
  have hown0 : ∀ b, own m0 L1 b → ∃ l i b1 e, src.getD i none = some l ∧ m[l]? = some (some b1) ∧ L l = some e ∧ 0 < e.tot ∧ e.b = b := by
    rintro b ⟨l, blk, e, h1, h2, h3, h4⟩
    have hg : BW false (fun l => src.getD l none) m l (some blk) := by simpa using hm0.get l _ h1
    rcases hg.inv with ⟨hs, hn⟩ | ⟨q, b1, hs, h5, h6⟩
    · have h2' : layW L src m0 l = some e := h2
      simp only [layW, hs, h1] at h2'
      obtain rfl := Option.some.inj h2'
      simp at h3
    · have h2' : layW L src m0 l = some e := h2
      simp only [layW, hs] at h2'
      exact ⟨q, l, b1, e, hs, h5, h2', h3, h4⟩
  have hown1 : ∀ b, own m0 L1 b → own m L b := fun b hb => by
    obtain ⟨l, i, b1, e, h1, h2, h3, h4, h5⟩ := hown0 b hb
    exact ⟨l, b1, e, h2, h3, h4, h5⟩
  let C2 : Ctx := ⟨fun b => OO C m L b ∧ ¬ own m0 L1 b ∧ ¬ bor m L B b, w, own m L, L1, 0⟩
  obtain ⟨hM, _, hOO⟩ := hRh.wkX hm0 hlen hnd C2 rfl rfl (fun b hb => ⟨hb.1, by
      rcases hb.1 with hx | hx
      · exact hRh.xlt b hx
      · exact own_lt hR hx⟩) (fun b hb hx => hx.2.1 hb) (fun l hl => absurd hl (Nat.not_lt_zero _))
  have hM2 := hM.here
  let C3 : Ctx := C2.here m0 w L1
  -- the arguments
  have hav : VRs w.heap L1 (OO C3 m0 L1) args0 cargs.toList := by
    have hσ : ∀ l l' e, (fun l => src.getD l none) l' = some l → L l = some e → L1 l' = some e := by
      intro l l' e g1 g2
      have g1' : src.getD l' none = some l := g1
      show layW L src m0 l' = some e
      simp only [layW, g1']; exact g2
    have hsub : ∀ b, OO C3 m0 L1 b → OO C m L b := fun b hb => hOO b hb
    have hbor : ∀ {l blk e}, l ∈ B → m[l]? = some (some blk) → L l = some e → 0 < e.tot → ¬ OO C3 m0 L1 e.b := by
      intro l blk e g1 g2 g3 g4 hb
      rcases hb with hb | hb
      · exact hb.2.2 ⟨l, blk, e, g1, g2, g3, g4, rfl⟩
      · obtain ⟨l2, i, b1, e2, q1, q2, q3, q4, q5⟩ := hown0 _ hb
        have := hR.inj l2 l b1 blk e2 e q2 g2 q3 g3 q4 g4 q5
        subst this
        exact hdis l2 g1 i q1
    have one : ∀ {v v' c}, Lend (fun l => src.getD l none) B m v v' → VR w.heap L (OO C m L) v c → VR w.heap L1 (OO C3 m0 L1) v' c := by
      intro v v' c hl hc
      cases hl with
      | rv _ _ hr => exact hr.vr hσ (fun _ => hsub) hc
      | sl0 l off es get =>
        cases hc with
        | sl0 _ _ a => exact .vsl0 _ _ _
        | sl0n _ _ => exact .vsl0 _ _ _
        | sl _ _ _ _ e g1 g2 g3 => exact .vsl0 _ _ _
      | nils es get => cases hc; exact .vsl0 _ _ _
      | vsl es len cap g g' hg =>
        cases hc with
        | vsl0 _ _ a => exact .vsl0 _ _ _
        | vsl _ _ _ _ b o vals h0 h1 h2 => exact .vsl _ _ _ _ b o vals h0 (fun i j hi hj => ⟨fun hb => (h1 i j hi hj).1 (hsub _ hb), (h1 i j hi hj).2⟩) (fun i j hi hj => (hg i j hi hj).2.vr (fun _ => hsub) (by rw [(hg i j hi hj).1]; exact h2 i j hi hj))
      | sl l off len cap blk get g1 g2 g3 g4 =>
        cases hc with
        | sl0 _ _ a => exact .vsl0 _ _ _
        | sl0n _ _ => exact .vsl0 _ _ _
        | sl _ _ _ _ e q1 q2 q3 =>
          obtain ⟨e', k1, k2, k3, k0⟩ := hR.blk l blk g2
          rw [q1] at k1; obtain rfl := Option.some.inj k1
          by_cases hc0 : cap = 0
          · subst hc0
            obtain rfl : len = 0 := by omega
            exact .vsl0 _ _ _
          have ht : 0 < e.tot := by omega
          obtain ⟨c, T, k4, k5, k6, k7⟩ := k0 ht
          have key : ∀ i j, i < len → j < blk.es → ∃ v, cellAt w.heap e.b (off * e.es + (i * blk.es + j)) = some v ∧ VR w.heap L (OO C m L) (blk.get (off + i) j) v ∧ v.oneCell' = true := by
            intro i j hi hj
            obtain ⟨v, r1, r2, r3⟩ := k7 (off + i) j (by omega) hj
            refine ⟨v, ?_, r2, r3⟩
            simp only [cellAt, k4]
            rw [← r1, k2]; congr 1
            rw [Nat.add_mul]; omega
          classical
          refine .vsl _ _ _ _ e.b (off * e.es) (fun i j => if hij : i < len ∧ j < blk.es then (key i j hij.1 hij.2).choose else undef) q2 (fun i j hi hj => ?_) (fun i j hi hj => ?_)
          · have hk := (key i j hi hj).choose_spec
            rw [dif_pos ⟨hi, hj⟩]
            exact ⟨hbor g1 g2 q1 ht, hk.1, hk.2.2⟩
          · have hk := (key i j hi hj).choose_spec
            rw [dif_pos ⟨hi, hj⟩]
            obtain ⟨p1, p2⟩ := g4 i j hi hj
            exact p2.vr (fun _ => hsub) (by rw [p1]; exact hk.2.1)
      | ptr l i j blk get g1 g2 g3 g4 =>
        cases hc with
        | ptr _ _ _ e q1 =>
          obtain ⟨e', k1, k2, k3, k0⟩ := hR.blk l blk g2
          rw [q1] at k1; obtain rfl := Option.some.inj k1
          have ht : 0 < e.tot := by omega
          obtain ⟨c, T, k4, k5, k6, k7⟩ := k0 ht
          have key : ∀ t, t < blk.es → ∃ v, cellAt w.heap e.b (i * e.es + t) = some v ∧ VR w.heap L (OO C m L) (blk.get i t) v ∧ v.oneCell' = true := by
            intro t ht
            obtain ⟨v, r1, r2, r3⟩ := k7 i t g3 ht
            refine ⟨v, ?_, r2, r3⟩
            simp only [cellAt, k4]
            rw [← r1, k2]
          classical
          refine .vptr _ _ _ e.b (i * e.es) (fun t => if hij : t < blk.es then (key t hij).choose else undef) (fun t hj => ?_) (fun t hj => ?_)
          · have hk := (key t hj).choose_spec
            rw [dif_pos hj]
            exact ⟨hbor g1 g2 q1 ht, hk.1, hk.2.2⟩
          · have hk := (key t hj).choose_spec
            rw [dif_pos hj]
            obtain ⟨p1, p2⟩ := g4 t hj
            exact p2.vr (fun _ => hsub) (by rw [p1]; exact hk.2.1)
    have all : ∀ {vs vs' : List AV} {cs : List Value}, Lends (fun l => src.getD l none) B m vs vs' → VRs w.heap L (OO C m L) vs cs → VRs w.heap L1 (OO C3 m0 L1) vs' cs := by
      intro vs vs' cs hl
      induction hl generalizing cs with
      | nil => intro hc; cases hc; exact .nil
      | cons v v' vs vs' h1 h2 ih => intro hc; cases hc with | cons _ _ _ _ c1 c2 => exact .cons _ _ _ _ (one h1 c1) (ih c2)
    exact all hargs hv
  refine (h.run C3 w L1 cargs hM2 hav).mono ?_
  rintro en w' ⟨v, m', r, L1', rfl, hk, hM', hvr, hx⟩
  obtain ⟨v2, m2, τ, hg, hrv, hKv⟩ := hK v m' hk
  let L2 : Lay := fun l => match τ l with
    | some q => L1' q
    | none => if l < m.length then L l else match m2[l]? with
      | some (some b) => some ⟨0, b.es, 0⟩
      | _ => none
  have hτ : ∀ l l' e, τ l' = some l → L1' l = some e → L2 l' = some e := by
    intro l l' e g1 g2; simp only [L2, g1]; exact g2
  have hbase : ∀ l, l < m.length → L2 l = L l := by
    intro l hl
    cases hq : τ l with
    | none => simp only [L2, hq, if_pos hl]
    | some q =>
      obtain ⟨g1, g2⟩ := hg.low l q hl hq
      simp only [L2, hq]
      rw [(hM'.base q g1).2]
      show layW L src m0 q = L l
      simp only [layW, g2]
  have hnew : ∀ b, own m' L1' b → w.heap.size ≤ b ∨ own m0 L1 b := by
    rintro b ⟨l, blk, e, h1, h2, h3, rfl⟩
    obtain ⟨e', g1, g2, g3, g0⟩ := hM'.blk l blk h1
    rw [h2] at g1; obtain rfl := Option.some.inj g1
    obtain ⟨c, T, g4, g5, g6, g7⟩ := g0 h3
    exact g6
  have hown2 : ∀ b, own m2 L2 b → (∃ l blk e, τ l = none ∧ m[l]? = some (some blk) ∧ (∀ i, src.getD i none ≠ some l) ∧ L l = some e ∧ 0 < e.tot ∧ e.b = b) ∨ own m' L1' b := by
    rintro b ⟨l, blk, e, h1, h2, h3, h4⟩
    rcases hg.blk l blk h1 with ⟨g1, g2, g3⟩ | ⟨q, b1, g1, g2, g3⟩ | ⟨g1, g2, g3⟩
    rotate_left 2
    · exfalso
      simp only [L2, g1, h1] at h2
      rw [if_neg (by omega)] at h2
      obtain rfl := Option.some.inj h2
      exact absurd h3 (Nat.lt_irrefl 0)
    · left
      refine ⟨l, blk, e, g1, g2, g3, ?_, h3, h4⟩
      rw [← hbase l (lt_of_get g2)]; exact h2
    · right
      simp only [L2, g1] at h2
      exact ⟨q, b1, e, g2, h2, h3, h4⟩
  have hfr : ∀ {l blk e}, m[l]? = some (some blk) → (∀ i, src.getD i none ≠ some l) → L l = some e → 0 < e.tot → ¬ own m0 L1 e.b := by
    intro l blk e g1 g2 g3 g4 hb
    obtain ⟨l2, i, b1, e2, q1, q2, q3, q4, q5⟩ := hown0 _ hb
    have := hR.inj l2 l b1 blk e2 e q2 g1 q3 g3 q4 g4 q5
    subst this
    exact g2 i q1
  have hxx : Ext w.heap L (OO C m L) w'.heap L2 (OO C m2 L2) := by
    refine ⟨fun l e hl => ?_, fun b hb hO => ?_, fun b hb hO hO' => ?_⟩
    · have hlt : l < m.length := by
        rcases Nat.lt_or_ge l m.length with h1 | h1
        · exact h1
        · rw [hR.lay l h1] at hl; cases hl
      rw [hbase l hlt]; exact hl
    · exact hM'.frame b hb (fun ho => hO (.inr (hown1 b ho)))
    · rcases hO' with hX | ho
      · exact hO (.inl hX)
      · rcases hown2 b ho with ⟨l, blk, e, g1, g2, g3, g4, g5, rfl⟩ | ho
        · exact hO (.inr ⟨l, blk, e, g2, g4, g5, rfl⟩)
        · rcases hnew b ho with h1 | h1
          · omega
          · exact hO (.inr (hown1 b h1))
  have hOb : nv = false → ∀ b, OO C m2 L2 b → OO C3 m' L1' b := by
    intro hn b hb
    have hB' := hB hn
    have hnb : ¬ bor m L B b := by rintro ⟨l, blk, e, g1, _⟩; rw [hB'] at g1; simp at g1
    rcases hb with hb | hb
    · exact .inl ⟨.inl hb, fun ho => hR.notX b (hown1 b ho) hb, hnb⟩
    · rcases hown2 b hb with ⟨l, blk, e, g1, g2, g3, g4, g5, rfl⟩ | ho
      · exact .inl ⟨.inr ⟨l, blk, e, g2, g4, g5, rfl⟩, hfr g2 g3 g4 g5, hnb⟩
      · exact .inr ho
  have hMh : MRel (C.here m w L) m2 w' L2 := by
    refine ⟨hM'.os, hM'.tape, hM'.output, hM'.size, fun b hb hO => hM'.frame b hb (fun ho => hO (hown1 b ho)), fun l hl => ?_, fun l b hl => ?_, fun l l' b b' e e' h1 h2 h3 h4 t1 t2 h5 => ?_, fun l hl => ?_, hRh.xlt, fun b hb hX => ?_⟩
    · have h1 : τ l = none := by
        cases hq : τ l with
        | none => rfl
        | some q => have := hg.top l q hq; omega
      have := hg.len
      simp only [L2, h1]; rw [if_neg (by omega), List.getElem?_eq_none hl]
    · rcases hg.blk l b hl with ⟨g1, g2, g3⟩ | ⟨q, b1, g1, g2, g3⟩ | ⟨g1, g2, g3⟩
      rotate_left 2
      · refine ⟨⟨0, b.es, 0⟩, ?_, rfl, by rw [g3]; exact Nat.le_refl _, fun h => absurd h (Nat.lt_irrefl 0)⟩
        simp only [L2, g1, hl]
        rw [if_neg (by omega)]
      · obtain ⟨e, k1, k2, k3, k0⟩ := hR.blk l b g2
        refine ⟨e, by rw [hbase l (lt_of_get g2)]; exact k1, k2, k3, fun ht => ?_⟩
        obtain ⟨c, T, k4, k5, k6, k7⟩ := k0 ht
        refine ⟨c, T, ?_, k5, .inr ⟨l, b, e, g2, k1, ht, rfl⟩, fun i j hi hj => ?_⟩
        · rw [← k4]
          exact hM'.frame e.b (Array.getElem?_eq_some_iff.1 k4).1 (hfr g2 g3 k1 ht)
        · obtain ⟨v, r1, r2, r3⟩ := k7 i j hi hj
          exact ⟨v, r1, r2.ext hxx, r3⟩
      · obtain ⟨e, k1, k2, k3, k0⟩ := hM'.blk q b1 g2
        refine ⟨e, hτ _ _ _ g1 k1, by rw [k2, g3.es], by have := g3.n; omega, fun ht => ?_⟩
        obtain ⟨c, T, k4, k5, k6, k7⟩ := k0 ht
        refine ⟨c, T, k4, k5, k6.imp id (hown1 _), fun i j hi hj => ?_⟩
        have hn := g3.n
        obtain ⟨v, r1, r2, r3⟩ := k7 i j (by omega) (by rw [g3.es]; exact hj)
        exact ⟨v, by rw [← g3.es]; exact r1, (g3.get i j hi hj).vr hτ hOb r2, r3⟩
    · have noph : ∀ {l b e}, m2[l]? = some (some b) → L2 l = some e → 0 < e.tot → τ l = none → m.length ≤ l → False := by
        intro l b e h1 h2 h3 h4 h5
        simp only [L2, h4, h1] at h2
        rw [if_neg (by omega)] at h2
        obtain rfl := Option.some.inj h2
        exact absurd h3 (Nat.lt_irrefl 0)
      rcases hg.blk l b h1 with ⟨g1, g2, g3⟩ | ⟨q, b1, g1, g2, g3⟩ | ⟨g1, g2, g3⟩
      rotate_left 2
      · exact (noph h1 h3 t1 g1 g2).elim
      · rw [hbase l (lt_of_get g2)] at h3
        rcases hg.blk l' b' h2 with ⟨q1, q2, q3⟩ | ⟨q', b2, q1, q2, q3⟩ | ⟨q1, q2, q3⟩
        rotate_left 2
        · exact (noph h2 h4 t2 q1 q2).elim
        · rw [hbase l' (lt_of_get q2)] at h4
          exact hR.inj l l' b b' e e' g2 q2 h3 h4 t1 t2 h5
        · exfalso
          simp only [L2, q1] at h4
          have h6 := own_lt hR ⟨l, b, e, g2, h3, t1, rfl⟩
          rcases hnew e'.b ⟨q', b2, e', q2, h4, t2, rfl⟩ with h7 | h7
          · omega
          · exact hfr g2 g3 h3 t1 (by rw [h5]; exact h7)
      · rcases hg.blk l' b' h2 with ⟨q1, q2, q3⟩ | ⟨q', b2, q1, q2, q3⟩ | ⟨q1, q2, q3⟩
        rotate_left 2
        · exact (noph h2 h4 t2 q1 q2).elim
        all_goals simp only [L2, g1] at h3
        · exfalso
          rw [hbase l' (lt_of_get q2)] at h4
          have h6 := own_lt hR ⟨l', b', e', q2, h4, t2, rfl⟩
          rcases hnew e.b ⟨q, b1, e, g2, h3, t1, rfl⟩ with h7 | h7
          · omega
          · exact hfr q2 q3 h4 t2 (by rw [← h5]; exact h7)
        · simp only [L2, q1] at h4
          have := hM'.inj q q' b1 b2 e e' g2 q2 h3 h4 t1 t2 h5
          subst this
          exact hg.inj l l' q g1 q1
    · have hl' : l < m.length := hl
      exact ⟨by have := hg.len; omega, hbase l hl'⟩
    · have hX' : C.X b := hX
      rcases hown2 b hb with ⟨l, blk, e, g1, g2, g3, g4, g5, rfl⟩ | ho
      · exact hR.notX _ ⟨l, blk, e, g2, g4, g5, rfl⟩ hX'
      · rcases hnew b ho with h1 | h1
        · have := hRh.xlt b hX
          have : b < w.heap.size := this
          omega
        · exact hR.notX _ (hown1 b h1) hX'
  obtain ⟨r1, r2⟩ := hR.back hMh
  exact ⟨v2, m2, r, L2, rfl, hKv, r1, hrv.vr hτ hOb hvr, hxx⟩

def shiftT (k : Nat) (src : List (Option Nat)) : Nat → Option Nat := fun l => if l < k then none else src.getD (l - k) none

/-- A call that is told for an empty memory, in any memory; src tells which of its blocks the caller gets. -/
theorem ACall.frame0 {P : Program} {f : FuncId} {args args0 : List AV} {m : Mem} {K0 K : AV → Mem → Prop} (h : ACall P f args0 [] K0) (nv : Bool) (B : List Nat) (hB : nv = false → B = [])
    (hargs : Lends (fun _ => none) B m args args0)
    (hK : ∀ v m', K0 v m' → ∃ v2 t2 src2, src2.length ≤ t2.length ∧ (∀ i j q, src2.getD i none = some q → src2.getD j none = some q → i = j) ∧ RV nv (shiftT m.length src2) v v2 ∧ BWs nv (shiftT m.length src2) m' m.length t2 ∧ K v2 (m ++ t2)) : ACall P f args m K := by
  refine h.frame nv [] B hB hargs trivial rfl (fun i j l hi => by simp at hi) (fun l _ i hi => by simp at hi) (fun v m' hk => ?_)
  obtain ⟨v2, t2, src2, h1, h2, h3, h4, h5⟩ := hK v m' hk
  refine ⟨v2, m ++ t2, shiftT m.length src2, ⟨by simp, fun l q hl => ?_, fun l l' q hl hl' => ?_, fun l q hlt hl => ?_, fun l b hl => ?_⟩, h3, h5⟩
  · simp only [shiftT] at hl
    split at hl
    · cases hl
    · rw [List.length_append]
      have : l - m.length < src2.length := by
        rcases Nat.lt_or_ge (l - m.length) src2.length with g | g
        · exact g
        · rw [List.getD_eq_getElem?_getD, List.getElem?_eq_none g] at hl; cases hl
      omega
  · simp only [shiftT] at hl hl'
    split at hl
    · cases hl
    · split at hl'
      · cases hl'
      · have := h2 _ _ _ hl hl'; omega
  · simp only [shiftT, if_pos hlt] at hl; cases hl
  · by_cases hlt : l < m.length
    · left
      rw [List.getElem?_append_left hlt] at hl
      exact ⟨by simp only [shiftT, if_pos hlt], hl, fun i => by simp⟩
    · right
      rw [List.getElem?_append_right (by omega)] at hl
      have := h4.get _ _ hl
      rw [show m.length + (l - m.length) = l by omega] at this
      rcases this.inv with ⟨g1, g2⟩ | ⟨q, b1, g1, g2, g3⟩
      · exact .inr ⟨g1, by omega, g2⟩
      · exact .inl ⟨q, b1, g1, g2, g3⟩

end Go.Wit
