/- Hidden blocks: what a region has made anew while the rest of it is still to run; no condition. -/
import Derived.Test.YtdobchoiiihfiaaB7
set_option linter.unusedVariables false
set_option linter.unusedSimpArgs false
namespace Go.Wit

/-- A block that is made but not told yet: its slot, how it is named, what is in it, where it lies; the operation that made it. -/
structure HB where
  i : Nat
  d : Nat
  val : Nat → AV
  blk : Blk
  e : LE

def XH (C : Ctx) (hs : List HB) (b : Nat) : Prop := C.X b ∨ ∃ h, h ∈ hs ∧ 0 < h.e.tot ∧ h.e.b = b
def CX (C : Ctx) (hs : List HB) (m : Mem) (w : World) (L : Lay) : Ctx := ⟨XH C hs, w, own m L, L, m.length⟩

structure HOk (C : Ctx) (h : HB) (a : Act) (w : World) : Prop where
  es : h.e.es = h.blk.es
  n : h.blk.n ≤ h.e.tot
  det : ∀ i j, i < h.blk.n → j < h.blk.es → det1 true (h.blk.get i j) = true
  cells : 0 < h.e.tot → ∃ c T, w.heap[h.e.b]? = some (.cells c T (0, 0)) ∧ c.size = h.e.tot * h.e.es ∧ C.w0.heap.size ≤ h.e.b ∧
    ∀ i j, i < h.blk.n → j < h.blk.es → ∃ v, c[i * h.blk.es + j]? = some v ∧ VR #[] (fun _ => none) (fun _ => False) (h.blk.get i j) v ∧ v.oneCell' = true
  val : ∀ (heap : Array Obj) (L : Lay) (O : Nat → Prop) l, L l = some h.e → VR heap L O (h.val l) (a.tmps.getD h.d undef)

structure HRel (C : Ctx) (n : Nat) (hs : List HB) (e : Env) (m : Mem) (a : Act) (w : World) (L : Lay) : Prop where
  size : a.tmps.size = n
  defers : a.defers = []
  memC : MRel C m w L
  memX : MRel (CX C hs m w L) m w L
  env : ERel (CX C hs m w L) e m a w L
  hid : ∀ h, h ∈ hs → HOk C h a w
  pair : hs.Pairwise fun h h' => 0 < h.e.tot → 0 < h'.e.tot → h.e.b ≠ h'.e.b

section
variable {P : Program} {C : Ctx} {n : Nat} {hs : List HB} {m m' : Mem} {w w' : World} {L L' : Lay} {e e' : Env} {a a' : Act}

theorem VR.less {h : Array Obj} {O O' : Nat → Prop} (hO : ∀ b, O' b → O b) {v : AV} {c : Value} (hv : VR h L O v c) : VR h L O' v c :=
  hv.ext ⟨fun _ _ h => h, fun _ _ _ => rfl, fun b _ hn hb => hn (hO b hb)⟩

theorem MRel.backX {X' : Nat → Prop} (hR : MRel C m w L) (h : MRel ⟨X', w, own m L, L, m.length⟩ m' w' L') (hX : ∀ b, C.X b → X' b) : MRel C m' w' L' := by
  have hold : ∀ b, own m L b → C.w0.heap.size ≤ b ∨ C.O0 b := by
    rintro b ⟨l, blk, e, h1, h2, h3, rfl⟩
    obtain ⟨e', g1, g2, g3, g0⟩ := hR.blk l blk h1
    rw [h2] at g1; obtain rfl := Option.some.inj g1
    obtain ⟨c, T, g4, g5, g6, g7⟩ := g0 h3
    exact g6
  have hs := hR.size
  have hs' : w.heap.size ≤ w'.heap.size := h.size
  refine ⟨h.os.trans hR.os, h.tape.trans hR.tape, h.output.trans hR.output, by omega, fun b hb hO => ?_, h.lay, fun l blk hl => ?_, h.inj, fun l hl => ?_, hR.xlt, fun b hb hx => h.notX b hb (hX b hx)⟩
  · have : ¬ own m L b := fun ho => (hold b ho).elim (fun h => by omega) hO
    exact (h.frame b (by show b < w.heap.size; omega) this).trans (hR.frame b hb hO)
  · obtain ⟨e, h1, h2, h3, h0⟩ := h.blk l blk hl
    refine ⟨e, h1, h2, h3, fun ht => ?_⟩
    obtain ⟨c, T, h4, h5, h6, h7⟩ := h0 ht
    refine ⟨c, T, h4, h5, ?_, fun i j hi hj => ?_⟩
    · rcases h6 with h6 | h6
      · exact .inl (by have : w.heap.size ≤ e.b := h6; omega)
      · exact hold _ h6
    · obtain ⟨v, k1, k2, k3⟩ := h7 i j hi hj
      exact ⟨v, k1, k2.less (fun b hb => hb.imp (hX b) id), k3⟩
  · obtain ⟨g1, g2⟩ := hR.base l hl
    obtain ⟨g3, g4⟩ := h.base l g1
    exact ⟨g3, g4.trans g2⟩

theorem HRel.start (hr : Rel C n e m a w L) : HRel (C.here m w L) n [] e m a w L := by
  have hh := hr.mem.here
  have hX : XH (C.here m w L) [] = (C.here m w L).X := by
    funext b; apply propext
    exact ⟨fun h => h.elim id (fun ⟨h, hm, _⟩ => by simp at hm), .inl⟩
  have hcx : CX (C.here m w L) [] m w L = C.here m w L := by
    simp only [CX, hX]; rfl
  refine ⟨hr.size, hr.defers, hh, by rw [hcx]; exact hh, ?_, fun h hm => by simp at hm, .nil⟩
  rw [hcx]; exact hr.env

theorem HRel.xlt (H : HRel C n hs e m a w L) {b : Nat} (hb : XH C hs b) : b < w.heap.size := H.memX.xlt b hb

theorem HRel.step (H : HRel C n hs e m a w L) (hM : MRel (CX C hs m w L) m' w' L') (hE : ERel (CX C hs m w L) e' m' a' w' L') (hsz : a'.tmps.size = n) (hdf : a'.defers = [])
    (hd : ∀ h, h ∈ hs → a'.tmps.getD h.d undef = a.tmps.getD h.d undef) : HRel C n hs e' m' a' w' L' := by
  refine ⟨hsz, hdf, H.memC.backX hM (fun b hb => .inl hb), hM.here, hE, fun h hm => ?_, H.pair⟩
  obtain ⟨h1, h2, h2', h3, h4⟩ := H.hid h hm
  refine ⟨h1, h2, h2', fun ht => ?_, fun heap L O l hl => by rw [hd h hm]; exact h4 heap L O l hl⟩
  obtain ⟨c, T, g1, g2, g3, g4⟩ := h3 ht
  refine ⟨c, T, ?_, g2, g3, g4⟩
  rw [← g1]
  exact hM.frame _ (Array.getElem?_eq_some_iff.1 g1).1 (fun ho => H.memX.notX _ ho (.inr ⟨h, hm, ht, rfl⟩))

/-- The world has changed in hidden blocks alone (or there is one more). -/
theorem HRel.poke (H : HRel C n hs e m a w L) (hs' : List HB) (hX1 : ∀ b, XH C hs b → XH C hs' b) (hX2 : ∀ b, b < w.heap.size → XH C hs' b → XH C hs b) (hlt : ∀ b, XH C hs' b → b < w'.heap.size)
    (hos : w'.os = w.os) (htp : w'.tape = w.tape) (hout : w'.output = w.output) (hsz : w.heap.size ≤ w'.heap.size)
    (hheap : ∀ b, b < w.heap.size → (∀ h, h ∈ hs → 0 < h.e.tot → h.e.b ≠ b) → w'.heap[b]? = w.heap[b]?) : MRel C m w' L ∧ MRel (CX C hs' m w' L) m w' L ∧ ERel (CX C hs' m w' L) e m a w' L := by
  have hx : Ext w.heap L (OO (CX C hs m w L) m L) w'.heap L (OO (CX C hs' m w' L) m L) := by
    refine ⟨fun _ _ h => h, fun b hb hO => hheap b hb (fun h hm ht hbb => hO (.inl (.inr ⟨h, hm, ht, hbb⟩))), fun b hb hO hO' => ?_⟩
    rcases hO' with h1 | h1
    · exact hO (.inl (hX2 b hb h1))
    · exact hO (.inr h1)
  have hblk : ∀ l blk, m[l]? = some (some blk) → ∃ e, L l = some e ∧ e.es = blk.es ∧ blk.n ≤ e.tot ∧ (0 < e.tot → ∃ c T, w'.heap[e.b]? = some (.cells c T (0, 0)) ∧ c.size = e.tot * e.es ∧ own m L e.b ∧
      ∀ i j, i < blk.n → j < blk.es → ∃ v, c[i * blk.es + j]? = some v ∧ VR w'.heap L (OO (CX C hs' m w' L) m L) (blk.get i j) v ∧ v.oneCell' = true) := by
    intro l blk hl
    obtain ⟨e, g1, g2, g3, g0⟩ := H.memX.blk l blk hl
    refine ⟨e, g1, g2, g3, fun ht => ?_⟩
    obtain ⟨c, T, k1, k2, k3, k4⟩ := g0 ht
    have ho : own m L e.b := ⟨l, blk, e, hl, g1, ht, rfl⟩
    refine ⟨c, T, ?_, k2, ho, fun i j hi hj => ?_⟩
    · rw [← k1]
      exact hheap _ (Array.getElem?_eq_some_iff.1 k1).1 (fun h hm ht' hbb => H.memX.notX _ ho (.inr ⟨h, hm, ht', hbb⟩))
    · obtain ⟨v, q1, q2, q3⟩ := k4 i j hi hj
      exact ⟨v, q1, q2.ext hx, q3⟩
  refine ⟨?_, ?_, fun t => (H.env t).ext hx⟩
  · have hsC := H.memC.size
    refine ⟨hos.trans H.memC.os, htp.trans H.memC.tape, hout.trans H.memC.output, by omega, fun b hb hO => ?_, H.memC.lay, fun l blk hl => ?_, H.memC.inj, H.memC.base, H.memC.xlt, H.memC.notX⟩
    · rw [← H.memC.frame b hb hO]
      refine hheap b (by omega) (fun h hm ht hbb => ?_)
      obtain ⟨_, _, _, hcl, _⟩ := H.hid h hm
      obtain ⟨c, T, _, _, g3, _⟩ := hcl ht
      omega
    · obtain ⟨e, g1, g2, g3, g0⟩ := hblk l blk hl
      obtain ⟨e', q1, _, _, q0⟩ := H.memC.blk l blk hl
      rw [g1] at q1; obtain rfl := Option.some.inj q1
      refine ⟨e, g1, g2, g3, fun ht => ?_⟩
      obtain ⟨c, T, k1, k2, k3, k4⟩ := g0 ht
      obtain ⟨_, _, _, _, r3, _⟩ := q0 ht
      refine ⟨c, T, k1, k2, r3, fun i j hi hj => ?_⟩
      obtain ⟨v, s1, s2, s3⟩ := k4 i j hi hj
      exact ⟨v, s1, s2.less (fun b hb => hb.imp (fun h => hX1 b (.inl h)) id), s3⟩
  · refine ⟨rfl, rfl, rfl, Nat.le_refl _, fun _ _ _ => rfl, H.memX.lay, fun l blk hl => ?_, H.memX.inj, fun l hl => ⟨hl, rfl⟩, hlt, fun b ho hx' => ?_⟩
    · obtain ⟨e, g1, g2, g3, g0⟩ := hblk l blk hl
      refine ⟨e, g1, g2, g3, fun ht => ?_⟩
      obtain ⟨c, T, k1, k2, k3, k4⟩ := g0 ht
      exact ⟨c, T, k1, k2, .inr k3, k4⟩
    · exact H.memX.notX b ho (hX2 b (own_lt H.memC ho) hx')

/-- A hidden block is told, at memory's end. -/
theorem HRel.tell {h : HB} (H : HRel C n (h :: hs) e m a w L) : ∃ L2, HRel C n hs (e.set h.d (h.val m.length)) (m ++ [some h.blk]) a w L2 := by
  obtain ⟨h1, h2, hdet, h3, h4⟩ := H.hid h (.head _)
  let L2 : Lay := fun l => if l = m.length then some h.e else L l
  have hLe : ∀ l e, L l = some e → L2 l = some e := by
    intro l e hl
    have : l ≠ m.length := by rintro rfl; rw [H.memC.lay _ (Nat.le_refl _)] at hl; cases hl
    simp only [L2, if_neg this]; exact hl
  have hget : ∀ l b, (m ++ [some h.blk])[l]? = some (some b) → (l < m.length ∧ m[l]? = some (some b) ∧ L2 l = L l) ∨ (l = m.length ∧ b = h.blk ∧ L2 l = some h.e) := by
    intro l b hl
    by_cases hlt : l < m.length
    · rw [List.getElem?_append_left hlt] at hl
      exact .inl ⟨hlt, hl, by simp only [L2, if_neg (Nat.ne_of_lt hlt)]⟩
    · rw [List.getElem?_append_right (by omega)] at hl
      cases hq : l - m.length with
      | zero =>
        rw [hq] at hl
        simp only [List.getElem?_cons_zero, Option.some.injEq] at hl
        have : l = m.length := by omega
        exact .inr ⟨this, hl.symm, by simp only [L2, if_pos this]⟩
      | succ q => rw [hq] at hl; simp at hl
  have hown : ∀ b, own (m ++ [some h.blk]) L2 b ↔ (own m L b ∨ (0 < h.e.tot ∧ h.e.b = b)) := by
    intro b
    constructor
    · rintro ⟨l, blk, e, g1, g2, g3, g4⟩
      rcases hget l blk g1 with ⟨k1, k2, k3⟩ | ⟨k1, k2, k3⟩
      · exact .inl ⟨l, blk, e, k2, by rw [← k3]; exact g2, g3, g4⟩
      · rw [k3] at g2; obtain rfl := Option.some.inj g2
        exact .inr ⟨g3, g4⟩
    · rintro (⟨l, blk, e, g1, g2, g3, g4⟩ | ⟨g3, g4⟩)
      · exact ⟨l, blk, e, by rw [List.getElem?_append_left (lt_of_get g1)]; exact g1, hLe _ _ g2, g3, g4⟩
      · exact ⟨m.length, h.blk, h.e, by simp, by simp only [L2, if_pos trivial], g3, g4⟩
  have hOO : ∀ b, OO (CX C hs (m ++ [some h.blk]) w L2) (m ++ [some h.blk]) L2 b ↔ OO (CX C (h :: hs) m w L) m L b := by
    intro b
    simp only [OO, CX, hown, XH, List.mem_cons]
    constructor
    · rintro ((h1 | ⟨q, hq, h2⟩) | (h1 | h1))
      · exact .inl (.inl h1)
      · exact .inl (.inr ⟨q, .inr hq, h2⟩)
      · exact .inr h1
      · exact .inl (.inr ⟨h, .inl rfl, h1⟩)
    · rintro ((k1 | ⟨q, hq0 | hq, k2⟩) | k1)
      · exact .inl (.inl k1)
      · exact .inr (.inr (by rw [hq0] at k2; exact k2))
      · exact .inl (.inr ⟨q, hq, k2⟩)
      · exact .inr (.inl k1)
  have hext : ∀ {v c}, VR w.heap L (OO (CX C (h :: hs) m w L) m L) v c → VR w.heap L2 (OO (CX C hs (m ++ [some h.blk]) w L2) (m ++ [some h.blk]) L2) v c := fun {v c} hv =>
    hv.ext ⟨hLe, fun _ _ _ => rfl, fun b _ hn hb => hn ((hOO b).1 hb)⟩
  have hpw := List.pairwise_cons.1 H.pair
  have hnot : ∀ b, own m L b → 0 < h.e.tot → h.e.b ≠ b := fun b ho ht hb => H.memX.notX b ho (.inr ⟨h, .head _, ht, hb⟩)
  have hinj : ∀ l l' b b' e e', (m ++ [some h.blk])[l]? = some (some b) → (m ++ [some h.blk])[l']? = some (some b') → L2 l = some e → L2 l' = some e' → 0 < e.tot → 0 < e'.tot → e.b = e'.b → l = l' := by
    intro l l' b b' e e' g1 g2 g3 g4 t1 t2 g5
    rcases hget l b g1 with ⟨k1, k2, k3⟩ | ⟨k1, k2, k3⟩ <;> rcases hget l' b' g2 with ⟨q1, q2, q3⟩ | ⟨q1, q2, q3⟩
    · exact H.memC.inj l l' b b' e e' k2 q2 (by rw [← k3]; exact g3) (by rw [← q3]; exact g4) t1 t2 g5
    · rw [q3] at g4; obtain rfl := Option.some.inj g4
      exact (hnot e.b ⟨l, b, e, k2, by rw [← k3]; exact g3, t1, rfl⟩ t2 g5.symm).elim
    · rw [k3] at g3; obtain rfl := Option.some.inj g3
      exact (hnot e'.b ⟨l', b', e', q2, by rw [← q3]; exact g4, t2, rfl⟩ t1 g5).elim
    · omega
  have hlay : ∀ l, (m ++ [some h.blk]).length ≤ l → L2 l = none := by
    intro l hl
    simp only [List.length_append, List.length_cons, List.length_nil] at hl
    simp only [L2, if_neg (show l ≠ m.length by omega)]
    exact H.memC.lay l (by omega)
  have hblk : ∀ l blk, (m ++ [some h.blk])[l]? = some (some blk) → ∃ e, L2 l = some e ∧ e.es = blk.es ∧ blk.n ≤ e.tot ∧ (0 < e.tot → ∃ c T, w.heap[e.b]? = some (.cells c T (0, 0)) ∧ c.size = e.tot * e.es ∧ (C.w0.heap.size ≤ e.b ∨ C.O0 e.b) ∧
      ∀ i j, i < blk.n → j < blk.es → ∃ v, c[i * blk.es + j]? = some v ∧ VR w.heap L2 (OO (CX C hs (m ++ [some h.blk]) w L2) (m ++ [some h.blk]) L2) (blk.get i j) v ∧ v.oneCell' = true) := by
    intro l blk hl
    rcases hget l blk hl with ⟨k1, k2, k3⟩ | ⟨k1, rfl, k3⟩
    · obtain ⟨e, g1, g2, g3, g0⟩ := H.memX.blk l blk k2
      obtain ⟨e', q1, _, _, q0⟩ := H.memC.blk l blk k2
      rw [g1] at q1; obtain rfl := Option.some.inj q1
      refine ⟨e, by rw [k3]; exact g1, g2, g3, fun ht => ?_⟩
      obtain ⟨c, T, r1, r2, r3, r4⟩ := g0 ht
      obtain ⟨_, _, _, _, s3, _⟩ := q0 ht
      refine ⟨c, T, r1, r2, s3, fun i j hi hj => ?_⟩
      obtain ⟨v, s1, s2, s3⟩ := r4 i j hi hj
      exact ⟨v, s1, hext s2, s3⟩
    · refine ⟨h.e, k3, h1, h2, fun ht => ?_⟩
      obtain ⟨c, T, r1, r2, r3, r4⟩ := h3 ht
      refine ⟨c, T, r1, r2, .inl r3, fun i j hi hj => ?_⟩
      obtain ⟨v, s1, s2, s3⟩ := r4 i j hi hj
      exact ⟨v, s1, det1_move (hdet i j hi hj) (.inl rfl) s2, s3⟩
  refine ⟨L2, H.size, H.defers, ?_, ?_, fun t => ?_, fun q hq => ?_, hpw.2⟩
  · refine ⟨H.memC.os, H.memC.tape, H.memC.output, H.memC.size, H.memC.frame, hlay, fun l blk hl => ?_, hinj, fun l hl => ?_, H.memC.xlt, fun b hb => ?_⟩
    · obtain ⟨e, g1, g2, g3, g0⟩ := hblk l blk hl
      refine ⟨e, g1, g2, g3, fun ht => ?_⟩
      obtain ⟨c, T, r1, r2, r3, r4⟩ := g0 ht
      refine ⟨c, T, r1, r2, r3, fun i j hi hj => ?_⟩
      obtain ⟨v, s1, s2, s3⟩ := r4 i j hi hj
      exact ⟨v, s1, s2.less (fun b hb => hb.imp .inl id), s3⟩
    · obtain ⟨g1, g2⟩ := H.memC.base l hl
      exact ⟨by simp; omega, by simp only [L2, if_neg (Nat.ne_of_lt g1)]; exact g2⟩
    · rcases (hown b).1 hb with h5 | ⟨h5, h6⟩
      · exact H.memC.notX b h5
      · intro hx
        have := H.memC.xlt b hx
        obtain ⟨c, T, r1, r2, r3, r4⟩ := h3 h5
        omega
  · refine ⟨rfl, rfl, rfl, Nat.le_refl _, fun _ _ _ => rfl, hlay, fun l blk hl => ?_, hinj, fun l hl => ⟨hl, rfl⟩, fun b hb => ?_, fun b hb hx => ?_⟩
    · obtain ⟨e, g1, g2, g3, g0⟩ := hblk l blk hl
      refine ⟨e, g1, g2, g3, fun ht => ?_⟩
      obtain ⟨c, T, r1, r2, r3, r4⟩ := g0 ht
      exact ⟨c, T, r1, r2, .inr ⟨l, blk, e, hl, g1, ht, rfl⟩, r4⟩
    · exact H.memX.xlt b (by rcases hb with hb | ⟨q, hq, h5⟩; exact .inl hb; exact .inr ⟨q, .tail _ hq, h5⟩)
    · rcases (hown b).1 hb with h5 | ⟨h5, h6⟩
      · exact H.memX.notX b h5 (by rcases hx with hx | ⟨q, hq, h7⟩; exact .inl hx; exact .inr ⟨q, .tail _ hq, h7⟩)
      · rcases hx with hx | ⟨q, hq, h7, h8⟩
        · have := H.memC.xlt b hx
          obtain ⟨c, T, r1, r2, r3, r4⟩ := h3 h5
          omega
        · exact hpw.1 q hq h5 h7 (h6.trans h8.symm)
  · rcases Env.set_upd e h.d (h.val m.length) t with h5 | ⟨h5, h6⟩ | ⟨h5, h6⟩
    · rw [h5]; exact .un _
    · rw [h6]; exact hext (H.env t)
    · rw [h6, h5]; exact h4 _ _ _ _ (by simp only [L2, if_pos trivial])
  · exact H.hid q (.tail _ hq)

end
end Go.Wit
