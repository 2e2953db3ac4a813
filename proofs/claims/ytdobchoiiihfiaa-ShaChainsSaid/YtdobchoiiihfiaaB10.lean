/- What only looks, while blocks lie hidden; no condition. -/
import Derived.Test.YtdobchoiiihfiaaB9
set_option linter.unusedVariables false
set_option linter.unusedSimpArgs false
namespace Go.Wit

/-- What of memory stays while a region runs: the settled cells of the blocks that it began with, or their sizes alone. -/
def flB (keep : Keep) (b : Blk) : Blk := match keep with
  | .all => ⟨b.es, b.n, fun i j => fl1 (b.get i j)⟩
  | _ => ⟨b.es, b.n, fun _ _ => .un⟩
def flM (keep : Keep) (m : Mem) : Mem := match keep with
  | .no => m.map fun _ => none
  | .all => m.map fun b => b.map fun blk => ⟨blk.es, blk.n, fun i j => fl1 (blk.get i j)⟩
  | .shp => m.map fun b => b.map fun blk => ⟨blk.es, blk.n, fun _ _ => .un⟩
def shpM (m : Mem) : List (Option (Nat × Nat)) := m.map fun b => b.map fun blk => (blk.es, blk.n)
def keepR (keep : Keep) (m0 m : Mem) : Prop := match keep with
  | .no => True
  | .all => ∃ t, m = m0 ++ t
  | .shp => ∃ t, shpM m = shpM m0 ++ t
theorem keepR_refl (keep : Keep) (m : Mem) : keepR keep m m := by cases keep <;> simp [keepR]
theorem keepR_app {keep : Keep} {m0 m : Mem} (h : keepR keep m0 m) (t : Mem) : keepR keep m0 (m ++ t) := by
  cases keep with
  | no => trivial
  | all => obtain ⟨u, rfl⟩ := h; exact ⟨u ++ t, by rw [List.append_assoc]⟩
  | shp => obtain ⟨u, hu⟩ := h; exact ⟨u ++ shpM t, by rw [shpM, List.map_append]; change shpM m ++ shpM t = _; rw [hu, List.append_assoc]⟩

def vcLk2 (e : Env) (m : Mem) (o : AOp) (K : AV → AV → Prop) : Prop :=
  bif regOp o then (match evD o e m with | some ⟨ok, v, none⟩ => condB ok (K v (flt v)) False | _ => False) else False
def vcLk3 (e g : Env) (m : Mem) (o : AOp) (K : AV → AV → Prop) : Prop :=
  match o with
  | .idxA es x i => match x.ev g with
    | .vsl es' len cap get => match idxAV es [] (.vsl es' len cap get) (i.ev g) with
      | some ⟨ok, v, none⟩ => condB ok (K v v) False
      | _ => False
    | _ => False
  | o => vcLk2 e m o K
def vcLk (e g : Env) (m mS : Mem) (o : AOp) (K : AV → AV → Prop) : Prop :=
  match evD o g mS with
  | some ⟨ok, v, none⟩ => bif det3 false v then condB ok (K v v) False else vcLk3 e g m o K
  | _ => vcLk3 e g m o K

def vcLook (o : AOpr) (e g : Env) (m mS : Mem) (K : Env → Env → Prop) : Prop :=
  match o.guard with
  | none => vcLk e g m mS o.op fun v u => putK e o.dst v fun e => putK g o.dst u fun g => K e g
  | some (t, want) => match e.get t with
    | .bool b => condB (b == want) (Env.setK 12 e t (.bool want) fun e => vcLk e g m mS o.op fun v u => putK e o.dst v fun e => putK g o.dst u fun g => K e g)
        (Env.setK 12 e t (.bool (!want)) fun e => putK e o.dst .un fun e => putK g o.dst .un fun g => K e g)
    | _ => False

def layR (m : Mem) (L : Lay) : Lay := fun l => if l < m.length then L l else none
theorem layR_lt {m : Mem} {L : Lay} {l : Nat} (h : l < m.length) : layR m L l = L l := by unfold layR; rw [if_pos h]
theorem layR_ge {m : Mem} {L : Lay} {l : Nat} (h : ¬ l < m.length) : layR m L l = none := by unfold layR; rw [if_neg h]

def SP (C : Ctx) (keep : Keep) (m0 : Mem) (w' : World) : Prop := ∃ L', MRel C (flM keep m0) w' L'
def GR (C : Ctx) (m0 : Mem) (w0 : World) (L0 : Lay) (g : Env) (a : Act) : Prop := ∀ t, VR w0.heap L0 (OO C m0 L0) (g.get t) (a.tmps.getD t undef)

section
variable {P : Program} {C0 : Ctx} {n : Nat} {hs : List HB} {m0 m m' : Mem} {w0 w w' : World} {L0 L L' : Lay} {e e' g : Env} {a a' : Act} {o : Oper} {ao : AOpr} {keep : Keep}

theorem flM_get {l : Nat} {b : Blk} (h : (flM keep m)[l]? = some (some b)) : keep ≠ .no ∧ ∃ blk, m[l]? = some (some blk) ∧ b = flB keep blk := by
  cases keep <;> simp only [flM, List.getElem?_map, Option.map_eq_some_iff] at h <;> obtain ⟨q, h1, h2⟩ := h
  · cases h2
  · obtain ⟨blk, rfl, h3⟩ := h2
    exact ⟨by simp, blk, h1, h3.symm⟩
  · obtain ⟨blk, rfl, h3⟩ := h2
    exact ⟨by simp, blk, h1, h3.symm⟩
theorem flM_length : (flM keep m).length = m.length := by cases keep <;> simp [flM]
theorem flB_es {b : Blk} : (flB keep b).es = b.es := by cases keep <;> rfl
theorem flB_n {b : Blk} : (flB keep b).n = b.n := by cases keep <;> rfl
theorem keepR_get (hk : keepR keep m0 m) (hn : keep ≠ .no) {l : Nat} {b : Blk} (h : m0[l]? = some (some b)) : ∃ b', m[l]? = some (some b') ∧ b'.es = b.es ∧ b'.n = b.n ∧ (keep = .all → b' = b) := by
  cases keep with
  | no => exact absurd rfl hn
  | all =>
    obtain ⟨t, rfl⟩ := hk
    exact ⟨b, by rw [List.getElem?_append_left (lt_of_get h)]; exact h, rfl, rfl, fun _ => rfl⟩
  | shp =>
    obtain ⟨t, ht⟩ := hk
    have h1 : (shpM m)[l]? = some (some (b.es, b.n)) := by
      rw [ht, List.getElem?_append_left (by simp [shpM]; exact lt_of_get h)]
      simp [shpM, h]
    simp only [shpM, List.getElem?_map, Option.map_eq_some_iff] at h1
    obtain ⟨q, q1, q2⟩ := h1
    obtain ⟨b', rfl, q3⟩ := q2
    simp only [Prod.mk.injEq] at q3
    exact ⟨b', q1, q3.1, q3.2, fun h => by cases h⟩
theorem flB_vr {h : Array Obj} {L : Lay} {O : Nat → Prop} {L' : Lay} {O' : Nat → Prop} {b b' : Blk} {i j : Nat} {v : Value} (hb : keep = .all → b' = b) (hv : VR h L O (b'.get i j) v) : VR h L' O' ((flB keep b).get i j) v := by
  cases keep with
  | no => exact .un _
  | all => rw [hb rfl] at hv; exact fl1_vr hv
  | shp => exact .un _

theorem keepS (hC : MRel (C0.here m0 w0 L0) m w L) (hk : keepR keep m0 m) : MRel (C0.here m0 w0 L0) (flM keep m0) w (layR m0 L) := by
  have hown : ∀ b, own (flM keep m0) (layR m0 L) b → own m L b := by
    rintro b ⟨l, blk, e, h1, h2, h3, h4⟩
    obtain ⟨hkk, blk1, g1, _⟩ := flM_get h1
    obtain ⟨b', g2, _⟩ := keepR_get hk hkk g1
    rw [layR_lt (lt_of_get g1)] at h2
    exact ⟨l, b', e, g2, h2, h3, h4⟩
  refine ⟨hC.os, hC.tape, hC.output, hC.size, hC.frame, fun l hl => ?_, fun l b hl => ?_, fun l l' b b' e e' h1 h2 h3 h4 t1 t2 h5 => ?_, fun l hl => ?_, hC.xlt, fun b hb => hC.notX b (hown b hb)⟩
  · rw [flM_length] at hl
    rw [layR_ge (by omega)]
  · obtain ⟨hkk, blk, g1, rfl⟩ := flM_get hl
    obtain ⟨b', g2, g3, g4, g5⟩ := keepR_get hk hkk g1
    have hl' := lt_of_get g1
    obtain ⟨e, k1, k2, k3, k0⟩ := hC.blk l b' g2
    refine ⟨e, by rw [layR_lt hl']; exact k1, by rw [k2, g3, flB_es], by rw [flB_n, ← g4]; exact k3, fun ht => ?_⟩
    obtain ⟨c, T, q1, q2, q3, q4⟩ := k0 ht
    refine ⟨c, T, q1, q2, q3, fun i j hi hj => ?_⟩
    rw [flB_n] at hi
    rw [flB_es] at hj ⊢
    obtain ⟨v, r1, r2, r3⟩ := q4 i j (by omega) (by omega)
    exact ⟨v, by rw [← g3]; exact r1, flB_vr g5 r2, r3⟩
  · obtain ⟨hkk, b1, g1, _⟩ := flM_get h1
    obtain ⟨_, b2, g2, _⟩ := flM_get h2
    obtain ⟨c1, k1, _⟩ := keepR_get hk hkk g1
    obtain ⟨c2, k2, _⟩ := keepR_get hk hkk g2
    rw [layR_lt (lt_of_get g1)] at h3
    rw [layR_lt (lt_of_get g2)] at h4
    exact hC.inj l l' c1 c2 e e' k1 k2 h3 h4 t1 t2 h5
  · obtain ⟨h1, h2⟩ := hC.base l hl
    have hl' : l < m0.length := hl
    exact ⟨by rw [flM_length]; exact hl', by rw [layR_lt hl']; exact h2⟩

theorem extS (hR0 : MRel (C0.here m0 w0 L0) m0 w0 L0) (hS : MRel (C0.here m0 w0 L0) (flM keep m0) w' L') : Ext w0.heap L0 (OO (C0.here m0 w0 L0) m0 L0) w'.heap L' (OO (C0.here m0 w0 L0) (flM keep m0) L') := by
  refine ⟨fun l e hl => ?_, fun b hb hO => hS.frame b hb (fun ho => hO (.inr ho)), fun b hb hO hO' => ?_⟩
  · have hlt : l < m0.length := by
      rcases Nat.lt_or_ge l m0.length with h1 | h1
      · exact h1
      · rw [hR0.lay l h1] at hl; cases hl
    rw [(hS.base l hlt).2]; exact hl
  · rcases hO' with hX | ⟨l, blk, e, h1, h2, h3, rfl⟩
    · exact hO (.inl hX)
    · obtain ⟨e', g1, g2, g3, g0⟩ := hS.blk l blk h1
      rw [h2] at g1; obtain rfl := Option.some.inj g1
      obtain ⟨c, T, g4, g5, g6, g7⟩ := g0 h3
      rcases g6 with g6 | g6
      · have : w0.heap.size ≤ e.b := g6; omega
      · exact hO (.inr g6)

theorem ext0 (hR0 : MRel (C0.here m0 w0 L0) m0 w0 L0) (H : HRel (C0.here m0 w0 L0) n hs e m a w L) : Ext w0.heap L0 (OO (C0.here m0 w0 L0) m0 L0) w.heap L (OO (CX (C0.here m0 w0 L0) hs m w L) m L) := by
  have hC := H.memC
  refine ⟨fun l e hl => ?_, fun b hb hO => hC.frame b hb (fun ho => hO (.inr ho)), fun b hb hO hO' => ?_⟩
  · by_cases hlt : l < m0.length
    · rw [(hC.base l hlt).2]; exact hl
    · rw [hR0.lay l (by omega)] at hl; cases hl
  · rcases hO' with (hX | ⟨h, h1, h2, h3⟩) | ⟨l, blk, e, h1, h2, h3, rfl⟩
    · exact hO (.inl hX)
    · obtain ⟨c, T, _, _, h5, _⟩ := (H.hid h h1).cells h2
      have : w0.heap.size ≤ h.e.b := h5
      omega
    · obtain ⟨e', g1, g2, g3, g0⟩ := hC.blk l blk h1
      rw [h2] at g1; obtain rfl := Option.some.inj g1
      obtain ⟨c, T, g4, g5, g6, g7⟩ := g0 h3
      rcases g6 with g6 | g6
      · have : w0.heap.size ≤ e.b := g6; omega
      · exact hO (.inr g6)

theorem chk_idxA {op : Op} {es : Nat} {x' i' : Opn} (h : chkOp P op (.idxA es x' i') = true) : ∃ t el x i, op = .indexAddr t x i ∧ P.underlying t = some (.slice el) ∧ szB P el es = true ∧ opnOk x x' = true ∧ opnOk i i' = true := by
  cases op <;> (try (simp [chkOp] at h; done))
  simp only [chkOp, Bool.and_eq_true] at h
  obtain ⟨d, hd, hd'⟩ := undB_spec h.1
  cases d <;> simp only [dSl, Bool.false_eq_true] at hd'
  exact ⟨_, _, _, _, rfl, hd, hd', h.2.1, h.2.2⟩

theorem idxA_still {C : Ctx} {t el es : Nat} {x y : Operand} {x' y' : Opn} (hE : ERel C g m0 a w0 L0) (ho : o.op = .indexAddr t x y) (ht : P.underlying t = some (.slice el)) (hs : szB P el es = true) (hx : opnOk x x' = true) (hy : opnOk y y' = true)
    {es' len cap : Nat} {get : Nat → Nat → AV} (hxv : x'.ev g = .vsl es' len cap get) {ok : Bool} {v : AV} (hev : idxAV es [] (.vsl es' len cap get) (y'.ev g) = some ⟨ok, v, none⟩) (hok : ok = true) :
    ∃ r, (∀ w', (execOp a.eval o).run P w' = .ok (.value r) w') ∧ VR w0.heap L0 (OO C m0 L0) v r := by
  have hx := opn_rel hE hx
  have hy := opn_rel hE hy
  rw [hxv] at hx
  generalize y'.ev g = yv at hy hev
  generalize hra : a.eval x = r at hx
  generalize hrb : a.eval y = s at hy
  cases hy <;> (try (simp [idxAV] at hev; done))
  rename_i k n
  have hrun : ∀ (ad : Addr) (len cap : Nat), r = .slice (some ad) len cap → 0 ≤ n → n < (len : Int) → ∀ w', (execOp a.eval o).run P w' = .ok (.value (.pointer (some (ad.add (n.toNat * es))))) w' := by
    intro ad len cap hr h0 h1 w'
    simp [execOp, ho, hra, hrb, hr, Instr.indexAt, asIntOf, run_underlying ht, h0, h1, run_size w' hs]
  simp only [idxAV] at hev
  cases hb : es' == es <;> simp only [hb, cond_true, cond_false, outIf, Option.some.injEq, reduceCtorEq, Out.mk.injEq, and_true] at hev
  obtain ⟨rfl, rfl⟩ := hev
  simp only [Bool.and_eq_true, decide_eq_true_eq] at hok
  obtain rfl : es' = es := by simpa using hb
  cases hx with
  | vsl0 _ _ ad => omega
  | vsl _ _ _ _ b o' vals hle hc hv =>
    refine ⟨_, hrun _ _ _ rfl hok.1 hok.2, ?_⟩
    rw [addr_add]
    have hn := toNat_lt hok.1 hok.2
    refine .vptr es' (get n.toNat) 0 b (o' + n.toNat * es') (vals n.toNat) (fun t ht => ?_) (fun t ht => hv _ _ hn ht)
    have := hc n.toNat t hn ht
    rw [Nat.add_assoc]; exact this

theorem lk_sound (hR0 : MRel (C0.here m0 w0 L0) m0 w0 L0) (H : HRel (C0.here m0 w0 L0) n hs e m a w L) (hk : keepR keep m0 m) (G : GR (C0.here m0 w0 L0) m0 w0 L0 g a) {op : AOp} (hc : chkOp P o.op op = true)
    {K : AV → AV → Prop} (hvc : vcLk e g m (flM keep m0) op K) : ∃ v u r, K v u ∧ (∀ w', SP (C0.here m0 w0 L0) keep m0 w' → (execOp a.eval o).run P w' = .ok (.value r) w') ∧ VR w.heap L (OO (CX (C0.here m0 w0 L0) hs m w L) m L) v r ∧ VR w0.heap L0 (OO (C0.here m0 w0 L0) m0 L0) u r := by
  have second : vcLk2 e m op K → ∃ v u r, K v u ∧ (∀ w', SP (C0.here m0 w0 L0) keep m0 w' → (execOp a.eval o).run P w' = .ok (.value r) w') ∧ VR w.heap L (OO (CX (C0.here m0 w0 L0) hs m w L) m L) v r ∧ VR w0.heap L0 (OO (C0.here m0 w0 L0) m0 L0) u r := by
    intro h
    unfold vcLk2 at h
    cases hr : regOp op with
    | false => rw [hr] at h; exact h.elim
    | true =>
      rw [hr] at h
      simp only [cond_true] at h
      split at h
      · rename_i ok v hev
        obtain ⟨hok, hK⟩ := condB_true h
        obtain ⟨r, w', L', _, h1, h2, h3, h4⟩ := opD_sound H.memX H.env hc hev hok
        obtain ⟨rfl, rfl, hrun⟩ := h4 rfl
        exact ⟨v, flt v, r, hK, fun w2 _ => reg_still hc hr hrun w2, h3, flt_vr h3⟩
      · exact h.elim
  have third : vcLk3 e g m op K → ∃ v u r, K v u ∧ (∀ w', SP (C0.here m0 w0 L0) keep m0 w' → (execOp a.eval o).run P w' = .ok (.value r) w') ∧ VR w.heap L (OO (CX (C0.here m0 w0 L0) hs m w L) m L) v r ∧ VR w0.heap L0 (OO (C0.here m0 w0 L0) m0 L0) u r := by
    intro h
    unfold vcLk3 at h
    split at h
    case h_2 => exact second h
    rename_i es x i
    split at h
    case h_2 => exact h.elim
    rename_i es' len cap get hxv
    split at h
    case h_2 => exact h.elim
    rename_i ok v hev
    obtain ⟨hok, hK⟩ := condB_true h
    obtain ⟨t, el, cx, cy, ho, ht, hs', hx, hy⟩ := chk_idxA hc
    obtain ⟨r, h1, h2⟩ := idxA_still (o := o) G ho ht hs' hx hy hxv hev hok
    exact ⟨v, v, r, hK, fun w' _ => h1 w', h2.ext (ext0 hR0 H), h2⟩
  unfold vcLk at hvc
  split at hvc
  · rename_i ok v hev
    cases hd : det3 false v with
    | false => rw [hd] at hvc; exact third hvc
    | true =>
      rw [hd] at hvc
      simp only [cond_true] at hvc
      obtain ⟨hok, hK⟩ := condB_true hvc
      have at_ : ∀ {w1 : World} {L1 : Lay}, MRel (C0.here m0 w0 L0) (flM keep m0) w1 L1 → ∃ r, (execOp a.eval o).run P w1 = .ok (.value r) w1 ∧ VR w1.heap L1 (OO (C0.here m0 w0 L0) (flM keep m0) L1) v r := by
        intro w1 L1 hS
        have hx := extS hR0 hS
        obtain ⟨r, w', L', _, h1, h2, h3, h4⟩ := opD_sound hS (e := g) (fun t => (G t).ext hx) hc hev hok
        obtain ⟨rfl, rfl, hrun⟩ := h4 rfl
        exact ⟨r, hrun, h3⟩
      have hSw := keepS H.memC hk
      obtain ⟨r, h1, h2⟩ := at_ hSw
      have hLL : ∀ l e, layR m0 L l = some e → l < m0.length ∧ L l = some e ∧ L0 l = some e := by
        intro l e hl
        by_cases hlt : l < m0.length
        · rw [layR_lt hlt] at hl
          exact ⟨hlt, hl, by rw [← hl]; exact (H.memC.base l hlt).2.symm⟩
        · rw [layR_ge hlt] at hl; cases hl
      refine ⟨v, v, r, hK, fun w1 ⟨L1, hS1⟩ => ?_, det3_move hd (.inr fun l e hl => (hLL l e hl).2.1) h2, det3_move hd (.inr fun l e hl => (hLL l e hl).2.2) h2⟩
      obtain ⟨r1, k1, k2⟩ := at_ hS1
      have : r = r1 := det3_same hd (fun l e e' g1 g2 => by
        obtain ⟨q1, q2, q3⟩ := hLL l e g1
        have : L1 l = L0 l := (hS1.base l q1).2
        rw [this, q3] at g2
        exact Option.some.inj g2) h2 k2
      rw [this]; exact k1
  · exact third hvc

theorem look_sound (hR0 : MRel (C0.here m0 w0 L0) m0 w0 L0) (H : HRel (C0.here m0 w0 L0) n hs e m a w L) (hk : keepR keep m0 m) (G : GR (C0.here m0 w0 L0) m0 w0 L0 g a) {ops : Array Oper} (hc : chkOpr P n ops o ao = true)
    (hds : ∀ h, h ∈ hs → ao.dst ≠ some h.d) {K : Env → Env → Prop} (hvc : vcLook ao e g m (flM keep m0) K) :
    ∃ r e' g', YieldsIf P ops (SP (C0.here m0 w0 L0) keep m0) o r a ∧ K e' g' ∧ HRel (C0.here m0 w0 L0) n hs e' m (a.put o.dst r) w L ∧ GR (C0.here m0 w0 L0) m0 w0 L0 g' (a.put o.dst r) ∧ o.dst = ao.dst ∧
      (∀ d, e.get d = .un → ao.dst ≠ some d → e'.get d = .un) ∧ (∀ d, g.get d = .un → ao.dst ≠ some d → g'.get d = .un) := by
  simp only [chkOpr, Bool.and_eq_true] at hc
  obtain ⟨hd, hg, hop⟩ := hc
  have hdst : o.dst = ao.dst ∧ ∀ d', ao.dst = some d' → d' < n := by
    unfold dstOk at hd
    split at hd
    · rename_i h1 h2; rw [h1, h2]; exact ⟨rfl, fun _ h => by cases h⟩
    · rename_i d d' h1 h2
      simp only [Bool.and_eq_true, beq_iff_eq, Nat.blt_eq] at hd
      obtain ⟨rfl, hlt⟩ := hd
      rw [h1, h2]
      exact ⟨rfl, fun _ h => by cases h; exact hlt⟩
    · cases hd
  obtain ⟨hde, hdlt⟩ := hdst
  have putS : ∀ {e1 : Env} {v : AV} {r : Value}, ERel (CX (C0.here m0 w0 L0) hs m w L) e1 m a w L → VR w.heap L (OO (CX (C0.here m0 w0 L0) hs m w L) m L) v r → HRel (C0.here m0 w0 L0) n hs (putE e1 ao.dst v) m (a.put o.dst r) w L := by
    intro e1 v r hE hv
    refine ⟨by rw [put_size]; exact H.size, by rw [Wit.put_defers]; exact H.defers, H.memC, H.memX, by rw [hde]; exact hE.put H.size hdlt hv, fun h hh => ?_, H.pair⟩
    obtain ⟨h1, h2, h2', h3, h4⟩ := H.hid h hh
    refine ⟨h1, h2, h2', h3, fun heap L2 O l hl => ?_⟩
    have : (a.put o.dst r).tmps.getD h.d undef = a.tmps.getD h.d undef := by
      rw [hde]
      cases hq : ao.dst with
      | none => rfl
      | some q => exact put_get_ne (fun h5 => hds h hh (by rw [hq, h5]))
    rw [this]; exact h4 _ _ _ _ hl
  have putG : ∀ {u : AV} {r : Value}, VR w0.heap L0 (OO (C0.here m0 w0 L0) m0 L0) u r → GR (C0.here m0 w0 L0) m0 w0 L0 (putE g ao.dst u) (a.put o.dst r) := by
    intro u r hu t
    rw [hde]
    cases hq : ao.dst with
    | none => exact G t
    | some d =>
      have hlt := hdlt d hq
      rcases Env.set_upd g d u t with h | ⟨h1, h2⟩ | ⟨h1, h2⟩
      · rw [show (putE g (some d) u).get t = .un from h]; exact .un _
      · rw [show (putE g (some d) u).get t = g.get t from h2, put_get_ne h1]; exact G t
      · rw [show (putE g (some d) u).get t = u from h2, h1, put_get (by rw [H.size]; exact hlt)]; exact hu
  have hrun : ∀ {e1 : Env}, ERel (CX (C0.here m0 w0 L0) hs m w L) e1 m a w L → (∀ d, e.get d = .un → e1.get d = .un) → vcLk e1 g m (flM keep m0) ao.op (fun v u => putK e1 ao.dst v fun e => putK g ao.dst u fun g => K e g) →
      ∃ r e' g', (∀ w', SP (C0.here m0 w0 L0) keep m0 w' → (execOp a.eval o).run P w' = .ok (.value r) w') ∧ K e' g' ∧ HRel (C0.here m0 w0 L0) n hs e' m (a.put o.dst r) w L ∧ GR (C0.here m0 w0 L0) m0 w0 L0 g' (a.put o.dst r) ∧
        (∀ d, e.get d = .un → ao.dst ≠ some d → e'.get d = .un) ∧ (∀ d, g.get d = .un → ao.dst ≠ some d → g'.get d = .un) := by
    intro e1 hE1 hun h
    obtain ⟨v, u, r, h1, h2, h3, h4⟩ := lk_sound hR0 (e := e1) ⟨H.size, H.defers, H.memC, H.memX, hE1, H.hid, H.pair⟩ hk G hop h
    rw [putK_eq, putK_eq] at h1
    exact ⟨r, _, _, h2, h1, putS hE1 h3, putG h4, fun d hd hne => putE_un (hun d hd) hne, fun d hd hne => putE_un hd hne⟩
  unfold vcLook at hvc
  unfold guardOk at hg
  split at hg
  · rename_i h1 h2
    rw [h2] at hvc
    simp only at hvc
    obtain ⟨r, e', g', k1, k2, k3, k4, k5, k6⟩ := hrun H.env (fun _ h => h) hvc
    exact ⟨r, e', g', .inl ⟨by simp [Region.wanted, h1], k1⟩, k2, k3, k4, hde, k5, k6⟩
  · rename_i j b t b' h1 h2
    rw [h2] at hvc
    simp only at hvc
    simp only [Bool.and_eq_true, beq_iff_eq] at hg
    obtain ⟨rfl, hg⟩ := hg
    split at hg
    · rename_i oj hoj
      split at hg
      · rename_i d hd
        have : d = t := by simpa using hg
        subst this
        split at hvc
        · rename_i bb hbb
          have hy : yielded ops a.tmps j = some bb := by
            simp [yielded, hoj, hd, tmps_get H.env hbb]
          have hw : Region.wanted o (yielded ops a.tmps) = (bb == b) := by
            simp only [Region.wanted, h1, hy]
            cases bb <;> cases b <;> rfl
          have hval : a.tmps.getD d undef = .bool bb := by rw [Array.getD_eq_getD_getElem?, tmps_get H.env hbb]; rfl
          rcases condB_split hvc with ⟨hb, hv⟩ | ⟨hb, hv⟩
          · rw [Env.setK_eq] at hv
            obtain ⟨r, e', g', k1, k2, k3, k4, k5, k6⟩ := hrun (H.env.refine (by rw [hval, beq_iff_eq.1 hb]; exact .bool _)) (fun s hs => set_un hbb hs) hv
            exact ⟨r, e', g', .inl ⟨by rw [hw]; exact hb, k1⟩, k2, k3, k4, hde, k5, k6⟩
          · rw [Env.setK_eq, putK_eq, putK_eq] at hv
            have hE' : ERel (CX (C0.here m0 w0 L0) hs m w L) (e.set d (.bool (!b))) m a w L := H.env.refine (by
              rw [hval]
              have : bb = !b := by cases bb <;> cases b <;> simp at hb ⊢
              rw [this]; exact .bool _)
            exact ⟨undef, _, _, .inr ⟨by rw [hw, hb], rfl⟩, hv, putS hE' (.un _), putG (.un _), hde, fun s hs hne => putE_un (set_un hbb hs) hne, fun s hs hne => putE_un hs hne⟩
        · exact hvc.elim
      · cases hg
    · cases hg
  · cases hg

end
end Go.Wit
