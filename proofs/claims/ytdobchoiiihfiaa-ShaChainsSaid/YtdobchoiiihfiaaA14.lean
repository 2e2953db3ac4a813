/- Values and memory told anew: blocks renumbered, values forgotten; loops by what holds at their head; calls in a greater memory; no condition. -/
import Derived.Test.YtdobchoiiihfiaaA13
set_option linter.unusedVariables false
set_option linter.unusedSimpArgs false
namespace Go.Wit

mutual
/-- Values with no block of their own in them (nv: and with no view either). -/
inductive Flat (nv : Bool) : AV → Prop where
  | un : Flat nv .un
  | int (k : IntKind) (n : Int) : Flat nv (.int k n)
  | bool (b : Bool) : Flat nv (.bool b)
  | str (s : ByteArray) : Flat nv (.str s)
  | nilp : Flat nv .nilp
  | nils : Flat nv .nils
  | nili : Flat nv .nili
  | vptr (m : Nat) (get : Nat → AV) (j : Nat) : nv = false → (∀ t, t < m → Flat nv (get t)) → Flat nv (.vptr m get j)
  | vsl (es len cap : Nat) (get : Nat → Nat → AV) : nv = false → (∀ i j, i < len → j < es → Flat nv (get i j)) → Flat nv (.vsl es len cap get)
  | vsl0 (es cap : Nat) (get : Nat → Nat → AV) : Flat nv (.vsl es 0 cap get)
  | agg (cs : List AV) : Flats nv cs → Flat nv (.agg cs)
  | tup (cs : List AV) : Flats nv cs → Flat nv (.tup cs)
  | ifc (t : Nat) (v : AV) : Flat nv v → Flat nv (.ifc t v)
  | fn (f : Nat) (cs : List AV) : Flats nv cs → Flat nv (.fn f cs)
inductive Flats (nv : Bool) : List AV → Prop where
  | nil : Flats nv []
  | cons (v : AV) (vs : List AV) : Flat nv v → Flats nv vs → Flats nv (v :: vs)
end

mutual
/-- A value told anew: σ gives each new block's old number. -/
inductive RV (nv : Bool) (σ : Nat → Option Nat) : AV → AV → Prop where
  | eq (v v' : AV) : v = v' → Flat nv v → RV nv σ v v'
  | un (v : AV) : RV nv σ v .un
  | sl (l l' o n c : Nat) : σ l' = some l → RV nv σ (.sl l o n c) (.sl l' o n c)
  | sl0 (l l' o o' : Nat) : RV nv σ (.sl l o 0 0) (.sl l' o' 0 0)
  | nils (l o : Nat) : RV nv σ .nils (.sl l o 0 0)
  | ptr (l l' i j : Nat) : σ l' = some l → RV nv σ (.ptr l i j) (.ptr l' i j)
  | agg (cs cs' : List AV) : RVs nv σ cs cs' → RV nv σ (.agg cs) (.agg cs')
  | tup (cs cs' : List AV) : RVs nv σ cs cs' → RV nv σ (.tup cs) (.tup cs')
  | ifc (t : Nat) (v v' : AV) : RV nv σ v v' → RV nv σ (.ifc t v) (.ifc t v')
  | fn (f : Nat) (cs cs' : List AV) : RVs nv σ cs cs' → RV nv σ (.fn f cs) (.fn f cs')
inductive RVs (nv : Bool) (σ : Nat → Option Nat) : List AV → List AV → Prop where
  | nil : RVs nv σ [] []
  | cons (v v' : AV) (vs vs' : List AV) : RV nv σ v v' → RVs nv σ vs vs' → RVs nv σ (v :: vs) (v' :: vs')
end

section
variable {nv : Bool} {σ : Nat → Option Nat} {h : Array Obj} {L L' : Lay} {O O' : Nat → Prop}

theorem Flat.i {k : IntKind} {n n' : Int} (e : n = n') : RV nv σ (.int k n) (.int k n') := .eq _ _ (by rw [e]) (.int k n)
theorem Flat.b {n n' : Bool} (e : n = n') : RV nv σ (.bool n) (.bool n') := .eq _ _ (by rw [e]) (.bool n)

theorem Flat.vr (hO : nv = false → ∀ b, O' b → O b) {v : AV} (hf : Flat nv v) : ∀ {c : Value}, VR h L O v c → VR h L' O' v c := by
  refine Flat.rec (nv := nv) (motive_1 := fun v _ => ∀ {c : Value}, VR h L O v c → VR h L' O' v c) (motive_2 := fun vs _ => ∀ {cs : List Value}, VRs h L O vs cs → VRs h L' O' vs cs)
    ?_ ?_ ?_ ?_ ?_ ?_ ?_ ?_ ?_ ?_ ?_ ?_ ?_ ?_ ?_ ?_ hf
  · intro c hv; exact .un _
  · intro k n c hv; cases hv; exact .int _ _
  · intro b c hv; cases hv; exact .bool _
  · intro s c hv; cases hv; exact .str _
  · intro c hv; cases hv; exact .nilp
  · intro c hv; cases hv; exact .nils
  · intro c hv; cases hv; exact .nili
  · intro m get j hn _ ih c hv
    cases hv with
    | vptr _ _ _ b o vals h1 h2 => exact .vptr _ _ _ b o vals (fun t ht => ⟨fun hb => (h1 t ht).1 (hO hn _ hb), (h1 t ht).2⟩) (fun t ht => ih t ht (h2 t ht))
  · intro es len cap get hn _ ih c hv
    cases hv with
    | vsl0 _ _ a => exact .vsl0 _ _ a
    | vsl _ _ _ _ b o vals h0 h1 h2 => exact .vsl _ _ _ _ b o vals h0 (fun i j hi hj => ⟨fun hb => (h1 i j hi hj).1 (hO hn _ hb), (h1 i j hi hj).2⟩) (fun i j hi hj => ih i j hi hj (h2 i j hi hj))
  · intro es cap get c hv
    cases hv with
    | vsl0 _ _ a => exact .vsl0 _ _ a
    | vsl _ _ _ _ b o vals h0 h1 h2 => exact .vsl _ _ _ _ b o vals h0 (fun i j hi => absurd hi (Nat.not_lt_zero _)) (fun i j hi => absurd hi (Nat.not_lt_zero _))
  · intro cs _ ih c hv; cases hv with | agg _ c hs => exact .agg _ _ (ih hs)
  · intro cs _ ih c hv; cases hv with | tup _ c hs => exact .tup _ _ (ih hs)
  · intro t v _ ih c hv; cases hv with | ifc _ _ c h1 => exact .ifc _ _ _ (ih h1)
  · intro f cs _ ih c hv; cases hv with | fn _ _ c hs => exact .fn _ _ _ (ih hs)
  · intro cs hv; cases hv; exact .nil
  · intro v vs _ _ i1 i2 cs hv; cases hv with | cons _ _ _ _ h1 h2 => exact .cons _ _ _ _ (i1 h1) (i2 h2)

theorem RV.vr (hσ : ∀ l l' e, σ l' = some l → L l = some e → L' l' = some e) (hO : nv = false → ∀ b, O' b → O b) {v v' : AV} (hf : RV nv σ v v') : ∀ {c : Value}, VR h L O v c → VR h L' O' v' c := by
  refine RV.rec (nv := nv) (σ := σ) (motive_1 := fun v v' _ => ∀ {c : Value}, VR h L O v c → VR h L' O' v' c) (motive_2 := fun vs vs' _ => ∀ {cs : List Value}, VRs h L O vs cs → VRs h L' O' vs' cs)
    ?_ ?_ ?_ ?_ ?_ ?_ ?_ ?_ ?_ ?_ ?_ ?_ hf
  · rintro v _ rfl hfl c hv; exact hfl.vr hO hv
  · intro v c hv; exact .un _
  · intro l l' o n c hl c' hv
    cases hv with
    | sl0 _ _ a => exact .sl0 _ _ a
    | sl0n _ _ => exact .sl0n _ _
    | sl _ _ _ _ e h1 h2 h3 => exact .sl _ _ _ _ e (hσ _ _ _ hl h1) h2 h3
  · intro l l' o o' c' hv
    cases hv with
    | sl0 _ _ a => exact .sl0 _ _ a
    | sl0n _ _ => exact .sl0n _ _
    | sl _ _ _ _ e h1 h2 h3 => exact .sl0 _ _ _
  · intro l o c hv; cases hv; exact .sl0n _ _
  · intro l l' i j hl c hv; cases hv with | ptr _ _ _ e h1 => exact .ptr _ _ _ e (hσ _ _ _ hl h1)
  · intro cs cs' _ ih c hv; cases hv with | agg _ c hs => exact .agg _ _ (ih hs)
  · intro cs cs' _ ih c hv; cases hv with | tup _ c hs => exact .tup _ _ (ih hs)
  · intro t v v' _ ih c hv; cases hv with | ifc _ _ c h1 => exact .ifc _ _ _ (ih h1)
  · intro f cs cs' _ ih c hv; cases hv with | fn _ _ c hs => exact .fn _ _ _ (ih hs)
  · intro cs hv; cases hv; exact .nil
  · intro v v' vs vs' _ _ i1 i2 cs hv; cases hv with | cons _ _ _ _ h1 h2 => exact .cons _ _ _ _ (i1 h1) (i2 h2)

theorem RVs.vr (hσ : ∀ l l' e, σ l' = some l → L l = some e → L' l' = some e) (hO : nv = false → ∀ b, O' b → O b) : ∀ {vs vs' : List AV}, RVs nv σ vs vs' → ∀ {cs : List Value}, VRs h L O vs cs → VRs h L' O' vs' cs
  | [], _, hf, cs, hv => by cases hf; cases hv; exact .nil
  | v :: vs, _, hf, cs, hv => by
    cases hf with
    | cons _ v' _ vs' g1 g2 => cases hv with | cons _ _ _ _ h1 h2 => exact .cons _ _ _ _ (g1.vr hσ hO h1) (RVs.vr hσ hO g2 h2)
end

/-- An environment laid out of a list. -/
def mkEnvK : List (Nat × AV) → Env → (Env → Prop) → Prop
  | [], e, K => K e
  | (t, v) :: r, e, K => forceV v fun v => Env.setK 12 e t v fun e => mkEnvK r e K
def mkEnv : List (Nat × AV) → Env → Env
  | [], e => e
  | (t, v) :: r, e => mkEnv r (e.set t v)
theorem mkEnvK_eq : ∀ (l : List (Nat × AV)) (e : Env) (K : Env → Prop), mkEnvK l e K = K (mkEnv l e)
  | [], e, K => rfl
  | (t, v) :: r, e, K => by simp only [mkEnvK, forceV_eq, Env.setK_eq, mkEnvK_eq r]; rfl

/-- What the old slots hold tells the new ones. -/
def EnvW (σ : Nat → Option Nat) (e : Env) : List (Nat × AV) → Prop
  | [] => True
  | (t, v) :: r => RV false σ (e.get t) v ∧ EnvW σ e r

/-- A block told anew. -/
structure BlkW (nv : Bool) (σ : Nat → Option Nat) (b b' : Blk) : Prop where
  es : b.es = b'.es
  n : b'.n ≤ b.n
  get : ∀ i j, i < b'.n → j < b'.es → RV nv σ (b.get i j) (b'.get i j)

/-- Where each new block comes from. -/
inductive BW (nv : Bool) (σ : Nat → Option Nat) (m : Mem) : Nat → Option Blk → Prop where
  | dead (l' : Nat) : BW nv σ m l' none
  | ph (l' es : Nat) (g : Nat → Nat → AV) : σ l' = none → BW nv σ m l' (some ⟨es, 0, g⟩)
  | old (l' l : Nat) (b b' : Blk) : σ l' = some l → m[l]? = some (some b) → BlkW nv σ b b' → BW nv σ m l' (some b')

theorem BW.inv {nv : Bool} {σ : Nat → Option Nat} {m : Mem} {l : Nat} {b' : Blk} (h : BW nv σ m l (some b')) : (σ l = none ∧ b'.n = 0) ∨ ∃ q b1, σ l = some q ∧ m[q]? = some (some b1) ∧ BlkW nv σ b1 b' := by
  generalize hc : some b' = c at h
  cases h with
  | dead => cases hc
  | ph es g h1 => obtain rfl := Option.some.inj hc; exact .inl ⟨h1, rfl⟩
  | old q b1 b2 h1 h2 h3 => obtain rfl := Option.some.inj hc; exact .inr ⟨q, b1, h1, h2, h3⟩

def BWs (nv : Bool) (σ : Nat → Option Nat) (m : Mem) : Nat → Mem → Prop
  | _, [] => True
  | k, b :: r => BW nv σ m k b ∧ BWs nv σ m (k + 1) r

theorem BWs.get {nv : Bool} {σ : Nat → Option Nat} {m : Mem} : ∀ {m' : Mem} {k : Nat}, BWs nv σ m k m' → ∀ l b, m'[l]? = some b → BW nv σ m (k + l) b
  | [], k, _, l, b, h => by simp at h
  | c :: r, k, hw, l, b, h => by
    cases l with
    | zero => simp at h; subst h; exact hw.1
    | succ l => have := BWs.get hw.2 l b (by simpa using h); rw [show k + (l + 1) = k + 1 + l by omega]; exact this

/-- Memory and slots told anew. -/
structure Wk (k : Nat) (e : Env) (m : Mem) (l' : List (Nat × AV)) (m' : Mem) (src : List (Option Nat)) : Prop where
  env : EnvW (fun l => src.getD l none) e l'
  mem : BWs false (fun l => src.getD l none) m 0 m'
  len : src.length = m'.length
  nodup : ∀ i j l, src.getD i none = some l → src.getD j none = some l → i = j
  base : ∀ i, i < k → src.getD i none = some i

def layW (L : Lay) (src : List (Option Nat)) (m' : Mem) : Lay := fun l =>
  match src.getD l none with
  | some q => L q
  | none => match m'[l]? with
    | some (some b) => some ⟨0, b.es, 0⟩
    | _ => none

theorem MRel.wkX {C : Ctx} {m m' : Mem} {w : World} {L : Lay} (hR : MRel C m w L) {src : List (Option Nat)} (hm : BWs false (fun l => src.getD l none) m 0 m') (hlen : src.length = m'.length)
    (hnd : ∀ i j l, src.getD i none = some l → src.getD j none = some l → i = j) (C2 : Ctx) (hw0 : C2.w0 = C.w0) (hO0 : C2.O0 = C.O0) (hX : ∀ b, C2.X b → OO C m L b ∧ b < C.w0.heap.size) (hXo : ∀ b, own m' (layW L src m') b → ¬ C2.X b)
    (hb : ∀ l, l < C2.k → l < m'.length ∧ layW L src m' l = C2.L0 l) :
    MRel C2 m' w (layW L src m') ∧ (∀ b, own m' (layW L src m') b → own m L b) ∧ ∀ b, OO C2 m' (layW L src m') b → OO C m L b := by
  have hget : ∀ {l : Nat} {b}, m'[l]? = some b → BW false (fun l => src.getD l none) m l b := fun {l b} h => by simpa using hm.get l b h
  have hlay : ∀ l l' e, src.getD l' none = some l → L l = some e → layW L src m' l' = some e := by
    intro l l' e h1 h2; simp only [layW, h1]; exact h2
  have hown : ∀ b, own m' (layW L src m') b → own m L b := by
    rintro b ⟨l, blk, e, h1, h2, h3, h4⟩
    rcases (hget h1).inv with ⟨hs, hn⟩ | ⟨q, b1, hs, h5, h6⟩
    · simp only [layW, hs, h1] at h2
      obtain rfl := Option.some.inj h2
      simp at h3
    · simp only [layW, hs] at h2
      exact ⟨q, b1, e, h5, h2, h3, h4⟩
  have hO : ∀ b, OO C2 m' (layW L src m') b → OO C m L b := fun b hb => hb.elim (fun h => (hX b h).1) (fun h => .inr (hown b h))
  refine ⟨⟨by rw [hw0]; exact hR.os, by rw [hw0]; exact hR.tape, by rw [hw0]; exact hR.output, by rw [hw0]; exact hR.size, by rw [hw0, hO0]; exact hR.frame, fun l hl => ?_, fun l blk hl => ?_, fun l l' b b' e e' h1 h2 h3 h4 t1 t2 h5 => ?_, hb, fun b hb => by rw [hw0]; exact (hX b hb).2, hXo⟩, hown, hO⟩
  · have : src.getD l none = none := by
      rw [List.getD_eq_getElem?_getD, List.getElem?_eq_none (by omega)]; rfl
    simp only [layW, this]
    rw [List.getElem?_eq_none hl]
  · rcases (hget hl).inv with ⟨hs, hn⟩ | ⟨q, b1, hs, h5, h6⟩
    · refine ⟨⟨0, blk.es, 0⟩, ?_, rfl, by rw [hn]; exact Nat.le_refl _, fun h => absurd h (Nat.lt_irrefl 0)⟩
      simp only [layW, hs, hl]
    · obtain ⟨e, g1, g2, g3, g0⟩ := hR.blk q b1 h5
      refine ⟨e, hlay _ _ _ hs g1, by rw [g2, h6.es], by have := h6.n; omega, fun ht => ?_⟩
      obtain ⟨c, T, g4, g5, g6, g7⟩ := g0 ht
      refine ⟨c, T, g4, g5, by rw [hw0, hO0]; exact g6, fun i j hi hj => ?_⟩
      have hn := h6.n
      obtain ⟨v, k1, k2, k3⟩ := g7 i j (by omega) (by rw [h6.es]; exact hj)
      refine ⟨v, by rw [← h6.es]; exact k1, (h6.get i j hi hj).vr (fun l l' e => hlay l l' e) (fun _ => hO) k2, k3⟩
  · rcases (hget h1).inv with ⟨hs, hn⟩ | ⟨q, b1, hs, h6, h7⟩
    · simp only [layW, hs, h1] at h3; obtain rfl := Option.some.inj h3; simp at t1
    · rcases (hget h2).inv with ⟨hs2, hn⟩ | ⟨q2, b2, hs2, h8, h9⟩
      · simp only [layW, hs2, h2] at h4; obtain rfl := Option.some.inj h4; simp at t2
      · simp only [layW, hs] at h3
        simp only [layW, hs2] at h4
        have := hR.inj q q2 b1 b2 e e' h6 h8 h3 h4 t1 t2 h5
        subst this
        exact hnd l l' q hs hs2

theorem MRel.wk {C : Ctx} {m m' : Mem} {w : World} {L : Lay} (hR : MRel C m w L) {src : List (Option Nat)} (hm : BWs false (fun l => src.getD l none) m 0 m') (hlen : src.length = m'.length)
    (hnd : ∀ i j l, src.getD i none = some l → src.getD j none = some l → i = j) (hb : ∀ i, i < C.k → src.getD i none = some i) :
    MRel C m' w (layW L src m') ∧ ∀ b, OO C m' (layW L src m') b → OO C m L b := by
  have hown : ∀ b, own m' (layW L src m') b → own m L b := by
    rintro b ⟨l, blk, e, h1, h2, h3, h4⟩
    have hg : BW false (fun l => src.getD l none) m l (some blk) := by simpa using hm.get l _ h1
    rcases hg.inv with ⟨hs, hn⟩ | ⟨q, b1, hs, h5, h6⟩
    · simp only [layW, hs, h1] at h2
      obtain rfl := Option.some.inj h2
      simp at h3
    · simp only [layW, hs] at h2
      exact ⟨q, b1, e, h5, h2, h3, h4⟩
  obtain ⟨h1, _, h2⟩ := hR.wkX hm hlen hnd C rfl rfl (fun b hb => ⟨.inl hb, hR.xlt b hb⟩) (fun b hb => hR.notX b (hown b hb)) (fun l hl => by
    have h1 := hb l hl
    have h2 := hR.base l hl
    refine ⟨?_, by simp only [layW, h1]; exact h2.2⟩
    rcases Nat.lt_or_ge l m'.length with h3 | h3
    · exact h3
    · rw [List.getD_eq_getElem?_getD, List.getElem?_eq_none (by omega)] at h1; cases h1)
  exact ⟨h1, h2⟩

theorem envW_get {σ : Nat → Option Nat} {h : Array Obj} {L L' : Lay} {O O' : Nat → Prop} {T : Nat → Value} {e : Env} (he : ∀ t, VR h L O (e.get t) (T t)) (hσ : ∀ l l' e, σ l' = some l → L l = some e → L' l' = some e) (hO : ∀ b, O' b → O b) :
    ∀ (l : List (Nat × AV)) (e0 : Env), EnvW σ e l → (∀ t, VR h L' O' (e0.get t) (T t)) → ∀ t, VR h L' O' ((mkEnv l e0).get t) (T t)
  | [], e0, _, h0, t => h0 t
  | (s, v) :: r, e0, hw, h0, t => by
    refine envW_get he hσ hO r (e0.set s v) hw.2 (fun q => ?_) t
    rcases Env.set_upd e0 s v q with h | ⟨h1, h2⟩ | ⟨h1, h2⟩
    · rw [h]; exact .un _
    · rw [h2]; exact h0 q
    · rw [h2, h1]; exact hw.1.vr hσ (fun _ => hO) (he s)

theorem Wk.rel {C : Ctx} {n k : Nat} {e : Env} {m m' : Mem} {a : Act} {w : World} {L : Lay} {l' : List (Nat × AV)} {src : List (Option Nat)} (hk : C.k = k) (hw : Wk k e m l' m' src) (hr : Rel C n e m a w L) : ∃ L', Rel C n (mkEnv l' .nil) m' a w L' := by
  obtain ⟨h1, h2⟩ := hr.mem.wk hw.mem hw.len hw.nodup (by rw [hk]; exact hw.base)
  refine ⟨_, hr.size, hr.defers, h1, ?_⟩
  exact envW_get hr.env (fun l l' e g1 g2 => by have g1' : src.getD l' none = some l := g1; simp only [layW, g1']; exact g2) h2 l' .nil hw.env (fun t => by rw [Env.get_nil]; exact .un _)

section
variable {D : DrawKit} {P : Program} {n k : Nat}

theorem AWp.wk {c : Code} {e : Env} {m m' : Mem} {l' : List (Nat × AV)} {src : List (Option Nat)} {Q : XPost} (hw : Wk k e m l' m' src) (h : AWp P n k c (mkEnv l' .nil) m' Q) : AWp P n k c e m Q := by
  intro C a w L hk hr
  obtain ⟨L', hr'⟩ := hw.rel hk hr
  exact h C a w L' hk hr'

theorem AWp.mono {c : Code} {e : Env} {m : Mem} {Q Q' : XPost} (hq : ∀ x e m, Q x e m → Q' x e m) (h : AWp P n k c e m Q) : AWp P n k c e m Q' := by
  intro C a w L hk hr
  refine Code.wp_mono ?_ (h C a w L hk hr)
  rintro x a' w' ⟨e', m', L', h1, h2⟩
  exact ⟨e', m', L', hq _ _ _ h1, h2⟩

/-- A loop by what holds at the head of each round: slots and memory are told anew there. -/
theorem loop_wk (hm : P.follows .mixedOrders = true) {c : ACode} {e : Env} {m : Mem} {Q : XPost} (I : Nat → List (Nat × AV) → Mem → Prop) (k0 : Nat) {l0 : List (Nat × AV)} {m0 : Mem} (src : List (Option Nat)) (hi : I k0 l0 m0) (hw : Wk k e m l0 m0 src)
    (hstep : ∀ q l m, I q l m → mkEnvK l .nil fun e => vcCode D P n k c e m fun x e' m' => match x with
      | .normal => ∃ q' l' m2 src, q' < q ∧ I q' l' m2 ∧ Wk k e' m' l' m2 src
      | .exit i => Q (.exit i) e' m'
      | .ret => Q .ret e' m'
      | _ => False) : ALoop D P n k c e m Q := by
  refine loop_sem (fun q e m => ∃ l m2 src, I q l m2 ∧ Wk k e m l m2 src) k0 ⟨l0, m0, src, hi, hw⟩ (fun q e1 m1 hI b hb => ?_)
  obtain ⟨l, m2, s2, hI, hw2⟩ := hI
  refine AWp.wk hw2 ?_
  have := hstep q l m2 hI
  rw [mkEnvK_eq] at this
  refine AWp.mono ?_ (vcCode_sound hm b c hb this)
  intro x e' m' h
  cases x with
  | normal =>
    obtain ⟨q', l', m3, s3, h1, h2, h3⟩ := h
    exact ⟨q', h1, l', m3, s3, h2, h3⟩
  | exit i => exact h
  | ret => exact h
  | _ => exact h.elim

end
end Go.Wit
