/- What a body makes of abstract values and memory: operations in a row, choices, blocks, loops, calls; and that the machine does so; no condition. -/
import Derived.Test.YtdobchoiiihfiaaA11
import Derived.LoopN
set_option linter.unusedVariables false
set_option linter.unusedSimpArgs false
namespace Go.Wit

/-- What of the program a call's operation looks at. -/
def Callable (P : Program) (f : FuncId) : Prop := ∃ fn, P.funcs[f]? = some fn ∧ (fn.name == "runtime.NumGoroutine") = false ∧ fn.body.isNone = false

/-- A call, told by abstract values and memory. -/
structure ACall (P : Program) (f : FuncId) (args : List AV) (m : Mem) (K : AV → Mem → Prop) : Prop where
  callable : Callable P f
  run : ∀ (C : Ctx) (w : World) (L : Lay) (cargs : Array Value), MRel C m w L → VRs w.heap L (OO C m L) args cargs.toList →
    Calls P f cargs w fun en w' => ∃ v m' r L', en = .returned r ∧ K v m' ∧ MRel C m' w' L' ∧ VR w'.heap L' (OO C m' L') v r ∧ Ext w.heap L (OO C m L) w'.heap L' (OO C m' L')

/-- A context that begins here. -/
def Ctx.here (C : Ctx) (m : Mem) (w : World) (L : Lay) : Ctx := ⟨C.X, w, own m L, L, m.length⟩

theorem MRel.here {C : Ctx} {m : Mem} {w : World} {L : Lay} (hR : MRel C m w L) : MRel (C.here m w L) m w L := by
  refine ⟨rfl, rfl, rfl, Nat.le_refl _, fun _ _ _ => rfl, hR.lay, fun l blk hl => ?_, hR.inj, fun l hl => ⟨hl, rfl⟩, fun b hb => Nat.lt_of_lt_of_le (hR.xlt b hb) hR.size, hR.notX⟩
  obtain ⟨e, h1, h2, h3, h0⟩ := hR.blk l blk hl
  refine ⟨e, h1, h2, h3, fun ht => ?_⟩
  obtain ⟨c, T, h4, h5, h6, h7⟩ := h0 ht
  exact ⟨c, T, h4, h5, .inr ⟨l, blk, e, hl, h1, ht, rfl⟩, h7⟩

theorem MRel.back {C : Ctx} {m m' : Mem} {w w' : World} {L L' : Lay} (hR : MRel C m w L) (h : MRel (C.here m w L) m' w' L') :
    MRel C m' w' L' ∧ Ext w.heap L (OO C m L) w'.heap L' (OO C m' L') := by
  have hold : ∀ b, own m L b → C.w0.heap.size ≤ b ∨ C.O0 b := by
    rintro b ⟨l, blk, e, h1, h2, h3, rfl⟩
    obtain ⟨e', g1, g2, g3, g0⟩ := hR.blk l blk h1
    rw [h2] at g1; obtain rfl := Option.some.inj g1
    obtain ⟨c, T, g4, g5, g6, g7⟩ := g0 h3
    exact g6
  have hs := hR.size
  have hs' : w.heap.size ≤ w'.heap.size := h.size
  refine ⟨⟨h.os.trans hR.os, h.tape.trans hR.tape, h.output.trans hR.output, by omega, fun b hb hO => ?_, h.lay, fun l blk hl => ?_, h.inj, fun l hl => ?_, hR.xlt, h.notX⟩, ⟨fun l e hl => ?_, fun b hb hO => ?_, fun b hb hO hO' => ?_⟩⟩
  · have : ¬ own m L b := fun ho => (hold b ho).elim (fun h => by omega) hO
    exact (h.frame b (by show b < w.heap.size; omega) this).trans (hR.frame b hb hO)
  · obtain ⟨e, h1, h2, h3, h0⟩ := h.blk l blk hl
    refine ⟨e, h1, h2, h3, fun ht => ?_⟩
    obtain ⟨c, T, h4, h5, h6, h7⟩ := h0 ht
    refine ⟨c, T, h4, h5, ?_, h7⟩
    rcases h6 with h6 | h6
    · exact .inl (by have : w.heap.size ≤ e.b := h6; omega)
    · exact hold _ h6
  · obtain ⟨g1, g2⟩ := hR.base l hl
    obtain ⟨g3, g4⟩ := h.base l g1
    exact ⟨g3, g4.trans g2⟩
  · have hlt : l < m.length := by
      rcases Nat.lt_or_ge l m.length with h1 | h1
      · exact h1
      · rw [hR.lay l h1] at hl; cases hl
    rw [(h.base l hlt).2]; exact hl
  · exact h.frame b hb (fun ho => hO (.inr ho))
  · rcases hO' with hX | ⟨l, blk, e, h1, h2, h3, rfl⟩
    · exact hO (.inl hX)
    · obtain ⟨e', g1, g2, g3, g0⟩ := h.blk l blk h1
      rw [h2] at g1; obtain rfl := Option.some.inj g1
      obtain ⟨c, T, g4, g5, g6, g7⟩ := g0 h3
      rcases g6 with g6 | g6
      · have : w.heap.size ≤ e.b := g6; omega
      · exact hO (.inr g6)

/-- A block's number, as a numeral. -/
def forceN0 (n : Nat) (K : Nat → Prop) : Prop := bif Nat.beq n 0 then K 0 else bif Nat.beq n 1 then K 1 else bif Nat.beq n 2 then K 2 else bif Nat.beq n 3 then K 3 else bif Nat.beq n 4 then K 4 else bif Nat.beq n 5 then K 5 else bif Nat.beq n 6 then K 6 else bif Nat.beq n 7 then K 7 else K n
def forceN1 (n : Nat) (K : Nat → Prop) : Prop := bif Nat.beq n 8 then K 8 else bif Nat.beq n 9 then K 9 else bif Nat.beq n 10 then K 10 else bif Nat.beq n 11 then K 11 else bif Nat.beq n 12 then K 12 else bif Nat.beq n 13 then K 13 else bif Nat.beq n 14 then K 14 else bif Nat.beq n 15 then K 15 else K n
def forceN2 (n : Nat) (K : Nat → Prop) : Prop := bif Nat.beq n 16 then K 16 else bif Nat.beq n 17 then K 17 else bif Nat.beq n 18 then K 18 else bif Nat.beq n 19 then K 19 else bif Nat.beq n 20 then K 20 else bif Nat.beq n 21 then K 21 else bif Nat.beq n 22 then K 22 else bif Nat.beq n 23 then K 23 else K n
def forceN3 (n : Nat) (K : Nat → Prop) : Prop := bif Nat.beq n 24 then K 24 else bif Nat.beq n 25 then K 25 else bif Nat.beq n 26 then K 26 else bif Nat.beq n 27 then K 27 else bif Nat.beq n 28 then K 28 else bif Nat.beq n 29 then K 29 else bif Nat.beq n 30 then K 30 else bif Nat.beq n 31 then K 31 else K n
def forceN (n : Nat) (K : Nat → Prop) : Prop := bif Nat.blt n 8 then forceN0 n K else bif Nat.blt n 16 then forceN1 n K else bif Nat.blt n 24 then forceN2 n K else bif Nat.blt n 32 then forceN3 n K else K n
theorem bif_beq {n m : Nat} {K : Nat → Prop} {q : Prop} (h : q = K n) : (bif Nat.beq n m then K m else q) = K n := by
  cases hb : Nat.beq n m with
  | true => rw [Nat.eq_of_beq_eq_true hb]; rfl
  | false => rw [cond_false, h]
theorem bif_two {b : Bool} {p q r : Prop} (h1 : p = r) (h2 : q = r) : (bif b then p else q) = r := by cases b <;> simp [h1, h2]
theorem forceN_eq (n : Nat) (K : Nat → Prop) : forceN n K = K n := by
  unfold forceN forceN0 forceN1 forceN2 forceN3
  refine bif_two ?_ (bif_two ?_ (bif_two ?_ (bif_two ?_ rfl)))
  all_goals (repeat (refine bif_beq ?_)); rfl

def force1 (v : AV) (K : AV → Prop) : Prop :=
  match v with
  | .int k n => K (.int k n)
  | .ptr l i j => forceN l fun l => K (.ptr l i j)
  | .sl l o n c => forceN l fun l => K (.sl l o n c)
  | v => K v
theorem force1_eq (v : AV) (K : AV → Prop) : force1 v K = K v := by cases v <;> simp only [force1, forceN_eq]
def forceVs : List AV → (List AV → Prop) → Prop
  | [], K => K []
  | v :: vs, K => force1 v fun v => forceVs vs fun vs => K (v :: vs)
theorem forceVs_eq : ∀ (vs : List AV) (K : List AV → Prop), forceVs vs K = K vs
  | [], K => rfl
  | v :: vs, K => by simp only [forceVs, force1_eq, forceVs_eq vs]
def forceV (v : AV) (K : AV → Prop) : Prop :=
  match v with
  | .un => K .un
  | .int k n => K (.int k n)
  | .bool b => K (.bool b)
  | .str s => K (.str s)
  | .nilp => K .nilp
  | .ptr l i j => forceN l fun l => K (.ptr l i j)
  | .vptr m g j => K (.vptr m g j)
  | .nils => K .nils
  | .sl l o n c => forceN l fun l => K (.sl l o n c)
  | .vsl e n c g => K (.vsl e n c g)
  | .agg cs => K (.agg cs)
  | .tup cs => forceVs cs fun cs => K (.tup cs)
  | .nili => K .nili
  | .ifc t v => K (.ifc t v)
  | .fn f c => K (.fn f c)
theorem forceV_eq (v : AV) (K : AV → Prop) : forceV v K = K v := by cases v <;> simp only [forceV, forceN_eq, forceVs_eq]

def Env.setK : Nat → Env → Nat → AV → (Env → Prop) → Prop
  | 0, _, _, _, K => K .nil
  | f + 1, .nil, n, v, K => bif n == 0 then K (.node .nil v .nil) else bif n % 2 == 1 then Env.setK f .nil (n / 2) v (fun l => K (.node l .un .nil)) else Env.setK f .nil (n / 2 - 1) v (fun r => K (.node .nil .un r))
  | f + 1, .node l u r, n, v, K => bif n == 0 then K (.node l v r) else bif n % 2 == 1 then Env.setK f l (n / 2) v (fun l => K (.node l u r)) else Env.setK f r (n / 2 - 1) v (fun r => K (.node l u r))

theorem Env.setK_eq : ∀ (f : Nat) (e : Env) (n : Nat) (v : AV) (K : Env → Prop), Env.setK f e n v K = K (Env.setF f e n v)
  | 0, e, n, v, K => rfl
  | f + 1, .nil, n, v, K => by
    unfold Env.setK Env.setF
    cases n == 0 <;> cases n % 2 == 1 <;> simp [Env.setK_eq f]
  | f + 1, .node l u r, n, v, K => by
    unfold Env.setK Env.setF
    cases n == 0 <;> cases n % 2 == 1 <;> simp [Env.setK_eq f]

def putE (e : Env) (d : Option Nat) (v : AV) : Env := match d with | none => e | some d => e.set d v
def putK (e : Env) (d : Option Nat) (v : AV) (K : Env → Prop) : Prop := match d with | none => K e | some d => forceV v fun v => Env.setK 12 e d v K
theorem putK_eq (e : Env) (d : Option Nat) (v : AV) (K : Env → Prop) : putK e d v K = K (putE e d v) := by
  cases d with
  | none => rfl
  | some d => simp only [putK, putE, forceV_eq, Env.setK_eq]; rfl

/-- A memory whose spine is laid open. -/
def memK : Mem → (Mem → Prop) → Prop
  | [], K => K []
  | b :: m, K => memK m fun m => K (b :: m)
theorem memK_eq : ∀ (m : Mem) (K : Mem → Prop), memK m K = K m
  | [], K => rfl
  | b :: m, K => by simp only [memK]; rw [memK_eq m]

def setMK : Mem → Nat → Option Blk → (Mem → Prop) → Prop
  | [], _, _, K => K []
  | b :: m, 0, c, K => K (c :: m)
  | b :: m, l + 1, c, K => setMK m l c fun m => K (b :: m)
theorem setMK_eq : ∀ (m : Mem) (l : Nat) (c : Option Blk) (K : Mem → Prop), setMK m l c K = K (m.set l c)
  | [], _, _, K => rfl
  | b :: m, 0, c, K => rfl
  | b :: m, l + 1, c, K => by simp only [setMK]; rw [setMK_eq m l c]; rfl

def updK (m : Mem) (u : Option (Nat × Blk)) (K : Mem → Prop) : Prop :=
  match u with
  | none => K m
  | some (l, b) => bif Nat.blt l m.length then setMK m l (some b) K else memK (m ++ [some b]) K
theorem updK_eq (m : Mem) (u : Option (Nat × Blk)) (K : Mem → Prop) : updK m u K = K (m.upd u) := by
  cases u with
  | none => rfl
  | some p => obtain ⟨l, b⟩ := p; simp only [updK, Mem.upd]; cases Nat.blt l m.length <;> simp [setMK_eq, memK_eq]

def vcRun (P : Program) (o : AOp) (e : Env) (m : Mem) (K : AV → Mem → Prop) : Prop :=
  match o with
  | .call f args => match f.ev e with
    | .fn n caps => ACall P n (args.map (·.ev e) ++ caps) m K
    | _ => False
  | .app es bytes x y => vcApp es bytes m (x.ev e) (y.ev e) K
  | .sbytes x => vcSbytes m (x.ev e) K
  | .bstr x => vcBstr m (x.ev e) K
  | .frz x => vcFrz m (x.ev e) K
  | .eqnS neg x => match x.ev e with
    | .nils => K (.bool (!neg)) m
    | .sl _ _ n cap => condB (Nat.blt 0 cap) (K (.bool neg) m) (n = 0 → K (.bool neg) m ∧ K (.bool (!neg)) m)
    | .vsl _ n cap _ => condB (Nat.blt 0 cap) (K (.bool neg) m) (n = 0 → K (.bool neg) m ∧ K (.bool (!neg)) m)
    | _ => False
  | o => match evD o e m with
    | some ⟨ok, v, u⟩ => condB ok (updK m u fun m => K v m) False
    | none => False

def vcOp (P : Program) (o : AOpr) (e : Env) (m : Mem) (K : Env → Mem → Prop) : Prop :=
  match o.guard with
  | none => vcRun P o.op e m fun v m => putK e o.dst v fun e => K e m
  | some (t, want) => match e.get t with
    | .bool b => condB (b == want) (Env.setK 12 e t (.bool want) fun e => vcRun P o.op e m fun v m => putK e o.dst v fun e => K e m) (Env.setK 12 e t (.bool (!want)) fun e => putK e o.dst .un fun e => K e m)
    | _ => False

/-- (By the recursor itself: so it unfolds alike everywhere.) -/
noncomputable def vcOps (P : Program) (l : List AOpr) : Env → Mem → (Env → Mem → Prop) → Prop :=
  List.rec (motive := fun _ => Env → Mem → (Env → Mem → Prop) → Prop) (fun e m K => K e m) (fun o _ ih e m K => vcOp P o e m fun e m => ih e m K) l

def dstOk (n : Nat) : Option Nat → Option Nat → Bool
  | none, none => true
  | some d, some d' => d == d' && Nat.blt d n
  | _, _ => false

def guardOk (ops : Array Oper) : Option (Nat × Bool) → Option (Nat × Bool) → Bool
  | none, none => true
  | some (j, b), some (t, b') => b == b' && (match ops[j]? with | some o => (match o.dst with | some d => d == t | none => false) | none => false)
  | _, _ => false

def chkOpr (P : Program) (n : Nat) (ops : Array Oper) (o : Oper) (ao : AOpr) : Bool := dstOk n o.dst ao.dst && (guardOk ops o.guard ao.guard && chkOp P o.op ao.op)

def chkOps (P : Program) (n : Nat) (ops : Array Oper) : List Oper → List AOpr → Bool
  | [], [] => true
  | o :: os, ao :: aos => chkOpr P n ops o ao && chkOps P n ops os aos
  | _, _ => false

structure Rel (C : Ctx) (n : Nat) (e : Env) (m : Mem) (a : Act) (w : World) (L : Lay) : Prop where
  size : a.tmps.size = n
  defers : a.defers = []
  mem : MRel C m w L
  env : ERel C e m a w L

section
variable {P : Program} {C : Ctx} {m : Mem} {w : World} {L : Lay} {e : Env} {a : Act} {o : Oper} {n : Nat}

theorem condB_split {b : Bool} {p q : Prop} (h : condB b p q) : (b = true ∧ p) ∨ (b = false ∧ q) := by cases b <;> simp [condB] at h <;> simp [h]

theorem ERel.ext {m' : Mem} {w' : World} {L' : Lay} (hE : ERel C e m a w L) (x : Ext w.heap L (OO C m L) w'.heap L' (OO C m' L')) : ERel C e m' a w' L' := fun t => (hE t).ext x

theorem ERel.put {d : Option Nat} {v : AV} {r : Value} (hE : ERel C e m a w L) (hn : a.tmps.size = n) (hd : ∀ d', d = some d' → d' < n) (hv : VR w.heap L (OO C m L) v r) : ERel C (putE e d v) m (a.put d r) w L := by
  intro t
  cases d with
  | none => exact hE t
  | some d =>
    have hlt := hd d rfl
    rcases Env.set_upd e d v t with h | ⟨h1, h2⟩ | ⟨h1, h2⟩
    · rw [show (putE e (some d) v).get t = .un from h]; exact .un _
    · rw [show (putE e (some d) v).get t = e.get t from h2]
      have : (a.put (some d) r).tmps.getD t undef = a.tmps.getD t undef := by
        simp only [Act.put, Array.getD_eq_getD_getElem?, Array.getElem?_setIfInBounds]
        rw [if_neg (fun h => h1 h.symm)]
      rw [this]; exact hE t
    · rw [show (putE e (some d) v).get t = v from h2]
      subst h1
      have : (a.put (some t) r).tmps.getD t undef = r := by
        simp only [Act.put, Array.getD_eq_getD_getElem?, Array.getElem?_setIfInBounds]
        simp [show t < a.tmps.size by omega]
      rw [this]; exact hv

theorem put_size (a : Act) (d : Option Nat) (r : Value) : (a.put d r).tmps.size = a.tmps.size := by cases d <;> simp [Act.put]
theorem put_defers (a : Act) (d : Option Nat) (r : Value) : (a.put d r).defers = a.defers := by cases d <;> rfl

theorem chk_call {op : Op} {f : Opn} {args : List Opn} (h : chkOp P op (.call f args) = true) : ∃ g cargs tys, op = .call { callee := .value g, args := cargs, argTypes := tys } ∧ opnOk g f = true ∧ opnsOk cargs.toList args = true := by
  cases op <;> (try (simp [chkOp] at h; done))
  rename_i c
  obtain ⟨callee, cargs, tys⟩ := c
  simp only [chkOp] at h
  split at h
  · simp only [Bool.and_eq_true] at h
    exact ⟨_, cargs, tys, rfl, h.1, h.2⟩
  · cases h

theorem chk_app {op : Op} {es bytes : Nat} {x' y' : Opn} (h : chkOp P op (.app es bytes x' y') = true) : ∃ x y t u, op = .call { callee := .builtin .append, args := #[x, y], argTypes := #[t, u] } ∧ appB P t es bytes = true ∧ undB P u dNotInt = true ∧ opnOk x x' = true ∧ opnOk y y' = true := by
  cases op <;> (try (simp [chkOp] at h; done))
  rename_i c
  simp only [chkOp] at h
  split at h
  · rename_i x y t u hcb
    simp only [Bool.and_eq_true] at h
    exact ⟨x, y, t, u, by rw [callB_spec hcb], h.1, h.2.1, h.2.2.1, h.2.2.2⟩
  · cases h

theorem chk_sbytes {op : Op} {x' : Opn} (h : chkOp P op (.sbytes x') = true) : ∃ s t x, op = .convert s t x ∧ undB P t (dSl fun e => undB P e (dInt .u8)) = true ∧ undB P s dStr = true ∧ opnOk x x' = true := by
  cases op <;> (try (simp [chkOp] at h; done))
  simp only [chkOp, Bool.and_eq_true] at h
  exact ⟨_, _, _, rfl, h.1, h.2.1, h.2.2⟩

theorem chk_bstr {op : Op} {x' : Opn} (h : chkOp P op (.bstr x') = true) : ∃ s t x, op = .convert s t x ∧ undB P s (dSl fun e => undB P e (dInt .u8)) = true ∧ undB P t dStr = true ∧ opnOk x x' = true := by
  cases op <;> (try (simp [chkOp] at h; done))
  simp only [chkOp, Bool.and_eq_true] at h
  exact ⟨_, _, _, rfl, h.1, h.2.1, h.2.2⟩

theorem chk_frz {op : Op} {x' : Opn} (h : chkOp P op (.frz x') = true) : ∃ s x, op = .convert s s x ∧ undB P s (dSl fun e => undB P e (dInt .u8)) = true ∧ opnOk x x' = true := by
  cases op <;> (try (simp [chkOp] at h; done))
  simp only [chkOp, Bool.and_eq_true, beq_iff_eq] at h
  obtain ⟨rfl, h1, h2⟩ := h
  exact ⟨_, _, rfl, h1, h2⟩

/-- One operation. -/
theorem run_sound (hR : MRel C m w L) (hE : ERel C e m a w L) {ao : AOp} (hc : chkOp P o.op ao = true) {K : AV → Mem → Prop} (hvc : vcRun P ao e m K) {next : Act → World → Prop} {Q : Exit → Act → World → Prop}
    (hnext : ∀ v m' r w' L', K v m' → MRel C m' w' L' → ERel C e m' a w' L' → VR w'.heap L' (OO C m' L') v r → next (a.put o.dst r) w') : o.wp P a w next Q := by
  have hgood : ∀ {K' : AV → Mem → Prop}, (∀ v m', K' v m' → K v m') → GoodK P C m w L o a K' → o.wp P a w next Q := by
    rintro K' hK ⟨v, m', r, w', L', hrun, hk, h1, h2, h3⟩
    unfold Oper.wp
    rcases hrun with hrun | ⟨hrun, rfl⟩
    · rw [hrun]; exact hnext v m' r w' L' (hK _ _ hk) h1 (hE.ext h2) h3
    · rw [hrun]; exact hnext v m' undef w' L' (hK _ _ hk) h1 (hE.ext h2) h3
  have hdet : (match evD ao e m with | some ⟨ok, v, u⟩ => condB ok (updK m u fun m => K v m) False | none => False) → o.wp P a w next Q := by
    intro h
    split at h
    · rename_i ok v u hev
      obtain ⟨hok, hk⟩ := condB_true h
      rw [updK_eq] at hk
      obtain ⟨r, w', L', hrun, h1, h2, h3, _⟩ := opD_sound hR hE hc hev hok
      exact hgood (K' := fun v' m' => v' = v ∧ m' = m.upd u) (by rintro _ _ ⟨rfl, rfl⟩; exact hk) ⟨v, m.upd u, r, w', L', hrun, ⟨rfl, rfl⟩, h1, h2, h3⟩
    · exact h.elim
  cases ao with
  | call f args =>
    obtain ⟨g, cargs, tys, hop, hg, hargs⟩ := chk_call hc
    have hf := opn_rel hE hg
    simp only [vcRun] at hvc
    split at hvc
    case h_2 => exact hvc.elim
    rename_i fn caps hfe
    rw [hfe] at hf
    generalize hgv : a.eval g = gv at hf
    cases hf with
    | fn _ _ cc hcaps =>
      obtain ⟨⟨F, hF, hF1, hF2⟩, hcall⟩ := hvc
      have hav : VRs w.heap L (OO C m L) (args.map (·.ev e) ++ caps) ((cargs.map a.eval) ++ cc).toList := by
        rw [Array.toList_append]
        refine VRs.append ?_ hcaps
        obtain ⟨l1, l2⟩ := opnsOk_spec _ _ hargs
        refine VRs.of_get (by simpa using l1) (fun k d hd => ?_)
        simp only [Array.toList_map, List.getElem?_map, Array.getElem?_toList, Option.map_eq_some_iff] at hd
        obtain ⟨x, hx, rfl⟩ := hd
        have hk : k < args.length := by
          rw [← l1]
          have := (Array.getElem?_eq_some_iff.1 hx).1
          simpa using this
        have h2 : args[k]? = some args[k] := List.getElem?_eq_getElem hk
        simp only [List.getD, List.getElem?_map, h2, Option.map_some, Option.getD_some]
        exact opn_rel hE (l2 k x _ (by simpa using hx) h2)
      have hrun : (execOp a.eval o).run P w = .ok (.enter fn ((cargs.map a.eval) ++ cc)) w := by
        have h1 : F.body.isNone = false := hF2
        have h2 : ¬ (F.name == "runtime.NumGoroutine") = true := by rw [hF1]; simp
        simp only [execOp, hop, resolve, hgv, Deferred.ofValue, Sem.run_bind, Sem.run_pure, Result.andThen_ok, invoke, callFunc, run_program, hF]
        rw [if_neg h2]
        simp [h1]
      have := hcall C w L _ hR hav
      unfold Oper.wp
      rw [hrun]
      show Calls P fn _ w _
      refine this.mono ?_
      rintro en w' ⟨v, m', r, L', rfl, hk, h1, h2, h3⟩
      exact hnext v m' r w' L' hk h1 (hE.ext h3) h2
  | app es bytes x' y' =>
    obtain ⟨x, y, t, u, hop, h1, h2, h3, h4⟩ := chk_app hc
    obtain ⟨d, hd, hd'⟩ := undB_spec h2
    unfold appB at h1
    split at h1
    · rename_i el hu
      split at h1
      · rename_i i hi
        split at h1
        · rename_i z hz
          simp only [Bool.and_eq_true, beq_iff_eq, decide_eq_true_eq] at h1
          exact hgood (fun _ _ h => h) (app_sound hR hE hop hu hd (by rintro k rfl; simp [dNotInt] at hd') hi hz h1.1 h1.2.1 h1.2.2.1 h1.2.2.2 h3 h4 hvc)
        · cases h1
      · cases h1
    · cases h1
  | sbytes x' =>
    obtain ⟨s, t, x, hop, h1, h2, h3⟩ := chk_sbytes hc
    obtain ⟨d, hd, hd'⟩ := undB_spec h1
    cases d <;> simp only [dSl, Bool.false_eq_true] at hd'
    obtain ⟨d2, hd2, hd2'⟩ := undB_spec hd'
    cases d2 <;> simp only [dInt, Bool.false_eq_true] at hd2'
    have := kbeq_eq hd2'; subst this
    obtain ⟨d3, hd3, hd3'⟩ := undB_spec h2
    cases d3 <;> simp only [dStr, Bool.false_eq_true] at hd3'
    exact hgood (fun _ _ h => h) (sbytes_sound hR hE hop hd3 hd hd2 h3 hvc)
  | bstr x' =>
    obtain ⟨s, t, x, hop, h1, h2, h3⟩ := chk_bstr hc
    obtain ⟨d, hd, hd'⟩ := undB_spec h1
    cases d <;> simp only [dSl, Bool.false_eq_true] at hd'
    obtain ⟨d2, hd2, hd2'⟩ := undB_spec hd'
    cases d2 <;> simp only [dInt, Bool.false_eq_true] at hd2'
    have := kbeq_eq hd2'; subst this
    obtain ⟨d3, hd3, hd3'⟩ := undB_spec h2
    cases d3 <;> simp only [dStr, Bool.false_eq_true] at hd3'
    exact hgood (fun _ _ h => h) (bstr_sound hR hE hop hd hd2 hd3 h3 hvc)
  | frz x' =>
    obtain ⟨s, x, hop, h1, h3⟩ := chk_frz hc
    obtain ⟨d, hd, hd'⟩ := undB_spec h1
    cases d <;> simp only [dSl, Bool.false_eq_true] at hd'
    obtain ⟨d2, hd2, hd2'⟩ := undB_spec hd'
    cases d2 <;> simp only [dInt, Bool.false_eq_true] at hd2'
    have := kbeq_eq hd2'; subst this
    exact hgood (fun _ _ h => h) (frz_sound hR hE hop hd hd2 h3 hvc)
  | eqnS neg x' =>
    simp only [vcRun] at hvc
    by_cases hz : (match x'.ev e with | .nils => True | .sl _ _ _ cap => 0 < cap | .vsl _ _ cap _ => 0 < cap | _ => False)
    · refine hdet ?_
      simp only [evD]
      cases hxe : x'.ev e <;> rw [hxe] at hvc hz <;> (try exact hz.elim) <;> simp only at hvc hz
      · exact hvc
      · rw [blt_true hz] at hvc; simp only [condB] at hvc
        simp only [outIf, hz, decide_true, condB, updK]; exact hvc
      · rw [blt_true hz] at hvc; simp only [condB] at hvc
        simp only [outIf, hz, decide_true, condB, updK]; exact hvc
    · obtain ⟨op, t, x, y, t', hop, hcc⟩ : ∃ op t x y t', o.op = .binOp op t x y t' ∧ (bopB op neg && (undB P t (dSl fun _ => true) && (nilSide 0 x y x').isSome)) = true := by
        generalize o.op = q at hc
        cases q <;> (try (simp [chkOp] at hc; done))
        exact ⟨_, _, _, _, _, rfl, hc⟩
      simp only [Bool.and_eq_true] at hcc
      obtain ⟨h0, h1, h2⟩ := hcc
      have := bopB_spec h0; subst this
      obtain ⟨d, hd, hd'⟩ := undB_spec h1
      obtain ⟨sw, u, v, g1, g2, rfl, rfl⟩ := nilSide_spec h2
      cases d <;> simp only [dSl, Bool.false_eq_true] at hd'
      have hv : v = .const (.slice none 0 0) := by
        unfold isNilC at g2; split at g2 <;> first | rfl | simp at g2
      have hx := opn_rel hE g1
      have hboth : K (.bool neg) m ∧ K (.bool (!neg)) m := by
        generalize a.eval u = r at hx
        generalize x'.ev e = X at hx hvc hz
        cases hx <;> simp only at hvc hz <;> (try exact hvc.elim)
        · exact absurd trivial hz
        · rw [blt_false hz] at hvc; exact hvc trivial
        · rw [blt_false hz] at hvc; exact hvc trivial
        · rename_i h1 h2
          rw [blt_false hz] at hvc; exact hvc (by omega)
        · rw [blt_false hz] at hvc; exact hvc trivial
        · rename_i h1 h2 h3
          rw [blt_false hz] at hvc; exact hvc (by omega)
      have he := fun ad l c => eql_nil (P := P) w hd (r := .slice ad l c) (n := .slice none 0 0) (b := ad.isNone) (.inl ⟨_, rfl, rfl, _, _, _, rfl, rfl⟩)
      have hsl : ∃ ad l c, a.eval u = .slice ad l c := by
        generalize a.eval u = r at hx
        generalize x'.ev e = X at hx hvc
        cases hx <;> (try exact hvc.elim) <;> exact ⟨_, _, _, rfl⟩
      obtain ⟨ad, l, c, hra⟩ := hsl
      have hh := exec_eqn (P := P) w hop hv hra (he _ _ _) (.inl ⟨rfl, _, _, _, rfl⟩)
      refine hgood (K' := K) (fun _ _ h => h) ⟨.bool (bif neg then !ad.isNone else ad.isNone), m, _, w, L, .inl hh, ?_, hR, Ext.refl _ _ _, .bool _⟩
      cases neg <;> cases ad.isNone <;> first | exact hboth.1 | exact hboth.2
  | _ => exact hdet hvc

theorem ERel.refine {t : Nat} {v : AV} (hE : ERel C e m a w L) (hv : VR w.heap L (OO C m L) v (a.tmps.getD t undef)) : ERel C (e.set t v) m a w L := by
  intro s
  rcases Env.set_upd e t v s with h | ⟨h1, h2⟩ | ⟨h1, h2⟩
  · rw [h]; exact .un _
  · rw [h2]; exact hE s
  · rw [h2, h1]; exact hv

theorem tmps_get {t : Nat} {b : Bool} (hE : ERel C e m a w L) (h : e.get t = .bool b) : a.tmps[t]? = some (.bool b) := by
  have := hE t
  rw [h] at this
  generalize hv : a.tmps.getD t undef = v at this
  cases this
  rw [Array.getD_eq_getD_getElem?] at hv
  cases hq : a.tmps[t]? with
  | none => rw [hq] at hv; simp [undef] at hv
  | some q => rw [hq] at hv; simp at hv; rw [hv]

theorem putE_un {d : Option Nat} {v : AV} {s : Nat} {e : Env} (h : e.get s = .un) (hne : d ≠ some s) : (putE e d v).get s = .un := by
  cases d with
  | none => exact h
  | some d =>
    rcases Env.set_upd e d v s with h1 | ⟨h1, h2⟩ | ⟨h1, h2⟩
    · exact h1
    · exact h2.trans h
    · exact absurd (by rw [h1]) hne
theorem set_un {t s : Nat} {b b' : Bool} {e : Env} (hb : e.get t = .bool b) (h : e.get s = .un) : (e.set t (.bool b')).get s = .un := by
  rcases Env.set_upd e t (.bool b') s with h1 | ⟨h1, h2⟩ | ⟨h1, h2⟩
  · exact h1
  · exact h2.trans h
  · subst h1; rw [hb] at h; cases h

theorem op_sound (hrel : Rel C n e m a w L) {ops : Array Oper} {ao : AOpr} (hc : chkOpr P n ops o ao = true) {K : Env → Mem → Prop} (hvc : vcOp P ao e m K) {next : Act → World → Prop} {Q : Exit → Act → World → Prop}
    (hnext : ∀ e' m' r w' L', K e' m' → Rel C n e' m' (a.put o.dst r) w' L' → (∀ d, e.get d = .un → ao.dst ≠ some d → e'.get d = .un) → next (a.put o.dst r) w') :
    if Region.wanted o (yielded ops a.tmps) then o.wp P a w next Q else next (a.put o.dst undef) w := by
  obtain ⟨hn, hdf, hR, hE⟩ := hrel
  simp only [chkOpr, Bool.and_eq_true] at hc
  obtain ⟨hd, hg, hop⟩ := hc
  have hdst : o.dst = ao.dst ∧ ∀ d', ao.dst = some d' → d' < n := by
    unfold dstOk at hd
    split at hd
    · rename_i h1 h2; rw [h1, h2]; exact ⟨rfl, fun _ h => by cases h⟩
    · rename_i d d' h1 h2
      simp only [Bool.and_eq_true, beq_iff_eq, Nat.blt_eq] at hd
      obtain ⟨rfl, hlt⟩ := hd
      rw [h1, h2]
      exact ⟨rfl, fun _ h => by cases h; exact hlt⟩
    · cases hd
  obtain ⟨hde, hdlt⟩ := hdst
  have hrun : ∀ {e1 : Env}, (∀ d, e.get d = .un → e1.get d = .un) → ERel C e1 m a w L → vcRun P ao.op e1 m (fun v m => putK e1 ao.dst v fun e => K e m) → o.wp P a w next Q := by
    intro e1 hun hE h
    refine run_sound hR hE hop h (fun v m' r w' L' hk h1 h2 h3 => ?_)
    rw [putK_eq] at hk
    rw [hde]
    rw [← hde]
    exact hnext _ m' _ w' L' hk ⟨by rw [put_size]; exact hn, by rw [put_defers]; exact hdf, h1, by rw [hde]; exact h2.put hn hdlt h3⟩ (fun d hd hne => putE_un (hun d hd) hne)
  unfold vcOp at hvc
  unfold guardOk at hg
  split at hg
  · rename_i h1 h2
    rw [h2] at hvc
    simp only at hvc
    rw [if_pos (by simp [Region.wanted, h1])]
    exact hrun (fun _ h => h) hE hvc
  · rename_i j b t b' h1 h2
    rw [h2] at hvc
    simp only at hvc
    simp only [Bool.and_eq_true, beq_iff_eq] at hg
    obtain ⟨rfl, hg⟩ := hg
    split at hg
    · rename_i oj hoj
      split at hg
      · rename_i d hd
        have : d = t := by simpa using hg
        subst this
        split at hvc
        · rename_i bb hbb
          have hy : yielded ops a.tmps j = some bb := by
            simp [yielded, hoj, hd, tmps_get hE hbb]
          have hw : Region.wanted o (yielded ops a.tmps) = (bb == b) := by
            simp only [Region.wanted, h1, hy]
            cases bb <;> cases b <;> rfl
          have hval : a.tmps.getD d undef = .bool bb := by rw [Array.getD_eq_getD_getElem?, tmps_get hE hbb]; rfl
          rcases condB_split hvc with ⟨hb, hv⟩ | ⟨hb, hv⟩
          · rw [if_pos (by rw [hw]; exact hb)]
            rw [Env.setK_eq] at hv
            refine hrun (fun s hs => set_un hbb hs) (hE.refine ?_) hv
            rw [hval, beq_iff_eq.1 hb]; exact .bool _
          · rw [if_neg (by rw [hw, hb]; simp)]
            rw [Env.setK_eq, putK_eq] at hv
            have hE' : ERel C (e.set d (.bool (!b))) m a w L := hE.refine (by
              rw [hval]
              have : bb = !b := by cases bb <;> cases b <;> simp at hb ⊢
              rw [this]; exact .bool _)
            exact hnext _ m _ w L hv ⟨by rw [put_size]; exact hn, by rw [put_defers]; exact hdf, hR, by rw [hde]; exact hE'.put hn hdlt (.un _)⟩ (fun s hs hne => putE_un (set_un hbb hs) hne)
        · exact hvc.elim
      · cases hg
    · cases hg
  · cases hg

theorem ops_sound {ops : Array Oper} {Q : Exit → Act → World → Prop} : ∀ (l : List Oper) (al : List AOpr) {e : Env} {m : Mem} {a : Act} {w : World} {L : Lay} {K : Env → Mem → Prop}, chkOps P n ops l al = true → Rel C n e m a w L → vcOps P al e m K →
    (∀ e' m' a' w' L', K e' m' → Rel C n e' m' a' w' L' → Q .normal a' w') → wpList P ops Q l a w
  | [], [], e, m, a, w, L, K, _, hrel, hvc, hK => hK _ _ _ _ _ hvc hrel
  | [], _ :: _, _, _, _, _, _, _, hc, _, _, _ => by simp [chkOps] at hc
  | _ :: _, [], _, _, _, _, _, _, hc, _, _, _ => by simp [chkOps] at hc
  | o :: l, ao :: al, e, m, a, w, L, K, hc, hrel, hvc, hK => by
    simp only [chkOps, Bool.and_eq_true] at hc
    refine wpList_step (fun K' hK' => ?_)
    exact op_sound hrel hc.1 hvc (fun e' m' r w' L' hk hr _ => hK' _ _ (ops_sound l al hc.2 hr hk hK))

end
end Go.Wit
