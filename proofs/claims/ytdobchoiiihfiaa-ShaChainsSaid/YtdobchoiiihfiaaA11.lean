/- The closed test that an operation of the program is the told one, and that each told operation does what is told of it: all in one; no condition. -/
import Derived.Test.YtdobchoiiihfiaaA10
set_option linter.unusedVariables false
set_option linter.unusedSimpArgs false
namespace Go.Wit

def bpartsOk (es : Nat) : List (Nat × Operand) → List (Nat × Nat × Opn) → Bool
  | [], [] => true
  | (i, x) :: ps, (off, sz, y) :: qs => (off == i * es && sz == es) && (opnOk x y && bpartsOk es ps qs)
  | _, _ => false

theorem bpartsOk_spec (es : Nat) : ∀ (ps : List (Nat × Operand)) (qs : List (Nat × Nat × Opn)), bpartsOk es ps qs = true → ps.length = qs.length ∧
    ∀ (k : Nat) (p : Nat × Operand) (q : Nat × Nat × Opn), ps[k]? = some p → qs[k]? = some q → q.1 = p.1 * es ∧ q.2.1 = es ∧ opnOk p.2 q.2.2 = true
  | [], [], _ => ⟨rfl, fun k p q h => by simp at h⟩
  | [], q :: qs, h => by simp [bpartsOk] at h
  | p :: ps, [], h => by simp [bpartsOk] at h
  | (i, x) :: ps, (off, sz, y) :: qs, h => by
    simp only [bpartsOk, Bool.and_eq_true, beq_iff_eq] at h
    obtain ⟨⟨h1, h2⟩, h3, h4⟩ := h
    obtain ⟨r1, r2⟩ := bpartsOk_spec es ps qs h4
    refine ⟨by simp [r1], fun k p q hp hq => ?_⟩
    cases k with
    | zero =>
      simp at hp hq
      subst hp; subst hq
      exact ⟨h1, h2, h3⟩
    | succ k => exact r2 k p q (by simpa using hp) (by simpa using hq)

def opnsOk : List Operand → List Opn → Bool
  | [], [] => true
  | x :: xs, y :: ys => opnOk x y && opnsOk xs ys
  | _, _ => false

theorem opnsOk_spec : ∀ (ps : List Operand) (qs : List Opn), opnsOk ps qs = true → ps.length = qs.length ∧ ∀ (k : Nat) (p : Operand) (q : Opn), ps[k]? = some p → qs[k]? = some q → opnOk p q = true
  | [], [], _ => ⟨rfl, fun k p q h => by simp at h⟩
  | [], q :: qs, h => by simp [opnsOk] at h
  | p :: ps, [], h => by simp [opnsOk] at h
  | x :: ps, y :: qs, h => by
    simp only [opnsOk, Bool.and_eq_true] at h
    obtain ⟨h3, h4⟩ := h
    obtain ⟨r1, r2⟩ := opnsOk_spec ps qs h4
    refine ⟨by simp [r1], fun k p q hp hq => ?_⟩
    cases k with
    | zero =>
      simp at hp hq
      subst hp; subst hq
      exact h3
    | succ k => exact r2 k p q (by simpa using hp) (by simpa using hq)

def undB (P : Program) (t : Nat) (f : TypeDesc → Bool) : Bool :=
  match P.underlying t with
  | some d => f d
  | none => false

theorem undB_spec {P : Program} {t : Nat} {f : TypeDesc → Bool} (h : undB P t f = true) : ∃ d, P.underlying t = some d ∧ f d = true := by
  unfold undB at h
  split at h
  · exact ⟨_, by assumption, h⟩
  · cases h

def isT (d : TypeDesc) : Nat → Bool := fun _ => true

def dBool : TypeDesc → Bool | .bool => true | _ => false
def dInt (k : IntKind) : TypeDesc → Bool | .int k' => kbeq k k' | _ => false
def dStr : TypeDesc → Bool | .string => true | _ => false
def dSl (f : Nat → Bool) : TypeDesc → Bool | .slice e => f e | _ => false
def dArr (n : Nat) (f : Nat → Bool) : TypeDesc → Bool | .array k e => n == k && f e | _ => false
def dPtr : TypeDesc → Bool | .pointer _ => true | _ => false
def dIf : TypeDesc → Bool | .interface _ => true | _ => false
def dNotInt : TypeDesc → Bool | .int _ => false | _ => true

def bopB (op : BinOp) (neg : Bool) : Bool := decide (op = bif neg then BinOp.neq else BinOp.eql)

def isNilC (kind : Nat) : Operand → Bool
  | .const (.slice none 0 0) => kind == 0
  | .const (.pointer none) => kind == 1
  | .const .nilIface => kind == 2
  | _ => false

/-- One side is nil, the other one is told. -/
def nilSide (kind : Nat) (x y : Operand) (z : Opn) : Option Bool :=
  bif isNilC kind y && opnOk x z then some false else bif isNilC kind x && opnOk y z then some true else none

def fldB (P : Program) (s f off sz : Nat) (ag : Bool) : Bool :=
  match P.underlying s with
  | some (.struct fs) => match fs[f]? with
    | some fd => fd.offset == off && (aggB P fd.type == some ag && szB P fd.type sz)
    | none => false
  | _ => false

def bytesB (P : Program) (t bytes : Nat) : Bool :=
  match P.underlying t with
  | some (.slice el) => match P.info? el with
    | some i => i.bytes == bytes
    | none => false
  | _ => false

def appB (P : Program) (t es bytes : Nat) : Bool :=
  match P.underlying t with
  | some (.slice el) => match P.info? el with
    | some i => match i.zero with
      | some z => z.cells.size == es && (i.size == es && (i.bytes == bytes && decide (0 < es)))
      | none => false
    | none => false
  | _ => false

def kindsB (P : Program) (t : Nat) (ks : List LK) : Bool :=
  match kindsTy P 60 t with
  | some ks' => decide (ks' = ks)
  | none => false

def callB (c : Call) (b : Builtin) : Option (List Operand × List Nat) :=
  match c.callee with
  | .builtin b' => if b' = b then some (c.args.toList, c.argTypes.toList) else none
  | _ => none

def zeroVB (P : Program) (t : Nat) (z : AV) : Bool :=
  match P.info? t with
  | some i => match i.zero with
    | some v => cstOk z v
    | none => false
  | none => false

def chkOp (P : Program) (op : Op) (ao : AOp) : Bool :=
  match op, ao with
  | .move x, .mv y => opnOk x y
  | .assign x, .mv y => opnOk x y
  | .nilCheck x, .nck y => opnOk x y
  | .pick c a b, .pick c' a' b' => opnOk c c' && (opnOk a a' && opnOk b b')
  | .alloc t, .alloc es n zs => zeroB P t es n zs
  | .box t x, .box es n y => opnOk x y
  | .build t ps, .build zs qs => zerosB P t zs && (fieldsB P t && partsOk P t ps.toList qs)
  | .buildSlice t len ps, .bsl es len' zs qs => len == len' && (elemB P t es zs && (decide (len * es ≤ 16777216) && bpartsOk es ps.toList qs))
  | .load t x, .load sz ag y => decide (aggB P t = some ag) && (szB P t sz && opnOk x y)
  | .store t x v, .store sz y u => szB P t sz && (opnOk x y && opnOk v u)
  | .binOp op t x y _, .bin op' x' y' => decide (op = op') && (opnOk x x' && opnOk y y')
  | .binOp op t x y _, .eqb neg x' y' => bopB op neg && (undB P t dBool && (opnOk x x' && opnOk y y'))
  | .binOp op t x y _, .eqa ks neg x' y' => bopB op neg && (kindsB P t ks && (decide (aggB P t = some true) && (!P.eqGuardType P.depth t && (opnOk x x' && opnOk y y'))))
  | .binOp op t x y _, .eqnS neg z => bopB op neg && (undB P t (dSl fun _ => true) && (nilSide 0 x y z).isSome)
  | .binOp op t x y _, .eqnP neg z => bopB op neg && (undB P t dPtr && (nilSide 1 x y z).isSome)
  | .binOp op t x y _, .eqnI neg z => bopB op neg && (undB P t dIf && (nilSide 2 x y z).isSome)
  | .unOp op t x, .un op' y => decide (op = op') && opnOk x y
  | .convert s t x, .conv k y => undB P s (fun _ => true) && (undB P t (dInt k) && opnOk x y)
  | .convert s t x, .bstr y => undB P s (dSl fun e => undB P e (dInt .u8)) && (undB P t dStr && opnOk x y)
  | .convert s t x, .sbytes y => undB P t (dSl fun e => undB P e (dInt .u8)) && (undB P s dStr && opnOk x y)
  | .convert s t x, .frz y => s == t && (undB P s (dSl fun e => undB P e (dInt .u8)) && opnOk x y)
  | .sliceToArrayPointer t x, .arrp n es y => undB P t (dArr n fun _ => true) && opnOk x y
  | .slice t x lo hi mx, .slice es y lo' hi' mx' => undB P t (dSl fun e => szB P e es) && (opnOk x y && (optOk lo lo' && (optOk hi hi' && optOk mx mx')))
  | .slice t x lo hi mx, .sslice y lo' hi' => undB P t dStr && (opnOk x y && (optOk lo lo' && (optOk hi hi' && mx.isNone)))
  | .slice t x lo hi mx, .slarr n es y lo' hi' mx' => undB P t (dArr n fun e => szB P e es) && (opnOk x y && (optOk lo lo' && (optOk hi hi' && optOk mx mx')))
  | .fieldAddr s x f, .fldA off y => fieldB P s f off && opnOk x y
  | .field s x f, .fld off sz ag y => fldB P s f off sz ag && opnOk x y
  | .indexAddr t x i, .idxA es x' i' => undB P t (dSl fun e => szB P e es) && (opnOk x x' && opnOk i i')
  | .indexAddr t x i, .idxP n es x' i' => undB P t (dArr n fun e => szB P e es) && (opnOk x x' && opnOk i i')
  | .index t x i, .idx n es ag x' i' => undB P t (dArr n fun e => szB P e es && decide (aggB P e = some ag)) && (opnOk x x' && opnOk i i')
  | .index t x i, .idxs x' i' => undB P t dStr && (opnOk x x' && opnOk i i')
  | .extract x i, .ext y j => i == j && opnOk x y
  | .makeInterface t x, .mkif t' y => t == t' && (undB P t (fun d => !dIf d) && opnOk x y)
  | .typeAssert x xt t ok, .tas y t' ok' z => t == t' && (ok == ok' && (undB P t (fun d => !dIf d) && (zeroVB P t z && opnOk x y)))
  | .makeFunc (.func f) fst caps, .mkfn f' caps' => f == f' && (fst.size == 0 && opnsOk caps.toList caps')
  | .makeSlice t l c, .mksl es bytes zs l' c' => elemB P t es zs && (bytesB P t bytes && (opnOk l l' && opnOk c c'))
  | .call c, .len y => match callB c .len with
    | some ([x], [t]) => undB P t (dSl fun _ => true) && opnOk x y
    | _ => false
  | .call c, .lens y => match callB c .len with
    | some ([x], [t]) => undB P t dStr && opnOk x y
    | _ => false
  | .call c, .lena n => match callB c .len with
    | some ([x], [t]) => undB P t (dArr n fun _ => true)
    | _ => false
  | .call c, .copy es x' y' => match callB c .copy with
    | some ([x, y], [t, _]) => undB P t (dSl fun e => szB P e es) && (opnOk x x' && opnOk y y')
    | _ => false
  | .call c, .app es bytes x' y' => match callB c .append with
    | some ([x, y], [t, u]) => appB P t es bytes && (undB P u dNotInt && (opnOk x x' && opnOk y y'))
    | _ => false
  | .call c, .call f args => match c.callee with
    | .value g => opnOk g f && opnsOk c.args.toList args
    | _ => false
  | _, _ => false

theorem callB_spec {c : Call} {b : Builtin} {xs : List Operand} {ts : List Nat} (h : callB c b = some (xs, ts)) : c = { callee := .builtin b, args := xs.toArray, argTypes := ts.toArray } := by
  obtain ⟨callee, args, argTypes⟩ := c
  unfold callB at h
  simp only at h
  split at h
  · rename_i b'
    split at h
    · rename_i hb
      simp only [Option.some.injEq, Prod.mk.injEq] at h
      obtain ⟨rfl, rfl⟩ := h
      subst hb
      simp
    · cases h
  · cases h

theorem nilSide_spec {kind : Nat} {x y : Operand} {z : Opn} (h : (nilSide kind x y z).isSome = true) : ∃ sw u v, opnOk u z = true ∧ isNilC kind v = true ∧ x = (bif sw then v else u) ∧ y = (bif sw then u else v) := by
  unfold nilSide at h
  cases h1 : (isNilC kind y && opnOk x z) with
  | true =>
    simp only [Bool.and_eq_true] at h1
    exact ⟨false, x, y, h1.2, h1.1, rfl, rfl⟩
  | false =>
    cases h2 : (isNilC kind x && opnOk y z) with
    | true =>
      simp only [Bool.and_eq_true] at h2
      exact ⟨true, y, x, h2.2, h2.1, rfl, rfl⟩
    | false => simp [h1, h2] at h

section
variable {P : Program} {C : Ctx} {m : Mem} {w : World} {L : Lay} {e : Env} {a : Act} {o : Oper}

theorem bopB_spec {op : BinOp} {neg : Bool} (h : bopB op neg = true) : op = bif neg then BinOp.neq else BinOp.eql := by simpa [bopB] using h

theorem opD_sound (hR : MRel C m w L) (hE : ERel C e m a w L) {ao : AOp} (hc : chkOp P o.op ao = true) {out : Out} (hev : evD ao e m = some out) (hok : out.ok = true) : Good P C m w L o a out := by
  generalize hop : o.op = op at hc
  unfold chkOp at hc
  split at hc
  · exact (by simp only [evD, Wit.out, Option.some.injEq] at hev; subst hev; exact g_mv hR hE (.inl hop) hc)
  · exact (by simp only [evD, Wit.out, Option.some.injEq] at hev; subst hev; exact g_mv hR hE (.inr hop) hc)
  · exact g_nck hR hE hop hc hev
  · simp only [Bool.and_eq_true] at hc; exact g_pick hR hE hop hc.1 hc.2.1 hc.2.2 hev
  · exact g_alloc hR hop hc hev
  · exact g_box hR hE hop hc hev
  · simp only [Bool.and_eq_true] at hc; exact g_build hR hE hop hc.1 hc.2.1 hc.2.2 hev
  · simp only [Bool.and_eq_true, beq_iff_eq, decide_eq_true_eq] at hc
    obtain ⟨rfl, h1, h2, h3⟩ := hc
    have := bpartsOk_spec _ _ _ h3
    exact g_bsl hR hE hop h1 h2 ⟨by simpa using this.1, this.2⟩ hev
  · simp only [Bool.and_eq_true, decide_eq_true_eq] at hc; exact g_load hR hE hop hc.1 hc.2.1 hc.2.2 hev hok
  · simp only [Bool.and_eq_true] at hc; exact g_store hR hE hop hc.1 hc.2.1 hc.2.2 hev hok
  · simp only [Bool.and_eq_true, decide_eq_true_eq] at hc
    obtain ⟨rfl, h1, h2⟩ := hc
    exact g_bin hR hE hop h1 h2 hev hok
  · simp only [Bool.and_eq_true] at hc
    obtain ⟨h0, h1, h2, h3⟩ := hc
    obtain ⟨d, hd, hd'⟩ := undB_spec h1
    have : d = .bool := by cases d <;> simp [dBool] at hd' <;> rfl
    subst this
    have := bopB_spec h0; subst this
    exact g_eqb hR hE hop hd h2 h3 hev
  · simp only [Bool.and_eq_true, decide_eq_true_eq, Bool.not_eq_true'] at hc
    obtain ⟨h0, h1, h2, h3, h4, h5⟩ := hc
    have := bopB_spec h0; subst this
    unfold kindsB at h1
    split at h1
    · rename_i ks' hk
      have := of_decide_eq_true h1
      subst this
      exact g_eqa hR hE hop hk h2 h3 h4 h5 hev
    · cases h1
  · simp only [Bool.and_eq_true] at hc
    obtain ⟨h0, h1, h2⟩ := hc
    have := bopB_spec h0; subst this
    obtain ⟨d, hd, hd'⟩ := undB_spec h1
    obtain ⟨sw, u, v, g1, g2, rfl, rfl⟩ := nilSide_spec h2
    cases d <;> simp only [dSl, Bool.false_eq_true] at hd'
    have hv : v = .const (.slice none 0 0) := by
      unfold isNilC at g2; split at g2 <;> first | rfl | simp at g2
    exact g_eqnS hR hE hop hd hv g1 hev hok
  · simp only [Bool.and_eq_true] at hc
    obtain ⟨h0, h1, h2⟩ := hc
    have := bopB_spec h0; subst this
    obtain ⟨d, hd, hd'⟩ := undB_spec h1
    obtain ⟨sw, u, v, g1, g2, rfl, rfl⟩ := nilSide_spec h2
    cases d <;> simp only [dPtr, Bool.false_eq_true] at hd'
    have hv : v = .const (.pointer none) := by
      unfold isNilC at g2; split at g2 <;> first | rfl | simp at g2
    exact g_eqnP hR hE hop hd hv g1 hev
  · simp only [Bool.and_eq_true] at hc
    obtain ⟨h0, h1, h2⟩ := hc
    have := bopB_spec h0; subst this
    obtain ⟨d, hd, hd'⟩ := undB_spec h1
    obtain ⟨sw, u, v, g1, g2, rfl, rfl⟩ := nilSide_spec h2
    cases d <;> simp only [dIf, Bool.false_eq_true] at hd'
    have hv : v = .const .nilIface := by
      unfold isNilC at g2; split at g2 <;> first | rfl | simp at g2
    exact g_eqnI hR hE hop hd hv g1 hev
  · simp only [Bool.and_eq_true, decide_eq_true_eq] at hc
    obtain ⟨rfl, h1⟩ := hc
    exact g_un hR hE hop h1 hev
  · simp only [Bool.and_eq_true] at hc
    obtain ⟨h0, h1, h2⟩ := hc
    obtain ⟨d, hd, hd'⟩ := undB_spec h1
    obtain ⟨d2, hd2, _⟩ := undB_spec h0
    cases d <;> simp only [dInt, Bool.false_eq_true] at hd'
    have := kbeq_eq hd'; subst this
    exact g_conv hR hE hop hd2 hd h2 hev
  · simp [evD] at hev
  · simp [evD] at hev
  · simp [evD] at hev
  · simp only [Bool.and_eq_true] at hc
    obtain ⟨d, hd, hd'⟩ := undB_spec hc.1
    cases d <;> simp only [dArr, Bool.false_eq_true, Bool.and_eq_true, beq_iff_eq] at hd'
    obtain ⟨rfl, _⟩ := hd'
    exact g_arrp hR hE hop hd hc.2 hev hok
  · simp only [Bool.and_eq_true] at hc
    obtain ⟨d, hd, hd'⟩ := undB_spec hc.1
    cases d <;> simp only [dSl, Bool.false_eq_true] at hd'
    exact g_slice hR hE hop hd hd' hc.2.1 hc.2.2.1 hc.2.2.2.1 hc.2.2.2.2 hev hok
  · simp only [Bool.and_eq_true, Option.isNone_iff_eq_none] at hc
    obtain ⟨h0, h1, h2, h3, rfl⟩ := hc
    obtain ⟨d, hd, hd'⟩ := undB_spec h0
    cases d <;> simp only [dStr, Bool.false_eq_true] at hd'
    exact g_slices hR hE hop hd h1 h2 h3 hev hok
  · simp only [Bool.and_eq_true] at hc
    obtain ⟨d, hd, hd'⟩ := undB_spec hc.1
    cases d <;> simp only [dArr, Bool.false_eq_true, Bool.and_eq_true, beq_iff_eq] at hd'
    obtain ⟨rfl, hd'⟩ := hd'
    exact g_slarr hR hE hop hd hd' hc.2.1 hc.2.2.1 hc.2.2.2.1 hc.2.2.2.2 hev hok
  · simp only [Bool.and_eq_true] at hc
    exact g_fldA hR hE hop hc.1 hc.2 hev
  · simp only [Bool.and_eq_true] at hc
    obtain ⟨h0, h1⟩ := hc
    unfold fldB at h0
    split at h0
    · rename_i fs hu
      split at h0
      · rename_i fd hfd
        simp only [Bool.and_eq_true, beq_iff_eq] at h0
        exact g_fld hR hE hop hu hfd h0.1 h0.2.1 h0.2.2 h1 hev hok
      · cases h0
    · cases h0
  · simp only [Bool.and_eq_true] at hc
    obtain ⟨d, hd, hd'⟩ := undB_spec hc.1
    cases d <;> simp only [dSl, Bool.false_eq_true] at hd'
    exact g_idxA hR hE hop hd hd' hc.2.1 hc.2.2 hev hok
  · simp only [Bool.and_eq_true] at hc
    obtain ⟨d, hd, hd'⟩ := undB_spec hc.1
    cases d <;> simp only [dArr, Bool.false_eq_true, Bool.and_eq_true, beq_iff_eq] at hd'
    obtain ⟨rfl, hd'⟩ := hd'
    exact g_idxP hR hE hop hd hd' hc.2.1 hc.2.2 hev hok
  · simp only [Bool.and_eq_true] at hc
    obtain ⟨d, hd, hd'⟩ := undB_spec hc.1
    cases d <;> simp only [dArr, Bool.false_eq_true, Bool.and_eq_true, beq_iff_eq, decide_eq_true_eq] at hd'
    obtain ⟨rfl, h1, h2⟩ := hd'
    exact g_idx hR hE hop hd h2 h1 hc.2.1 hc.2.2 hev hok
  · simp only [Bool.and_eq_true] at hc
    obtain ⟨d, hd, hd'⟩ := undB_spec hc.1
    cases d <;> simp only [dStr, Bool.false_eq_true] at hd'
    exact g_idxs hR hE hop hd hc.2.1 hc.2.2 hev hok
  · simp only [Bool.and_eq_true, beq_iff_eq] at hc
    obtain ⟨rfl, h1⟩ := hc
    exact g_ext hR hE hop h1 hev
  · simp only [Bool.and_eq_true, beq_iff_eq] at hc
    obtain ⟨rfl, h1, h2⟩ := hc
    obtain ⟨d, hd, hd'⟩ := undB_spec h1
    exact g_mkif hR hE hop hd (by rintro ms rfl; simp [dIf] at hd') h2 hev
  · simp only [Bool.and_eq_true, beq_iff_eq] at hc
    obtain ⟨rfl, rfl, h1, h2, h3⟩ := hc
    obtain ⟨d, hd, hd'⟩ := undB_spec h1
    unfold zeroVB at h2
    split at h2
    · rename_i i hi
      split at h2
      · rename_i v hv
        exact g_tas (zv := v) hR hE hop hd (by rintro ms rfl; simp [dIf] at hd') (fun _ => ⟨by simp [zeroValue, typeInfo, hi, hv], h2⟩) h3 hev
      · cases h2
    · cases h2
  · simp only [Bool.and_eq_true, beq_iff_eq] at hc
    obtain ⟨rfl, h1, h2⟩ := hc
    rename_i fst caps caps'
    obtain rfl : fst = #[] := by simpa using h1
    have := opnsOk_spec _ _ h2
    exact g_mkfn hR hE hop (by simpa using this.1) (fun k x y hx hy => this.2 k x y (by simpa using hx) hy) hev
  · simp only [Bool.and_eq_true] at hc
    obtain ⟨h0, h1, h2, h3⟩ := hc
    refine g_mksl hR hE hop h0 (fun el i hu hi => ?_) h2 h3 hev hok
    unfold bytesB at h1
    rw [hu] at h1
    simp only [hi, beq_iff_eq] at h1
    exact h1
  · split at hc
    · rename_i x t hcb
      simp only [Bool.and_eq_true] at hc
      obtain ⟨d, hd, hd'⟩ := undB_spec hc.1
      cases d <;> simp only [dSl, Bool.false_eq_true] at hd'
      rw [callB_spec hcb] at hop
      exact g_len hR hE hop hd hc.2 hev
    · cases hc
  · split at hc
    · rename_i x t hcb
      simp only [Bool.and_eq_true] at hc
      obtain ⟨d, hd, hd'⟩ := undB_spec hc.1
      cases d <;> simp only [dStr, Bool.false_eq_true] at hd'
      rw [callB_spec hcb] at hop
      exact g_lens hR hE hop hd hc.2 hev
    · cases hc
  · split at hc
    · rename_i x t hcb
      obtain ⟨d, hd, hd'⟩ := undB_spec hc
      cases d <;> simp only [dArr, Bool.false_eq_true, Bool.and_eq_true, beq_iff_eq] at hd'
      obtain ⟨rfl, _⟩ := hd'
      rw [callB_spec hcb] at hop
      exact g_lena hR hE hop hd hev
    · cases hc
  · split at hc
    · rename_i x y t u hcb
      simp only [Bool.and_eq_true] at hc
      obtain ⟨d, hd, hd'⟩ := undB_spec hc.1
      cases d <;> simp only [dSl, Bool.false_eq_true] at hd'
      rw [callB_spec hcb] at hop
      exact g_copy hR hE hop hd hd' hc.2.1 hc.2.2 hev hok
    · cases hc
  · simp [evD] at hev
  · simp [evD] at hev
  · cases hc

end
end Go.Wit
