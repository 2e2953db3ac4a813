/- Each told operation does what is told of it (second part: operations that make no new memory); no condition. -/
import Derived.Test.YtdobchoiiihfiaaA3
set_option linter.unusedVariables false
set_option linter.unusedSimpArgs false
namespace Go.Wit

def opnOk : Operand → Opn → Bool
  | .tmp t, .t n => t == n
  | .const v, .c a => cstOk a v
  | .func f, .c (.fn g []) => f == g
  | _, _ => false

def szB (P : Program) (t n : Nat) : Bool := (P.info? t).map (·.size) == some n
def aggB (P : Program) (t : Nat) : Option Bool := (P.underlying t).map fun d => match d with | .struct _ | .array _ _ => true | _ => false

def Good (P : Program) (C : Ctx) (m : Mem) (w : World) (L : Lay) (o : Oper) (a : Act) (x : Out) : Prop :=
  ∃ r w' L', ((execOp a.eval o).run P w = .ok (.value r) w' ∨ ((execOp a.eval o).run P w = .ok .skip w' ∧ r = undef)) ∧ MRel C (m.upd x.u) w' L' ∧
    Ext w.heap L (OO C m L) w'.heap L' (OO C (m.upd x.u) L') ∧ VR w'.heap L' (OO C (m.upd x.u) L') x.v r ∧ (x.u = none → w' = w ∧ L' = L ∧ (execOp a.eval o).run P w = .ok (.value r) w)

section
variable {P : Program} {C : Ctx} {m : Mem} {w : World} {L : Lay} {e : Env} {a : Act} {o : Oper}

theorem opn_rel (hE : ERel C e m a w L) {x : Operand} {y : Opn} (h : opnOk x y = true) : VR w.heap L (OO C m L) (y.ev e) (a.eval x) := by
  cases x with
  | tmp t =>
    cases y with
    | t n => simp [opnOk] at h; subst h; exact hE t
    | c v => simp [opnOk] at h
  | const v =>
    cases y with
    | t n => simp [opnOk] at h
    | c u => exact cstOk_sound u v (by simpa [opnOk] using h)
  | global g => cases y <;> simp [opnOk] at h
  | func f =>
    cases y with
    | t n => simp [opnOk] at h
    | c u =>
      cases u <;> simp [opnOk] at h
      rename_i g caps
      cases caps <;> simp [opnOk] at h
      subst h
      exact .fn _ _ _ .nil

theorem good_pure (hR : MRel C m w L) {r : Value} {v : AV} (hr : (execOp a.eval o).run P w = .ok (.value r) w) (hv : VR w.heap L (OO C m L) v r) : Good P C m w L o a ⟨true, v, none⟩ :=
  ⟨r, w, L, .inl hr, hR, Ext.refl _ _ _, hv, fun _ => ⟨rfl, rfl, hr⟩⟩

theorem g_mv (hR : MRel C m w L) (hE : ERel C e m a w L) {x : Operand} {y : Opn} (ho : o.op = .move x ∨ o.op = .assign x) (h : opnOk x y = true) : Good P C m w L o a ⟨true, y.ev e, none⟩ :=
  good_pure hR (r := a.eval x) (by rcases ho with ho | ho <;> simp [execOp, ho]) (opn_rel hE h)

theorem g_nck (hR : MRel C m w L) (hE : ERel C e m a w L) {x : Operand} {y : Opn} (ho : o.op = .nilCheck x) (h : opnOk x y = true) {out : Out} (hev : evD (.nck y) e m = some out) : Good P C m w L o a out := by
  have hx := opn_rel hE h
  simp only [evD] at hev
  generalize y.ev e = v at hx hev
  generalize hr : a.eval x = r at hx
  have hrun : (execOp a.eval o).run P w = .ok (.value r) w := by
    cases hx <;> simp at hev <;> simp [execOp, ho, hr]
  cases hx <;> simp [Wit.out] at hev <;> subst hev
  · exact good_pure hR hrun (.ptr _ _ _ _ (by assumption))
  · exact good_pure hR hrun (.vptr _ _ _ _ _ _ (by assumption) (by assumption))
  · exact good_pure hR hrun (.ifc _ _ _ (by assumption))

theorem g_pick (hR : MRel C m w L) (hE : ERel C e m a w L) {c x y : Operand} {c' x' y' : Opn} (ho : o.op = .pick c x y) (hc : opnOk c c' = true) (hx : opnOk x x' = true) (hy : opnOk y y' = true) {out : Out} (hev : evD (.pick c' x' y') e m = some out) : Good P C m w L o a out := by
  have hc := opn_rel hE hc
  have hx := opn_rel hE hx
  have hy := opn_rel hE hy
  simp only [evD] at hev
  generalize c'.ev e = v at hc hev
  generalize hr : a.eval c = r at hc
  cases hc <;> simp [Wit.out] at hev
  rename_i b
  subst hev
  refine good_pure hR (r := if b then a.eval x else a.eval y) ?_ ?_
  · simp [execOp, ho, hr, asBool]
  · cases b <;> simp [hx, hy]

theorem k_ne {k k' : IntKind} (h : kbeq k k' = true) : k = k' := kbeq_eq h

theorem eqGuard_plain (w : World) (op : BinOp) (t : TypeId) (x y : Operand) (u v : Value) (hu : ∀ c, u ≠ .agg c) (hu' : u ≠ .nilIface) : (eqGuard op t x y u v).run P w = .ok () w := by
  cases u with
  | agg c => exact absurd rfl (hu c)
  | nilIface => exact absurd rfl hu'
  | _ => cases op <;> rfl

theorem run_intBits (w : World) (op : BinOp) (k : IntKind) (a b : Int) (_u : Unit := ()) (h : op = .and ∨ op = .or ∨ op = .xor ∨ op = .andNot) : (Op.intBits op k a b).run P w = .ok (.int k (bitsV op k a b)) w := by
  rcases h with rfl | rfl | rfl | rfl <;> rfl

theorem binV_ok {op : BinOp} {t : TypeId} {x y : AV} {u v : Value} {h : Array Obj} {O : Nat → Prop} (hx : VR h L O x u) (hy : VR h L O y v) {out : Out} (hev : binV op x y = some out) (hok : out.ok = true) :
    ∃ r, (binOp op t u v).run P w = .ok r w ∧ VR h L O out.v r ∧ out.u = none ∧ (∀ c, u ≠ .agg c) ∧ u ≠ .nilIface := by
  cases hx <;> cases hy <;> (try (simp [binV] at hev; done))
  case int.int k a k' b =>
    simp only [binV] at hev
    cases op <;> simp only [outIf, Option.some.injEq] at hev <;> subst hev <;> simp only [Bool.and_eq_true, decide_eq_true_eq, Bool.not_eq_true'] at hok
    case shl => exact ⟨_, by simp [binOp, Op.shift, show ¬ b < 0 from by omega], .int _ _, rfl, by simp, by simp⟩
    case shr => exact ⟨_, by simp [binOp, Op.shift, show ¬ b < 0 from by omega], .int _ _, rfl, by simp, by simp⟩
    case quo =>
      have hk := kbeq_eq hok.1; subst hk
      have hb : ¬ b = 0 := by simpa using hok.2
      exact ⟨_, by simp [binOp, Op.intDiv, hb], .int _ _, rfl, by simp, by simp⟩
    case rem =>
      have hk := kbeq_eq hok.1; subst hk
      have hb : ¬ b = 0 := by simpa using hok.2
      exact ⟨_, by simp [binOp, Op.intDiv, hb], .int _ _, rfl, by simp, by simp⟩
    case add => have hk := kbeq_eq hok; subst hk; exact ⟨_, by simp [binOp, Op.intArith], .int _ _, rfl, by simp, by simp⟩
    case sub => have hk := kbeq_eq hok; subst hk; exact ⟨_, by simp [binOp, Op.intArith], .int _ _, rfl, by simp, by simp⟩
    case mul => have hk := kbeq_eq hok; subst hk; exact ⟨_, by simp [binOp, Op.intArith], .int _ _, rfl, by simp, by simp⟩
    case and => have hk := kbeq_eq hok; subst hk; exact ⟨.int k (bitsV .and k a b), by simpa [binOp] using run_intBits (P := P) w .and k a b () (by simp), .int _ _, rfl, by simp, by simp⟩
    case or => have hk := kbeq_eq hok; subst hk; exact ⟨.int k (bitsV .or k a b), by simpa [binOp] using run_intBits (P := P) w .or k a b () (by simp), .int _ _, rfl, by simp, by simp⟩
    case xor => have hk := kbeq_eq hok; subst hk; exact ⟨.int k (bitsV .xor k a b), by simpa [binOp] using run_intBits (P := P) w .xor k a b () (by simp), .int _ _, rfl, by simp, by simp⟩
    case andNot => have hk := kbeq_eq hok; subst hk; exact ⟨.int k (bitsV .andNot k a b), by simpa [binOp] using run_intBits (P := P) w .andNot k a b () (by simp), .int _ _, rfl, by simp, by simp⟩
    case eql => have hk := kbeq_eq hok; subst hk; exact ⟨_, by simp [binOp, Op.intCmp], .bool _, rfl, by simp, by simp⟩
    case neq => have hk := kbeq_eq hok; subst hk; exact ⟨_, by simp [binOp, Op.intCmp], .bool _, rfl, by simp, by simp⟩
    case lss => have hk := kbeq_eq hok; subst hk; exact ⟨_, by simp [binOp, Op.intCmp], .bool _, rfl, by simp, by simp⟩
    case leq => have hk := kbeq_eq hok; subst hk; exact ⟨_, by simp [binOp, Op.intCmp], .bool _, rfl, by simp, by simp⟩
    case gtr => have hk := kbeq_eq hok; subst hk; exact ⟨_, by simp [binOp, Op.intCmp], .bool _, rfl, by simp, by simp⟩
    case geq => have hk := kbeq_eq hok; subst hk; exact ⟨_, by simp [binOp, Op.intCmp], .bool _, rfl, by simp, by simp⟩
  case str.str a b =>
    cases op <;> simp [binV, Wit.out] at hev <;> subst hev
    · exact ⟨_, by simp [binOp, Op.stringOp], .bool _, rfl, by simp, by simp⟩
    · exact ⟨_, by simp [binOp, Op.stringOp], .bool _, rfl, by simp, by simp⟩

theorem run_equal_bool (w : World) {t : TypeId} (ht : P.underlying t = some .bool) (b c : Bool) : (Op.equal t (.bool b) (.bool c)).run P w = .ok (b == c) w := by
  unfold Op.equal
  show (Op.equalIn (9999 + 1) t (.bool b) (.bool c)).run P w = _
  rw [Op.equalIn]
  simp only [Sem.run_bind, run_underlying ht, Result.andThen_ok, Sem.run_pure]

theorem g_eqb (hR : MRel C m w L) (hE : ERel C e m a w L) {neg : Bool} {t t' : TypeId} {x y : Operand} {x' y' : Opn} (ho : o.op = .binOp (bif neg then .neq else .eql) t x y t') (ht : P.underlying t = some .bool) (hx : opnOk x x' = true) (hy : opnOk y y' = true) {out : Out} (hev : evD (.eqb neg x' y') e m = some out) : Good P C m w L o a out := by
  have hx := opn_rel hE hx
  have hy := opn_rel hE hy
  simp only [evD] at hev
  generalize x'.ev e = u at hx hev
  generalize y'.ev e = v at hy hev
  generalize hra : a.eval x = r at hx
  generalize hrb : a.eval y = s at hy
  cases hx <;> cases hy <;> simp [Wit.out] at hev
  rename_i b c
  subst hev
  refine good_pure hR (r := .bool (bif neg then !(b == c) else b == c)) ?_ (.bool _)
  have hg : ∀ op, (eqGuard op t x y (.bool b) (.bool c)).run P w = .ok () w := fun op => eqGuard_plain w op t x y _ _ (by simp) (by simp)
  have he := run_equal_bool (P := P) w ht b c
  cases neg
  · simp only [cond_false] at ho
    simp [execOp, ho, hra, hrb, hg, binOp, he]
  · simp only [cond_true] at ho
    simp [execOp, ho, hra, hrb, hg, binOp, he]

theorem g_bin (hR : MRel C m w L) (hE : ERel C e m a w L) {op : BinOp} {t t' : TypeId} {x y : Operand} {x' y' : Opn} (ho : o.op = .binOp op t x y t') (hx : opnOk x x' = true) (hy : opnOk y y' = true) {out : Out} (hev : evD (.bin op x' y') e m = some out) (hok : out.ok = true) : Good P C m w L o a out := by
  have hx := opn_rel hE hx
  have hy := opn_rel hE hy
  simp only [evD] at hev
  obtain ⟨r, h1, h2, h3, h4, h5⟩ := binV_ok (P := P) (w := w) (t := t) hx hy hev hok
  have hrun : (execOp a.eval o).run P w = .ok (.value r) w := by
    have := eqGuard_plain (P := P) w op t x y _ (a.eval y) h4 h5
    simp [execOp, ho, this, h1]
  refine ⟨r, w, L, .inl hrun, ?_, ?_, ?_, fun _ => ⟨rfl, rfl, hrun⟩⟩
  · rw [h3]; exact hR
  · rw [h3]; exact Ext.refl _ _ _
  · rw [h3]; exact h2


theorem g_un (hR : MRel C m w L) (hE : ERel C e m a w L) {op : UnOp} {t : TypeId} {x : Operand} {x' : Opn} (ho : o.op = .unOp op t x) (hx : opnOk x x' = true) {out : Out} (hev : evD (.un op x') e m = some out) : Good P C m w L o a out := by
  have hx := opn_rel hE hx
  simp only [evD] at hev
  generalize x'.ev e = u at hx hev
  generalize hra : a.eval x = r at hx
  cases hx <;> (try (simp [unV] at hev; done))
  case int k n =>
    cases op <;> simp only [unV, Wit.out, Option.some.injEq, reduceCtorEq] at hev <;> subst hev
    · exact good_pure hR (r := .int k (k.wrap (0 - n))) (by simp [execOp, ho, hra, Op.unary, Op.intArith]) (.int _ _)
    · refine good_pure hR (r := .int k (bitsV .xor k (if k.signed then -1 else k.max) n)) ?_ (.int _ _)
      have := run_intBits (P := P) w .xor k (if k.signed then -1 else k.max) n () (by simp)
      simp [execOp, ho, hra, Op.unary, this]
  case bool b =>
    cases op <;> simp [unV, Wit.out] at hev <;> subst hev
    exact good_pure hR (r := .bool (!b)) (by simp [execOp, ho, hra, Op.unary]) (.bool _)

theorem g_conv (hR : MRel C m w L) (hE : ERel C e m a w L) {k : IntKind} {s t : TypeId} {ds : TypeDesc} {x : Operand} {x' : Opn} (ho : o.op = .convert s t x) (hs : P.underlying s = some ds) (ht : P.underlying t = some (.int k)) (hx : opnOk x x' = true) {out : Out} (hev : evD (.conv k x') e m = some out) : Good P C m w L o a out := by
  have hx := opn_rel hE hx
  simp only [evD] at hev
  generalize x'.ev e = u at hx hev
  generalize hra : a.eval x = r at hx
  cases hx <;> simp [Wit.out] at hev
  rename_i k' n
  subst hev
  refine good_pure hR (r := .int k (k.wrap n)) ?_ (.int _ _)
  simp [execOp, ho, hra, convert, run_underlying hs, run_underlying ht, Conv.intToInt]

/-- A cell of an owned block, by its place. -/
theorem MRel.cellG (hR : MRel C m w L) {l : Nat} {blk : Blk} (hl : m[l]? = some (some blk)) {e : LE} (hL : L l = some e) {i j t : Nat} (h : roomG blk i j (t + 1) = true) :
    ∃ v, w.cell? ⟨e.b, i * e.es + (j + t), none⟩ = some v ∧ VR w.heap L (OO C m L) (cellG blk i j t) v := by
  obtain ⟨e0, g1, g2, g5, g0⟩ := hR.blk l blk hl
  rw [hL] at g1; obtain rfl := Option.some.inj g1
  have key : ∀ i' j', i' < blk.n → j' < blk.es → i' * blk.es + j' = i * blk.es + (j + t) → ∃ v, w.cell? ⟨e.b, i * e.es + (j + t), none⟩ = some v ∧ VR w.heap L (OO C m L) (blk.get i' j') v := by
    intro i' j' hi hj he
    obtain ⟨c, T, g3, g4, g6, g7⟩ := g0 (by omega)
    obtain ⟨v, h1, h2, _⟩ := g7 i' j' hi hj
    refine ⟨v, ?_, h2⟩
    rw [cell_of_row w _ _ _ _ _ g3, g2, ← he]; exact h1
  unfold roomG at h
  unfold Wit.cellG
  by_cases hb : j + t < blk.es
  · have hb' : Nat.blt (j + t) blk.es = true := by simpa [Nat.blt_eq] using hb
    rw [hb', cond_true]
    have : i < blk.n := by
      cases hbl : Nat.ble (j + (t + 1)) blk.es with
      | true => rw [hbl] at h; simpa using h
      | false =>
        have : ¬ (j + (t + 1) ≤ blk.es) := by intro hh; rw [Nat.ble_eq_true_of_le hh] at hbl; cases hbl
        omega
    exact key i (j + t) this hb rfl
  · have hb' : Nat.blt (j + t) blk.es = false := by
      cases hq : Nat.blt (j + t) blk.es with
      | false => rfl
      | true => exact absurd (by simpa [Nat.blt_eq] using hq) hb
    rw [hb', cond_false]
    have hbl : Nat.ble (j + (t + 1)) blk.es = false := by
      cases hq : Nat.ble (j + (t + 1)) blk.es with
      | false => rfl
      | true => have := Nat.le_of_ble_eq_true hq; omega
    rw [hbl, cond_false] at h
    simp only [Bool.and_eq_true, decide_eq_true_eq, Nat.blt_eq] at h
    obtain ⟨h0, h1⟩ := h
    have hd : (j + t) / blk.es * blk.es + (j + t) % blk.es = j + t := by rw [Nat.mul_comm]; exact Nat.div_add_mod _ _
    refine key (i + (j + t) / blk.es) ((j + t) % blk.es) ?_ (Nat.mod_lt _ h0) (by rw [Nat.add_mul]; omega)
    have : (i + (j + t) / blk.es) * blk.es < blk.n * blk.es := by rw [Nat.add_mul]; omega
    exact Nat.lt_of_mul_lt_mul_right this

theorem roomG_mono {blk : Blk} {i j s t : Nat} (h : roomG blk i j s = true) (hst : t < s) : roomG blk i j (t + 1) = true := by
  unfold roomG at h ⊢
  cases h1 : Nat.ble (j + s) blk.es with
  | true =>
    rw [h1, cond_true] at h
    have := Nat.le_of_ble_eq_true h1
    rw [Nat.ble_eq_true_of_le (show j + (t + 1) ≤ blk.es by omega), cond_true]; exact h
  | false =>
    rw [h1, cond_false] at h
    simp only [Bool.and_eq_true, decide_eq_true_eq, Nat.blt_eq] at h
    cases h2 : Nat.ble (j + (t + 1)) blk.es with
    | true =>
      rw [cond_true]
      have h3 : i * blk.es < blk.n * blk.es := by omega
      simpa using Nat.lt_of_mul_lt_mul_right h3
    | false => rw [cond_false]; simp only [Bool.and_eq_true, decide_eq_true_eq, Nat.blt_eq]; omega

theorem run_isAgg (w : World) {t : TypeId} {b : Bool} (h : aggB P t = some b) : (isAgg t).run P w = .ok b w := by
  unfold aggB at h
  cases hd : P.underlying t with
  | none => simp [hd] at h
  | some d =>
    simp only [hd, Option.map_some, Option.some.injEq] at h
    subst h
    unfold isAgg
    simp only [Sem.run_bind, run_underlying hd, Result.andThen_ok]
    cases d <;> rfl

theorem run_size (w : World) {t n : Nat} (h : szB P t n = true) : (sizeOf t).run P w = .ok n w := by
  unfold szB at h
  cases hd : P.info? t with
  | none => simp [hd] at h
  | some i => simp [hd] at h; subst h; simp [sizeOf, typeInfo, hd]

theorem addr_add (b o n : Nat) : (⟨b, o, none⟩ : Addr).add n = ⟨b, o + n, none⟩ := by unfold Addr.add; split <;> simp_all

theorem run_loadVar_agg {w : World} {t sz : Nat} {ag : Bool} (ha : aggB P t = some ag) (hs : szB P t sz = true) {b o : Nat} {f : Nat → Value} (hc : ∀ k, k < (if ag then sz else 1) → w.cell? ⟨b, o + k, none⟩ = some (f k)) :
    (loadVar t ⟨b, o, none⟩).run P w = .ok (if ag then .agg ((List.range sz).map f).toArray else f 0) w := by
  unfold loadVar
  simp only [Sem.run_bind, run_isAgg w ha, Result.andThen_ok]
  cases ag with
  | true =>
    simp only [if_true, Sem.run_bind, run_size w hs, Result.andThen_ok] at hc ⊢
    rw [run_loadCells w ⟨b, o, none⟩ sz f (fun j hj => by rw [addr_add]; exact hc j hj)]
    rfl
  | false =>
    have := hc 0 (by simp)
    simp only [Nat.add_zero] at this
    simp [this]

theorem loadVar_sound (hR : MRel C m w L) {t sz : Nat} {ag : Bool} (ha : aggB P t = some ag) (hs : szB P t sz = true) {u : AV} {r : Value} (hx : VR w.heap L (OO C m L) u r) {out : Out} (hev : loadV sz ag m u = some out) (hok : out.ok = true) :
    ∃ ad v, r = .pointer (some ad) ∧ (loadVar t ad).run P w = .ok v w ∧ VR w.heap L (OO C m L) out.v v ∧ out.u = none := by
  have hrun : ∀ (b o' : Nat) (f : Nat → Value), r = .pointer (some ⟨b, o', none⟩) → (∀ k, k < (if ag then sz else 1) → w.cell? ⟨b, o' + k, none⟩ = some (f k)) →
      (loadVar t ⟨b, o', none⟩).run P w = .ok (if ag then .agg ((List.range sz).map f).toArray else f 0) w := by
    intro b o' f hr hf
    exact run_loadVar_agg (P := P) ha hs hf
  have vrs : ∀ {n : Nat} {g : Nat → AV} {f : Nat → Value}, (∀ k, k < n → VR w.heap L (OO C m L) (g k) (f k)) → VRs w.heap L (OO C m L) ((List.range n).map g) ((List.range n).map f) := by
    intro n g f hh
    refine VRs.of_get (by simp) (fun i c hc => ?_)
    have hi : i < n := by
      rcases Nat.lt_or_ge i n with h | h
      · exact h
      · rw [List.getElem?_eq_none (by simpa using h)] at hc; cases hc
    simp [hi] at hc
    subst hc
    simpa [List.getD, hi] using hh i hi
  cases hx <;> (try (simp [loadV] at hev; done))
  case ptr l i j le hl =>
    simp only [loadV] at hev
    cases hm : m[l]? with
    | none => simp [hm] at hev
    | some ob =>
      cases ob with
      | none => simp [hm] at hev
      | some blk =>
        simp only [hm] at hev
        cases ag with
        | true =>
          simp only [cond_true, outIf, Option.some.injEq] at hev
          subst hev
          have hc : ∀ k, ∃ v, k < sz → w.cell? ⟨le.b, i * le.es + (j + k), none⟩ = some v ∧ VR w.heap L (OO C m L) (cellG blk i j k) v := by
            intro k
            by_cases hk : k < sz
            · obtain ⟨v, h1, h2⟩ := hR.cellG hm hl (roomG_mono hok hk); exact ⟨v, fun _ => ⟨h1, h2⟩⟩
            · exact ⟨undef, fun h => absurd h hk⟩
          have hf := fun k => (hc k).choose_spec
          have := hrun le.b (i * le.es + j) (fun k => (hc k).choose) rfl (by
            intro k hk
            simp only [if_true] at hk
            rw [Nat.add_assoc]
            exact (hf k hk).1)
          exact ⟨_, _, rfl, this, by simpa using VR.agg _ _ (by simpa using vrs (fun k hk => (hf k hk).2)), rfl⟩
        | false =>
          simp only [cond_false, outIf, Option.some.injEq] at hev
          subst hev
          obtain ⟨v, h1, h2⟩ := hR.cellG hm hl (t := 0) hok
          have := hrun le.b (i * le.es + j) (fun _ => v) rfl (by
            intro k hk
            simp at hk; subst hk; simpa using h1)
          exact ⟨_, _, rfl, this, by simpa using h2, rfl⟩
  case vptr n get j b o' vals hc hv =>
    simp only [loadV] at hev
    cases ag with
    | true =>
      simp only [cond_true, outIf, Option.some.injEq] at hev
      subst hev
      have hle := Nat.le_of_ble_eq_true hok
      have := hrun b (o' + j) (fun k => vals (j + k)) rfl (by
        intro k hk
        simp only [if_true] at hk
        obtain ⟨_, h2, _⟩ := hc (j + k) (by omega)
        unfold cellAt at h2
        simp only [World.cell?, Nat.add_assoc]
        revert h2; split <;> simp_all)
      exact ⟨_, _, rfl, this, by simpa using VR.agg _ _ (by simpa using vrs (fun k hk => hv (j + k) (by omega))), rfl⟩
    | false =>
      simp only [cond_false, outIf, Option.some.injEq] at hev
      subst hev
      have hle := Nat.le_of_ble_eq_true hok
      have := hrun b (o' + j) (fun k => vals (j + k)) rfl (by
        intro k hk
        simp at hk; subst hk
        obtain ⟨_, h2, _⟩ := hc j (by omega)
        unfold cellAt at h2
        simp only [World.cell?, Nat.add_zero]
        revert h2; split <;> simp_all)
      exact ⟨_, _, rfl, this, by simpa using hv j (by omega), rfl⟩


theorem g_load (hR : MRel C m w L) (hE : ERel C e m a w L) {t sz : Nat} {ag : Bool} {x : Operand} {x' : Opn} (ho : o.op = .load t x) (ha : aggB P t = some ag) (hs : szB P t sz = true) (hx : opnOk x x' = true) {out : Out} (hev : evD (.load sz ag x') e m = some out) (hok : out.ok = true) : Good P C m w L o a out := by
  have hx := opn_rel hE hx
  simp only [evD] at hev
  generalize x'.ev e = u at hx hev
  generalize hra : a.eval x = r at hx
  obtain ⟨ad, v, rfl, h1, h2, h3⟩ := loadVar_sound hR ha hs hx hev hok
  obtain ⟨ok, v', u'⟩ := out
  simp only at h3 hok
  subst h3 hok
  exact good_pure hR (r := v) (by simp [execOp, ho, hra, Instr.loadAt, Instr.sureAddr, h1]) h2

end
end Go.Wit
