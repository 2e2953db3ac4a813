/- Each told operation does what is told of it (fourth part: slice expressions, lengths, interface values, what is held against nil, rows of cells held against one another); no condition. -/
import Derived.Test.YtdobchoiiihfiaaA5
set_option linter.unusedVariables false
set_option linter.unusedSimpArgs false
namespace Go.Wit
section
variable {P : Program} {C : Ctx} {m : Mem} {w : World} {L : Lay} {e : Env} {a : Act} {o : Oper}

def optOk : Option Operand → Option Opn → Bool
  | none, none => true
  | some x, some y => opnOk x y
  | _, _ => false

inductive VRo (h : Array Obj) (L : Lay) (O : Nat → Prop) : Option AV → Option Value → Prop where
  | none : VRo h L O none none
  | some (v : AV) (c : Value) : VR h L O v c → VRo h L O (some v) (some c)

theorem opt_rel (hE : ERel C e m a w L) {x : Option Operand} {y : Option Opn} (h : optOk x y = true) : VRo w.heap L (OO C m L) (y.map (·.ev e)) (x.map a.eval) := by
  cases x <;> cases y <;> simp [optOk] at h
  · exact .none
  · exact .some _ _ (opn_rel hE h)

theorem bnd_run {h : Array Obj} {O : Nat → Prop} {y : Nat} {v : AV} {c : Value} (hv : VR h L O v c) {b : Bool} {n : Nat} (hb : bnd y v = some (b, n)) (hok : b = true) (code : BoundsCode) :
    (Instr.sliceBound c y code).run P w = .ok n w ∧ n ≤ y := by
  unfold bnd at hb
  cases hv <;> simp [intOfA] at hb
  rename_i k i
  obtain ⟨h1, h2⟩ := hb
  rw [hok] at h1
  simp only [Bool.and_eq_true, decide_eq_true_eq] at h1
  subst h2
  refine ⟨?_, by omega⟩
  simp [Instr.sliceBound, asIntOf, h1.1, h1.2]

theorem bnd2_bnd {len cap : Nat} {v : AV} {b : Bool} {n : Nat} (h : bnd2 len cap v = some (b, n)) (hb : b = true) (hlc : len ≤ cap) : bnd cap v = some (true, n) := by
  unfold bnd2 at h
  unfold bnd
  cases hv : intOfA v with
  | none => rw [hv] at h; cases h
  | some i =>
    rw [hv] at h
    simp only [Option.map_some, Option.some.injEq, Prod.mk.injEq] at h ⊢
    obtain ⟨h1, h2⟩ := h
    refine ⟨?_, h2⟩
    rw [hb] at h1
    simp only [Bool.and_eq_true, Bool.or_eq_true, decide_eq_true_eq] at h1 ⊢
    omega

theorem bnds_run {h : Array Obj} {O : Nat → Prop} {len cap : Nat} {lo hi mx : Option AV} {lo' hi' mx' : Option Value} (hlo : VRo h L O lo lo') (hhi : VRo h L O hi hi') (hmx : VRo h L O mx mx')
    {b : Bool} {l k q : Nat} (hb : bnds len cap lo hi mx = some (b, l, k, q)) (hok : b = true) (hlc : len ≤ cap) (isS : Bool) :
    (Instr.sliceBounds isS len cap lo' hi' mx').run P w = .ok (l, k, q) w ∧ l ≤ k ∧ k ≤ q ∧ q ≤ cap := by
  subst hok
  cases hmx with
  | none =>
    cases hhi with
    | none =>
      cases hlo with
      | none =>
        simp only [bnds, Option.some.injEq, Prod.mk.injEq] at hb
        obtain ⟨_, rfl, rfl, rfl⟩ := hb
        exact ⟨by simp [Instr.sliceBounds], Nat.zero_le _, hlc, Nat.le_refl _⟩
      | some v3 c3 g3 =>
        cases h3 : bnd len v3 with
        | none => simp [bnds, h3] at hb
        | some p3 =>
          obtain ⟨b3, n3⟩ := p3
          simp only [bnds, h3, Option.some.injEq, Prod.mk.injEq, Bool.true_and] at hb
          obtain ⟨e, rfl, rfl, rfl⟩ := hb
          have r3 := fun code => bnd_run (P := P) (w := w) g3 h3 e code
          exact ⟨by simp [Instr.sliceBounds, (r3 _).1], (r3 .sliceB).2, hlc, Nat.le_refl _⟩
    | some v2 c2 g2 =>
      cases h2 : bnd2 len cap v2 with
      | none => simp [bnds, h2] at hb
      | some p2 =>
        obtain ⟨b2, n2⟩ := p2
        cases hlo with
        | none =>
          simp only [bnds, h2, Option.some.injEq, Prod.mk.injEq, Bool.true_and, Bool.and_true] at hb
          obtain ⟨e, rfl, rfl, rfl⟩ := hb
          have h2' := bnd2_bnd h2 e hlc
          have r2 := fun code => bnd_run (P := P) (w := w) g2 h2' rfl code
          exact ⟨by cases isS <;> simp [Instr.sliceBounds, (r2 _).1], Nat.zero_le _, (r2 .sliceB).2, Nat.le_refl _⟩
        | some v3 c3 g3 =>
          cases h3 : bnd n2 v3 with
          | none => simp [bnds, h2, h3] at hb
          | some p3 =>
            obtain ⟨b3, n3⟩ := p3
            simp only [bnds, h2, h3, Option.some.injEq, Prod.mk.injEq, Bool.true_and, Bool.and_eq_true] at hb
            obtain ⟨⟨e2, e3⟩, rfl, rfl, rfl⟩ := hb
            have h2' := bnd2_bnd h2 e2 hlc
            have r2 := fun code => bnd_run (P := P) (w := w) g2 h2' rfl code
            have r3 := fun code => bnd_run (P := P) (w := w) g3 h3 e3 code
            exact ⟨by cases isS <;> simp [Instr.sliceBounds, (r2 _).1, (r3 _).1], (r3 .sliceB).2, (r2 .sliceB).2, Nat.le_refl _⟩
  | some v1 c1 g1 =>
    cases h1 : bnd cap v1 with
    | none => simp [bnds, h1] at hb
    | some p1 =>
      obtain ⟨b1, n1⟩ := p1
      cases hhi with
      | none => simp [bnds, h1] at hb
      | some v2 c2 g2 =>
        cases h2 : bnd n1 v2 with
        | none => simp [bnds, h1, h2] at hb
        | some p2 =>
          obtain ⟨b2, n2⟩ := p2
          cases hlo with
          | none =>
            simp only [bnds, h1, h2, Option.some.injEq, Prod.mk.injEq, Bool.and_true, Bool.and_eq_true] at hb
            obtain ⟨⟨e1, e2⟩, rfl, rfl, rfl⟩ := hb
            have r1 := fun code => bnd_run (P := P) (w := w) g1 h1 e1 code
            have r2 := fun code => bnd_run (P := P) (w := w) g2 h2 e2 code
            exact ⟨by cases isS <;> simp [Instr.sliceBounds, (r1 _).1, (r2 _).1], Nat.zero_le _, (r2 .sliceB).2, (r1 .sliceB).2⟩
          | some v3 c3 g3 =>
            cases h3 : bnd n2 v3 with
            | none => simp [bnds, h1, h2, h3] at hb
            | some p3 =>
              obtain ⟨b3, n3⟩ := p3
              simp only [bnds, h1, h2, h3, Option.some.injEq, Prod.mk.injEq, Bool.and_eq_true] at hb
              obtain ⟨⟨e1, e2, e3⟩, rfl, rfl, rfl⟩ := hb
              have r1 := fun code => bnd_run (P := P) (w := w) g1 h1 e1 code
              have r2 := fun code => bnd_run (P := P) (w := w) g2 h2 e2 code
              have r3 := fun code => bnd_run (P := P) (w := w) g3 h3 e3 code
              exact ⟨by cases isS <;> simp [Instr.sliceBounds, (r1 _).1, (r2 _).1, (r3 _).1], (r3 .sliceB).2, (r2 .sliceB).2, (r1 .sliceB).2⟩

def sliceTy (P : Program) (t es : Nat) : Bool :=
  match P.underlying t with
  | some (.slice e) => szB P e es
  | some .string => true
  | _ => false

theorem g_slice (hR : MRel C m w L) (hE : ERel C e m a w L) {t el es : Nat} {x : Operand} {lo hi mx : Option Operand} {x' : Opn} {lo' hi' mx' : Option Opn} (ho : o.op = .slice t x lo hi mx) (ht : P.underlying t = some (.slice el)) (hs : szB P el es = true)
    (hx : opnOk x x' = true) (h1 : optOk lo lo' = true) (h2 : optOk hi hi' = true) (h3 : optOk mx mx' = true) {out : Out} (hev : evD (.slice es x' lo' hi' mx') e m = some out) (hok : out.ok = true) : Good P C m w L o a out := by
  have hx := opn_rel hE hx
  have hlo := opt_rel hE h1
  have hhi := opt_rel hE h2
  have hmx := opt_rel hE h3
  simp only [evD] at hev
  generalize x'.ev e = u at hx hev
  generalize hra : a.eval x = r at hx
  have hrun : ∀ (ad : Option Addr) (len cap l h q : Nat), r = .slice ad len cap → (Instr.sliceBounds true len cap (lo.map a.eval) (hi.map a.eval) (mx.map a.eval)).run P w = .ok (l, h, q) w →
      (execOp a.eval o).run P w = .ok (.value (.slice (if q = l then ad else ad.map (·.add (l * es))) (h - l) (q - l))) w := by
    intro ad len cap l h q hr hb
    simp [execOp, ho, hra, hr, Instr.sliceAt, Instr.slice, run_underlying ht, hb, run_size w hs]
  cases hx <;> (try (simp [sliceV] at hev; done))
  case nils =>
    simp only [sliceV] at hev
    cases hb : bnds 0 0 (lo'.map (·.ev e)) (hi'.map (·.ev e)) (mx'.map (·.ev e)) with
    | none => simp [hb] at hev
    | some q =>
      obtain ⟨c, l, h, q⟩ := q
      simp [hb] at hev; subst hev
      obtain ⟨r1, r2, r3, r4⟩ := bnds_run (P := P) (w := w) hlo hhi hmx hb hok (Nat.le_refl _) true
      have e1 : q = 0 := by omega
      have e2 : h = 0 := by omega
      have e3 : l = 0 := by omega
      subst e1 e2 e3
      exact good_pure hR (hrun _ _ _ _ _ _ rfl r1) (by simpa using VR.nils)
  case sl0 l off ad =>
    simp only [sliceV] at hev
    split at hev
    case h_2 => simp at hev
    rename_i blk hm
    cases hbe : blk.es == es
    case false => simp [hbe] at hev
    simp only [hbe, cond_true] at hev
    cases hb : bnds 0 0 (lo'.map (·.ev e)) (hi'.map (·.ev e)) (mx'.map (·.ev e)) with
    | none => simp [hb] at hev
    | some q =>
      obtain ⟨c, l, h, q⟩ := q
      simp [hb] at hev; subst hev
      obtain ⟨r1, r2, r3, r4⟩ := bnds_run (P := P) (w := w) hlo hhi hmx hb hok (Nat.le_refl _) true
      have e1 : q = 0 := by omega
      have e2 : h = 0 := by omega
      have e3 : l = 0 := by omega
      subst e1 e2 e3
      exact good_pure hR (hrun _ _ _ _ _ _ rfl r1) (by simpa using VR.sl0 _ _ _)
  case sl0n l off =>
    simp only [sliceV] at hev
    split at hev
    case h_2 => simp at hev
    rename_i blk hm
    cases hbe : blk.es == es
    case false => simp [hbe] at hev
    simp only [hbe, cond_true] at hev
    cases hb : bnds 0 0 (lo'.map (·.ev e)) (hi'.map (·.ev e)) (mx'.map (·.ev e)) with
    | none => simp [hb] at hev
    | some q =>
      obtain ⟨c, l, h, q⟩ := q
      simp [hb] at hev; subst hev
      obtain ⟨r1, r2, r3, r4⟩ := bnds_run (P := P) (w := w) hlo hhi hmx hb hok (Nat.le_refl _) true
      have e1 : q = 0 := by omega
      have e2 : h = 0 := by omega
      have e3 : l = 0 := by omega
      subst e1 e2 e3
      exact good_pure hR (hrun _ _ _ _ _ _ rfl r1) (by simpa using VR.sl0n _ _)
  case sl l off len cap le hl g1 g2 =>
    simp only [sliceV] at hev
    split at hev
    case h_2 => simp at hev
    rename_i blk hm
    cases hbe : blk.es == es
    case false => simp [hbe] at hev
    simp only [hbe, cond_true] at hev
    obtain ⟨e0, k1, k2, k5, k0⟩ := hR.blk l blk hm
    rw [hl] at k1; obtain rfl := Option.some.inj k1
    cases hb : bnds len cap (lo'.map (·.ev e)) (hi'.map (·.ev e)) (mx'.map (·.ev e)) with
    | none => simp [hb] at hev
    | some q =>
      obtain ⟨c, l1, h, q⟩ := q
      simp [hb] at hev; subst hev
      obtain ⟨r1, r2, r3, r4⟩ := bnds_run (P := P) (w := w) hlo hhi hmx hb hok g1 true
      refine good_pure hR (hrun _ _ _ _ _ _ rfl r1) ?_
      by_cases hq : q = l1
      · subst hq
        have : h = q := by omega
        subst this
        simpa using VR.sl0 _ _ _
      · rw [if_neg hq]
        have hes' : le.es = es := by rw [k2]; simpa using hbe
        simp only [Option.map_some, addr_add]
        rw [← hes', ← Nat.add_mul]
        exact .sl _ _ _ _ _ hl (by omega) (by omega)
  case vsl0 es' get ad =>
    simp only [sliceV] at hev
    cases hbe : es' == es
    case false => simp [hbe] at hev
    simp only [hbe, cond_true] at hev
    cases hb : bnds 0 0 (lo'.map (·.ev e)) (hi'.map (·.ev e)) (mx'.map (·.ev e)) with
    | none => simp [hb] at hev
    | some q =>
      obtain ⟨c, l, h, q⟩ := q
      simp [hb] at hev; subst hev
      simp only [Bool.and_eq_true] at hok
      obtain ⟨r1, r2, r3, r4⟩ := bnds_run (P := P) (w := w) hlo hhi hmx hb hok.1 (Nat.le_refl _) true
      have e1 : q = 0 := by omega
      have e2 : h = 0 := by omega
      have e3 : l = 0 := by omega
      subst e1 e2 e3
      exact good_pure hR (hrun _ _ _ _ _ _ rfl r1) (by simpa using VR.vsl0 _ _ _)
  case vsl es' len cap get b o' vals hle hc hv =>
    simp only [sliceV] at hev
    cases hbe : es' == es
    case false => simp [hbe] at hev
    simp only [hbe, cond_true] at hev
    obtain rfl : es' = es := by simpa using hbe
    cases hb : bnds len cap (lo'.map (·.ev e)) (hi'.map (·.ev e)) (mx'.map (·.ev e)) with
    | none => simp [hb] at hev
    | some q =>
      obtain ⟨c, l1, h, q⟩ := q
      simp [hb] at hev; subst hev
      simp only [Bool.and_eq_true, decide_eq_true_eq] at hok
      obtain ⟨r1, r2, r3, r4⟩ := bnds_run (P := P) (w := w) hlo hhi hmx hb hok.1 hle true
      refine good_pure hR (hrun _ _ _ _ _ _ rfl r1) ?_
      by_cases hq : q = l1
      · subst hq
        have : h = q := by omega
        subst this
        simpa using VR.vsl0 _ _ _
      · rw [if_neg hq]
        simp only [Option.map_some, addr_add]
        refine .vsl _ _ _ _ b (o' + l1 * es') (fun i j => vals (i + l1) j) (by omega) (fun i j hi hj => ?_) (fun i j hi hj => hv _ _ (by omega) hj)
        have := hc (i + l1) j (by omega) hj
        have e : o' + l1 * es' + (i * es' + j) = o' + ((i + l1) * es' + j) := by rw [Nat.add_mul]; omega
        rw [e]; exact this

theorem g_slices (hR : MRel C m w L) (hE : ERel C e m a w L) {t : Nat} {x : Operand} {lo hi : Option Operand} {x' : Opn} {lo' hi' : Option Opn} (ho : o.op = .slice t x lo hi none) (ht : P.underlying t = some .string)
    (hx : opnOk x x' = true) (h1 : optOk lo lo' = true) (h2 : optOk hi hi' = true) {out : Out} (hev : evD (.sslice x' lo' hi') e m = some out) (hok : out.ok = true) : Good P C m w L o a out := by
  have hx := opn_rel hE hx
  have hlo := opt_rel hE h1
  have hhi := opt_rel hE h2
  simp only [evD] at hev
  generalize x'.ev e = u at hx hev
  generalize hra : a.eval x = r at hx
  cases hx <;> (try (simp [ssliceV] at hev; done))
  rename_i s
  simp only [ssliceV] at hev
  cases hb : bnds s.size s.size (lo'.map (·.ev e)) (hi'.map (·.ev e)) none with
  | none => simp [hb] at hev
  | some q =>
    obtain ⟨c, l, h, q⟩ := q
    simp [hb] at hev; subst hev
    obtain ⟨r1, r2, r3, r4⟩ := bnds_run (P := P) (w := w) hlo hhi .none hb hok (Nat.le_refl _) false
    refine good_pure hR (r := .string (s.extract l h)) ?_ (.str _)
    simp [execOp, ho, hra, Instr.sliceAt, Instr.slice, run_underlying ht, r1]

theorem g_slarr (hR : MRel C m w L) (hE : ERel C e m a w L) {t el es n : Nat} {x : Operand} {lo hi mx : Option Operand} {x' : Opn} {lo' hi' mx' : Option Opn} (ho : o.op = .slice t x lo hi mx) (ht : P.underlying t = some (.array n el)) (hs : szB P el es = true)
    (hx : opnOk x x' = true) (h1 : optOk lo lo' = true) (h2 : optOk hi hi' = true) (h3 : optOk mx mx' = true) {out : Out} (hev : evD (.slarr n es x' lo' hi' mx') e m = some out) (hok : out.ok = true) : Good P C m w L o a out := by
  have hx := opn_rel hE hx
  have hlo := opt_rel hE h1
  have hhi := opt_rel hE h2
  have hmx := opt_rel hE h3
  simp only [evD] at hev
  generalize x'.ev e = u at hx hev
  generalize hra : a.eval x = r at hx
  unfold slarrV at hev
  split at hev
  · rename_i l i
    cases hx with
    | ptr _ _ _ le hl =>
      split at hev
      · rename_i blk hm
        cases hbe : blk.es == es with
        | false => simp [hbe] at hev
        | true =>
          simp only [hbe, cond_true] at hev
          cases hb : bnds n n (lo'.map (·.ev e)) (hi'.map (·.ev e)) (mx'.map (·.ev e)) with
          | none => simp [hb] at hev
          | some q =>
            obtain ⟨c, l1, h, q⟩ := q
            simp [hb] at hev; subst hev
            simp only [Bool.and_eq_true, decide_eq_true_eq] at hok
            obtain ⟨r1, r2, r3, r4⟩ := bnds_run (P := P) (w := w) hlo hhi hmx hb hok.1 (Nat.le_refl _) false
            obtain ⟨e0, g1, g2, g5, g0⟩ := hR.blk l blk hm
            rw [hl] at g1; obtain rfl := Option.some.inj g1
            have hes : le.es = es := by rw [g2]; simpa using hbe
            refine good_pure hR (r := .slice (some (if q = l1 then ⟨le.b, i * le.es + 0, none⟩ else (⟨le.b, i * le.es + 0, none⟩ : Addr).add (l1 * es))) (h - l1) (q - l1)) ?_ ?_
            · simp [execOp, ho, hra, Instr.sliceAt, run_underlying ht, Instr.sureAddr, r1, run_size w hs]
            · by_cases hq : q = l1
              · subst hq
                have : h = q := by omega
                subst this
                simpa using VR.sl0 _ _ _
              · rw [if_neg hq, addr_add, ← hes]
                have : i * le.es + 0 + l1 * le.es = (i + l1) * le.es := by rw [Nat.add_mul]; omega
                rw [this]
                exact .sl _ _ _ _ _ hl (by omega) (by omega)
      · simp at hev
  · simp at hev

theorem g_arrp (hR : MRel C m w L) (hE : ERel C e m a w L) {t el es n : Nat} {x : Operand} {x' : Opn} (ho : o.op = .sliceToArrayPointer t x) (ht : P.underlying t = some (.array n el))
    (hx : opnOk x x' = true) {out : Out} (hev : evD (.arrp n es x') e m = some out) (hok : out.ok = true) : Good P C m w L o a out := by
  have hx := opn_rel hE hx
  simp only [evD] at hev
  generalize x'.ev e = u at hx hev
  generalize hra : a.eval x = r at hx
  have hrun : ∀ (ad : Option Addr) (len cap : Nat), r = .slice ad len cap → n ≤ len → (execOp a.eval o).run P w = .ok (.value (.pointer ad)) w := by
    intro ad len cap hr hb
    simp [execOp, ho, hra, hr, Instr.arrayAt, run_underlying ht, show ¬ len < n from by omega]
  cases hx <;> (try (simp [arrpV] at hev; done))
  case sl0 l off ad =>
    simp only [arrpV] at hev
    cases hn : n == 0 <;> simp [hn, outIf] at hev
    subst hev
    simp at hok hn; omega
  case sl0n l off =>
    simp only [arrpV] at hev
    cases hn : n == 0 <;> simp [hn, outIf] at hev
    subst hev
    simp at hok hn; omega
  case sl l off len cap le hl g1 g2 =>
    simp only [arrpV] at hev
    cases hn : n == 0 <;> simp [hn, outIf] at hev
    subst hev
    simp only [decide_eq_true_eq] at hok
    exact good_pure hR (hrun _ _ _ rfl hok) (by simpa using VR.ptr l off 0 le hl)
  case vsl0 es' get ad =>
    simp only [arrpV] at hev
    cases hn : (es' == es && (!(es == 0) && !(n == 0))) <;> simp only [hn, cond_true, cond_false, outIf, Option.some.injEq, reduceCtorEq] at hev
    subst hev
    simp at hok hn; omega
  case vsl es' len cap get b o' vals hle hc hv =>
    simp only [arrpV] at hev
    cases hn : (es' == es && (!(es == 0) && !(n == 0))) <;> simp only [hn, cond_true, cond_false, outIf, Option.some.injEq, reduceCtorEq] at hev
    subst hev
    simp only [decide_eq_true_eq] at hok
    simp only [Bool.and_eq_true, beq_iff_eq, Bool.not_eq_true', beq_eq_false_iff_ne] at hn
    obtain ⟨rfl, hn1, hn2⟩ := hn
    refine good_pure hR (hrun _ _ _ rfl hok) ?_
    have hpos : 0 < es' := by omega
    have hdm : ∀ t, t / es' * es' + t % es' = t := fun t => by rw [Nat.mul_comm]; exact Nat.div_add_mod _ _
    have hlt : ∀ t, t < n * es' → t / es' < len := fun t ht => by
      have : t / es' < n := (Nat.div_lt_iff_lt_mul hpos).2 ht
      omega
    refine .vptr (n * es') _ 0 b o' (fun t => vals (t / es') (t % es')) (fun t ht => ?_) (fun t ht => hv _ _ (hlt t ht) (Nat.mod_lt _ hpos))
    have := hc (t / es') (t % es') (hlt t ht) (Nat.mod_lt _ hpos)
    rw [hdm] at this; exact this

theorem g_len (hR : MRel C m w L) (hE : ERel C e m a w L) {t el : Nat} {x : Operand} {x' : Opn} (ho : o.op = .call { callee := .builtin .len, args := #[x], argTypes := #[t] }) (ht : P.underlying t = some (.slice el))
    (hx : opnOk x x' = true) {out : Out} (hev : evD (.len x') e m = some out) : Good P C m w L o a out := by
  have hx := opn_rel hE hx
  simp only [evD] at hev
  generalize x'.ev e = u at hx hev
  generalize hra : a.eval x = r at hx
  have hrun : ∀ {ad : Option Addr} {n c : Nat}, r = .slice ad n c → (execOp a.eval o).run P w = .ok (.value (.int .i64 n)) w := by
    intro ad n c hr
    simp [execOp, ho, resolve, invoke, builtin, hra, hr, Builtin.len_, run_underlying ht]; rfl
  cases hx <;> (try (simp [lenV] at hev; done))
  all_goals
    simp [lenV, Wit.out] at hev; subst hev
    exact good_pure hR (hrun rfl) (.int _ _)

theorem g_lens (hR : MRel C m w L) (hE : ERel C e m a w L) {t : Nat} {x : Operand} {x' : Opn} (ho : o.op = .call { callee := .builtin .len, args := #[x], argTypes := #[t] }) (ht : P.underlying t = some .string)
    (hx : opnOk x x' = true) {out : Out} (hev : evD (.lens x') e m = some out) : Good P C m w L o a out := by
  have hx := opn_rel hE hx
  simp only [evD] at hev
  generalize x'.ev e = u at hx hev
  generalize hra : a.eval x = r at hx
  cases hx <;> (try (simp at hev; done))
  rename_i s
  simp [Wit.out] at hev; subst hev
  refine good_pure hR (r := .int .i64 s.size) ?_ (.int _ _)
  simp [execOp, ho, resolve, invoke, builtin, hra, Builtin.len_, run_underlying ht]; rfl

theorem g_lena (hR : MRel C m w L) (hE : ERel C e m a w L) {t n el : Nat} {x : Operand} (ho : o.op = .call { callee := .builtin .len, args := #[x], argTypes := #[t] }) (ht : P.underlying t = some (.array n el))
    {out : Out} (hev : evD (.lena n) e m = some out) : Good P C m w L o a out := by
  simp [evD, Wit.out] at hev; subst hev
  refine good_pure hR (r := .int .i64 n) ?_ (.int _ _)
  simp [execOp, ho, resolve, invoke, builtin, Builtin.len_, run_underlying ht]; rfl

theorem g_mkif (hR : MRel C m w L) (hE : ERel C e m a w L) {t : Nat} {d : TypeDesc} {x : Operand} {x' : Opn} (ho : o.op = .makeInterface t x) (ht : P.underlying t = some d) (hd : ∀ ms, d ≠ .interface ms) (hx : opnOk x x' = true)
    {out : Out} (hev : evD (.mkif t x') e m = some out) : Good P C m w L o a out := by
  have hx := opn_rel hE hx
  simp [evD, Wit.out] at hev; subst hev
  refine good_pure hR (r := .iface t (a.eval x)) ?_ (.ifc _ _ _ hx)
  have : (Instr.makeInterface t (a.eval x)).run P w = .ok (.iface t (a.eval x)) w := by
    simp only [Instr.makeInterface, Sem.run_bind, run_underlying ht, Result.andThen_ok]
    cases d <;> first | rfl | exact absurd rfl (hd _)
  simp [execOp, ho, this]

theorem run_equal_step (t : TypeId) (x y : Value) : Op.equal t x y = Op.equalIn (9999 + 1) t x y := rfl

/-- Held against nil: a slice, a pointer, an interface value; nil on either side. -/
theorem eql_nil (w : World) {t : TypeId} {d : TypeDesc} (ht : P.underlying t = some d) {r n : Value} {b : Bool}
    (h : (∃ el, d = .slice el ∧ n = .slice none 0 0 ∧ ∃ ad l c, r = .slice ad l c ∧ b = ad.isNone) ∨ (∃ el, d = .pointer el ∧ n = .pointer none ∧ ∃ ad, r = .pointer ad ∧ b = ad.isNone) ∨
      (∃ ms, d = .interface ms ∧ n = .nilIface ∧ ((r = .nilIface ∧ b = true) ∨ ∃ q v, r = .iface q v ∧ b = false))) :
    (Op.equal t r n).run P w = .ok b w ∧ (Op.equal t n r).run P w = .ok b w := by
  rw [run_equal_step, run_equal_step, Op.equalIn, Op.equalIn]
  simp only [Sem.run_bind, run_underlying ht, Result.andThen_ok]
  rcases h with ⟨el, rfl, rfl, ad, l, c, rfl, rfl⟩ | ⟨el, rfl, rfl, ad, rfl, rfl⟩ | ⟨ms, rfl, rfl, ⟨rfl, rfl⟩ | ⟨q, v, rfl, rfl⟩⟩
  · cases ad <;> exact ⟨rfl, rfl⟩
  · cases ad <;> exact ⟨rfl, rfl⟩
  · exact ⟨rfl, rfl⟩
  · exact ⟨rfl, rfl⟩

theorem exec_eqn (w : World) {t t' : TypeId} {x y : Operand} {r n : Value} {b neg sw : Bool} (ho : o.op = .binOp (bif neg then .neq else .eql) t (bif sw then y else x) (bif sw then x else y) t') (hy : y = .const n) (hra : a.eval x = r)
    (he : (Op.equal t r n).run P w = .ok b w ∧ (Op.equal t n r).run P w = .ok b w)
    (hk : (n = .slice none 0 0 ∧ ∃ ad l c, r = .slice ad l c) ∨ (n = .pointer none ∧ ∃ ad, r = .pointer ad) ∨ (n = .nilIface ∧ (r = .nilIface ∨ ∃ q v, r = .iface q v))) :
    (execOp a.eval o).run P w = .ok (.value (.bool (bif neg then !b else b))) w := by
  subst hy
  have hg : ∀ op, (eqGuard op t x (.const n) r n).run P w = .ok () w ∧ (eqGuard op t (.const n) x n r).run P w = .ok () w := by
    intro op
    rcases hk with ⟨rfl, ad, l, c, rfl⟩ | ⟨rfl, ad, rfl⟩ | ⟨rfl, rfl | ⟨q, v, rfl⟩⟩
    · cases op <;> exact ⟨rfl, rfl⟩
    · cases op <;> exact ⟨rfl, rfl⟩
    · constructor
      · cases op <;> simp [eqGuard]
      · cases op <;> simp [eqGuard]
    · cases op <;> exact ⟨rfl, rfl⟩
  have hb : (binOp .eql t r n = do pure (.bool (← Op.equal t r n))) ∧ (binOp .eql t n r = do pure (.bool (← Op.equal t n r))) ∧
      (binOp .neq t r n = do pure (.bool (!(← Op.equal t r n)))) ∧ (binOp .neq t n r = do pure (.bool (!(← Op.equal t n r)))) := by
    rcases hk with ⟨rfl, ad, l, c, rfl⟩ | ⟨rfl, ad, rfl⟩ | ⟨rfl, rfl | ⟨q, v, rfl⟩⟩ <;> exact ⟨rfl, rfl, rfl, rfl⟩
  have hev : a.eval (.const n) = n := rfl
  cases neg <;> cases sw <;> simp only [cond_true, cond_false] at ho ⊢
  · simp [execOp, ho, hra, hev, (hg _).1, hb.1, he.1]
  · simp [execOp, ho, hra, hev, (hg _).2, hb.2.1, he.2]
  · simp [execOp, ho, hra, hev, (hg _).1, hb.2.2.1, he.1]
  · simp [execOp, ho, hra, hev, (hg _).2, hb.2.2.2, he.2]

theorem g_eqnS (hR : MRel C m w L) (hE : ERel C e m a w L) {t t' el : Nat} {neg sw : Bool} {x y : Operand} {x' : Opn} (ho : o.op = .binOp (bif neg then .neq else .eql) t (bif sw then y else x) (bif sw then x else y) t') (ht : P.underlying t = some (.slice el)) (hy : y = .const (.slice none 0 0))
    (hx : opnOk x x' = true) {out : Out} (hev : evD (.eqnS neg x') e m = some out) (hok : out.ok = true) : Good P C m w L o a out := by
  have hx := opn_rel hE hx
  simp only [evD] at hev
  generalize x'.ev e = u at hx hev
  generalize hra : a.eval x = r at hx
  have he := fun ad l c => eql_nil (P := P) w ht (r := .slice ad l c) (n := .slice none 0 0) (b := ad.isNone) (.inl ⟨el, rfl, rfl, _, _, _, rfl, rfl⟩)
  cases hx <;> (try (simp at hev; done)) <;> simp [Wit.out, outIf] at hev <;> subst hev <;> (try (simp at hok; done))
  all_goals
    have hh := exec_eqn (P := P) w ho hy hra (he _ _ _) (.inl ⟨rfl, _, _, _, rfl⟩)
    first
    | exact good_pure hR hh (by cases neg <;> exact .bool _)
    | (simp only at hok; rw [hok]; exact good_pure hR hh (by cases neg <;> exact .bool _))

theorem g_eqnP (hR : MRel C m w L) (hE : ERel C e m a w L) {t t' el : Nat} {neg sw : Bool} {x y : Operand} {x' : Opn} (ho : o.op = .binOp (bif neg then .neq else .eql) t (bif sw then y else x) (bif sw then x else y) t') (ht : P.underlying t = some (.pointer el)) (hy : y = .const (.pointer none))
    (hx : opnOk x x' = true) {out : Out} (hev : evD (.eqnP neg x') e m = some out) : Good P C m w L o a out := by
  have hx := opn_rel hE hx
  simp only [evD] at hev
  generalize x'.ev e = u at hx hev
  generalize hra : a.eval x = r at hx
  cases hx <;> (try (simp at hev; done)) <;> simp [Wit.out] at hev <;> subst hev
  all_goals
    have he := fun ad => eql_nil (P := P) w ht (r := .pointer ad) (n := .pointer none) (b := ad.isNone) (.inr (.inl ⟨el, rfl, rfl, _, rfl, rfl⟩))
    have hh := exec_eqn (P := P) w ho hy hra (he _) (.inr (.inl ⟨rfl, _, rfl⟩))
    exact good_pure hR hh (by cases neg <;> exact .bool _)

theorem g_eqnI (hR : MRel C m w L) (hE : ERel C e m a w L) {t t' : Nat} {ms : Array (String × TypeId)} {neg sw : Bool} {x y : Operand} {x' : Opn} (ho : o.op = .binOp (bif neg then .neq else .eql) t (bif sw then y else x) (bif sw then x else y) t') (ht : P.underlying t = some (.interface ms)) (hy : y = .const .nilIface)
    (hx : opnOk x x' = true) {out : Out} (hev : evD (.eqnI neg x') e m = some out) : Good P C m w L o a out := by
  have hx := opn_rel hE hx
  simp only [evD] at hev
  generalize x'.ev e = u at hx hev
  generalize hra : a.eval x = r at hx
  cases hx <;> (try (simp at hev; done)) <;> simp [Wit.out] at hev <;> subst hev
  · have he := eql_nil (P := P) w ht (r := .nilIface) (n := .nilIface) (b := true) (.inr (.inr ⟨ms, rfl, rfl, .inl ⟨rfl, rfl⟩⟩))
    have hh := exec_eqn (P := P) w ho hy hra he (.inr (.inr ⟨rfl, .inl rfl⟩))
    exact good_pure hR hh (by cases neg <;> exact .bool _)
  · have he := fun q v => eql_nil (P := P) w ht (r := .iface q v) (n := .nilIface) (b := false) (.inr (.inr ⟨ms, rfl, rfl, .inr ⟨_, _, rfl, rfl⟩⟩))
    have hh := exec_eqn (P := P) w ho hy hra (he _ _) (.inr (.inr ⟨rfl, .inr ⟨_, _, rfl⟩⟩))
    exact good_pure hR hh (by cases neg <;> exact .bool _)

end
end Go.Wit
