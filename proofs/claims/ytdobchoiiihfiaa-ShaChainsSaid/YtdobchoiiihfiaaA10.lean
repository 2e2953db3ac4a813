/- Structs and arrays of plain cells held against one another; no condition. -/
import Derived.Test.YtdobchoiiihfiaaA9
set_option linter.unusedVariables false
set_option linter.unusedSimpArgs false
namespace Go.Wit

section
variable {P : Program} {C : Ctx} {m : Mem} {w : World} {L : Lay} {e : Env} {a : Act} {o : Oper}

theorem eqCells_append : ∀ {xs ys us vs : List AV} {r : Bool}, xs.length = ys.length → eqCells (xs ++ us) (ys ++ vs) = some r → ∃ r1 r2, eqCells xs ys = some r1 ∧ eqCells us vs = some r2 ∧ r = (r1 && r2)
  | [], [], us, vs, r, _, h => ⟨true, r, rfl, by simpa using h, by simp⟩
  | [], _ :: _, _, _, _, hl, _ => by simp at hl
  | _ :: _, [], _, _, _, hl, _ => by simp at hl
  | x :: xs, y :: ys, us, vs, r, hl, h => by
    have hl' : xs.length = ys.length := by simpa using hl
    cases x <;> cases y <;> simp only [List.cons_append, eqCells, reduceCtorEq] at h
    case int.int k a k' b =>
      cases hk : kbeq k k' with
      | false => simp [hk] at h
      | true =>
        simp only [hk, cond_true, Option.map_eq_some_iff] at h
        obtain ⟨q, h1, rfl⟩ := h
        obtain ⟨r1, r2, g1, g2, rfl⟩ := eqCells_append hl' h1
        exact ⟨(a == b) && r1, r2, by simp [eqCells, hk, g1], g2, by rw [Bool.and_assoc]⟩
    case bool.bool a b =>
      simp only [Option.map_eq_some_iff] at h
      obtain ⟨q, h1, rfl⟩ := h
      obtain ⟨r1, r2, g1, g2, rfl⟩ := eqCells_append hl' h1
      exact ⟨(a == b) && r1, r2, by simp [eqCells, g1], g2, by rw [Bool.and_assoc]⟩
    case str.str a b =>
      simp only [Option.map_eq_some_iff] at h
      obtain ⟨q, h1, rfl⟩ := h
      obtain ⟨r1, r2, g1, g2, rfl⟩ := eqCells_append hl' h1
      exact ⟨(a == b) && r1, r2, by simp [eqCells, g1], g2, by rw [Bool.and_assoc]⟩

/-- A value of a type, told cell by cell. -/
def HoldsT (P : Program) (h : Array Obj) (L : Lay) (O : Nat → Prop) (t : TypeId) (us : List AV) (x : Value) : Prop :=
  (aggB P t = some true ∧ ∃ c, x = .agg c ∧ VRs h L O us c.toList) ∨ (aggB P t = some false ∧ ∃ u, us = [u] ∧ VR h L O u x)

theorem run_eqArray (d len el n : Nat) (t : TypeId) (xs ys : Array Value) (ht : P.underlying t = some (.array len el)) (hn : (sizeOf el).run P w = .ok n w) (f : Nat → Bool)
    (hf : ∀ i, i < len → ∃ x y, (part el xs (i * n)).run P w = .ok x w ∧ (part el ys (i * n)).run P w = .ok y w ∧ (Op.equalIn d el x y).run P w = .ok (f i) w) :
    (Op.equalIn (d + 1) t (.agg xs) (.agg ys)).run P w = .ok ((List.range len).all f) w := by
  simp only [Op.equalIn, Sem.run_bind, run_underlying ht, Result.andThen_ok, hn]
  have key : ∀ (l : List Nat), (∀ i ∈ l, i < len) →
      ((Sem.run P (forIn l ((none : Option Bool), ()) fun i __s => do
        let a ← part el xs (i * n)
        let b ← part el ys (i * n)
        let r ← Op.equalIn d el a b
        if (!r) = true then pure (ForInStep.done (some false, ())) else pure (ForInStep.yield (none, ()))) w).andThen fun a w' => Sem.run P (match a.fst with | some r => pure r | none => pure true) w') = .ok (l.all f) w := by
    intro l
    induction l with
    | nil => intro _; simp
    | cons i l ih =>
      intro hl
      obtain ⟨x, y, h1, h2, h3⟩ := hf i (hl i (by simp))
      simp only [List.forIn_cons, Sem.run_bind, h1, h2, h3, Result.andThen_ok, Sem.run_ite]
      cases hfi : f i
      · simp [hfi]
      · simp only [Bool.not_true, Bool.false_eq_true, if_false, Sem.run_pure, Result.andThen_ok, List.all_cons, hfi, Bool.true_and]
        exact ih (fun j hj => hl j (by simp [hj]))
  have hk := key (List.range len) (fun i hi => by simpa using hi)
  rw [Std.Legacy.Range.forIn_eq_forIn_range']
  have hr : List.range' 0 ([:len].size) 1 = List.range len := by simp [Std.Legacy.Range.size, List.range_eq_range']
  simp only [hr]
  refine Eq.trans ?_ hk
  congr 1
  funext q w'
  obtain ⟨q, u⟩ := q
  cases q <;> rfl

theorem eqCells_one {u v : AV} {r : Bool} (h : eqCells [u] [v] = some r) : (∃ k a b, u = .int k a ∧ v = .int k b ∧ r = (a == b)) ∨ (∃ a b, u = .bool a ∧ v = .bool b ∧ r = (a == b)) ∨ (∃ a b, u = .str a ∧ v = .str b ∧ r = (a == b)) := by
  cases u <;> cases v <;> simp only [eqCells, reduceCtorEq] at h
  case int.int k a k' b =>
    cases hk : kbeq k k' with
    | false => simp [hk] at h
    | true =>
      have := kbeq_eq hk; subst this
      simp [hk] at h
      exact .inl ⟨k, a, b, rfl, rfl, h.symm⟩
  case bool.bool a b => simp at h; exact .inr (.inl ⟨a, b, rfl, rfl, h.symm⟩)
  case str.str a b => simp at h; exact .inr (.inr ⟨a, b, rfl, rfl, h.symm⟩)

theorem leaf_eq {h : Array Obj} {O : Nat → Prop} {t : TypeId} {dd : TypeDesc} (hu : P.underlying t = some dd) (hd : dd = .bool ∨ (∃ k, dd = .int k) ∨ dd = .string) {u v : AV} {x y : Value} {r : Bool} (hx : VR h L O u x) (hy : VR h L O v y) (he : eqCells [u] [v] = some r) (d : Nat)
    (hty : dd = .bool → ∃ a, u = .bool a) (hty2 : (∃ k, dd = .int k) → ∃ k a, u = .int k a) (hty3 : dd = .string → ∃ a, u = .str a) : (Op.equalIn (d + 1) t x y).run P w = .ok r w := by
  rcases eqCells_one he with ⟨k, a, b, rfl, rfl, rfl⟩ | ⟨a, b, rfl, rfl, rfl⟩ | ⟨a, b, rfl, rfl, rfl⟩ <;> cases hx <;> cases hy
  · rcases hd with rfl | ⟨k', rfl⟩ | rfl
    · obtain ⟨_, h⟩ := hty rfl; cases h
    · exact run_equalIn_int w d t k k' a b hu
    · obtain ⟨_, h⟩ := hty3 rfl; cases h
  · rcases hd with rfl | ⟨k', rfl⟩ | rfl
    · exact run_equalIn_bool' w d t a b hu
    · obtain ⟨_, _, h⟩ := hty2 ⟨k', rfl⟩; cases h
    · obtain ⟨_, h⟩ := hty3 rfl; cases h
  · rcases hd with rfl | ⟨k', rfl⟩ | rfl
    · obtain ⟨_, h⟩ := hty rfl; cases h
    · obtain ⟨_, _, h⟩ := hty2 ⟨k', rfl⟩; cases h
    · rw [run_equalIn_string w d t a b hu, beq_toListBytes]

theorem matchK_map : ∀ {us : List AV} {ks : List LK}, matchK us ks = true → us.map lkOf = ks.map some
  | [], [], _ => rfl
  | [], _ :: _, h => by simp [matchK] at h
  | _ :: _, [], h => by simp [matchK] at h
  | u :: us, k :: ks, h => by
    cases u <;> cases k <;> simp only [matchK, Bool.false_eq_true] at h <;> simp [lkOf, matchK_map h]

mutual
def kindsTy (P : Program) : Nat → TypeId → Option (List LK)
  | 0, _ => none
  | f + 1, t =>
    match P.underlying t with
    | some .bool => some [.b]
    | some (.int _) => some [.i]
    | some .string => some [.s]
    | some (.struct fs) => if P.stoodInHeld t then none else kindsFields P f fs.toList 0
    | some (.array len el) =>
      match P.info? el, kindsTy P f el with
      | some i, some ks => if ks.length = i.size ∧ 0 < i.size then some (List.replicate len ks).flatten else none
      | _, _ => none
    | _ => none
def kindsFields (P : Program) : Nat → List Field → Nat → Option (List LK)
  | 0, _, _ => none
  | f + 1, [], o => some []
  | f + 1, fd :: fs, o =>
    match P.info? fd.type, kindsTy P f fd.type with
    | some i, some ks => if fd.name ≠ "_" ∧ fd.offset = o ∧ ks.length = i.size ∧ 0 < i.size then (kindsFields P f fs (o + i.size)).map (ks ++ ·) else none
    | _, _ => none
end

theorem part_holds' {h : Array Obj} {O : Nat → Prop} {t sz : Nat} {b : Bool} (hb : aggB P t = some b) (hsz : b = false → sz = 1) (hs : szB P t sz = true) {us : List AV} {c : Array Value} (hv : VRs h L O us c.toList) {off : Nat} (hle : off + sz ≤ us.length) :
    ∃ x, (part t c off).run P w = .ok x w ∧ HoldsT P h L O t ((us.drop off).take sz) x := by
  cases b with
  | true =>
    obtain ⟨r, h1, h2, _⟩ := part_run (P := P) (w := w) hb hs hv (out := ⟨Nat.ble (off + sz) us.length, .agg ((us.drop off).take sz), none⟩) (off := off) (by simp [partV, outIf]) (Nat.ble_eq_true_of_le hle)
    refine ⟨r, h1, .inl ⟨hb, ?_⟩⟩
    cases h2 with
    | agg _ c' hc => exact ⟨c', rfl, hc⟩
  | false =>
    obtain rfl := hsz rfl
    obtain ⟨r, h1, h2, _⟩ := part_run (P := P) (w := w) hb hs hv (out := ⟨Nat.blt off us.length, us.getD off .un, none⟩) (off := off) (by simp [partV, outIf]) (blt_true (by omega))
    refine ⟨r, h1, .inr ⟨hb, us.getD off .un, ?_, h2⟩⟩
    apply List.ext_getElem?
    intro k
    rw [List.getElem?_take, List.getElem?_drop]
    cases k with
    | zero => simp [List.getElem?_eq_getElem (show off < us.length by omega), List.getD]
    | succ k => simp

theorem kindsTy_agg {f t : Nat} {ks : List LK} (h : kindsTy P f t = some ks) : ∃ b, aggB P t = some b ∧ (b = false → ks.length = 1) := by
  cases f with
  | zero => simp [kindsTy] at h
  | succ f =>
    unfold kindsTy at h
    unfold aggB
    cases hu : P.underlying t with
    | none => simp [hu] at h
    | some d =>
      refine ⟨_, rfl, fun hb => ?_⟩
      cases d <;> simp [hu] at h hb <;> (try (rw [← h]; rfl)) <;> (try (exact absurd hb (by simp)))

theorem take_drop_split {α : Type} (us : List α) (o s : Nat) : us.drop o = (us.drop o).take s ++ us.drop (o + s) := by
  rw [← List.drop_drop, List.take_append_drop]

theorem map_take_drop {us : List AV} {ks ks' : List LK} {o : Nat} (h : (us.drop o).map lkOf = (ks ++ ks').map some) : ((us.drop o).take ks.length).map lkOf = ks.map some ∧ (us.drop (o + ks.length)).map lkOf = ks'.map some := by
  have h1 := congrArg (List.take ks.length) h
  have h2 := congrArg (List.drop ks.length) h
  constructor
  · rw [List.map_take, h1]; simp
  · rw [← List.drop_drop, List.map_drop, h2]; simp

mutual
theorem eq_ty : ∀ (f : Nat) (t : TypeId) (ks : List LK), kindsTy P f t = some ks → ∀ (d : Nat), f ≤ d → ∀ {h : Array Obj} {O : Nat → Prop} {us vs : List AV} {x y : Value} {r : Bool}, us.map lkOf = ks.map some → vs.map lkOf = ks.map some →
    HoldsT P h L O t us x → HoldsT P h L O t vs y → eqCells us vs = some r → (Op.equalIn d t x y).run P w = .ok r w
  | 0, t, ks, hk, d, hd, _, _, us, vs, x, y, r, _, _, _, _, _ => by simp [kindsTy] at hk
  | f + 1, t, ks, hk, d, hd, h, O, us, vs, x, y, r, hu1, hv1, hx, hy, he => by
    obtain ⟨d, rfl⟩ : ∃ q, d = q + 1 := ⟨d - 1, by omega⟩
    unfold kindsTy at hk
    cases hu : P.underlying t with
    | none => simp [hu] at hk
    | some dd =>
      have leaf : (dd = .bool ∧ ks = [.b]) ∨ (∃ k, dd = .int k ∧ ks = [.i]) ∨ (dd = .string ∧ ks = [.s]) → (Op.equalIn (d + 1) t x y).run P w = .ok r w := by
        intro hl
        have hag : aggB P t = some false := by
          unfold aggB; rw [hu]
          rcases hl with ⟨rfl, _⟩ | ⟨k, rfl, _⟩ | ⟨rfl, _⟩ <;> rfl
        rcases hx with ⟨h1, _⟩ | ⟨_, u, rfl, hxu⟩
        · rw [hag] at h1; cases h1
        · rcases hy with ⟨h1, _⟩ | ⟨_, v, rfl, hyv⟩
          · rw [hag] at h1; cases h1
          · refine leaf_eq hu (by rcases hl with ⟨h, _⟩ | ⟨k, h, _⟩ | ⟨h, _⟩ <;> simp [h]) hxu hyv he d ?_ ?_ ?_
            · rintro rfl
              rcases hl with ⟨_, rfl⟩ | ⟨k, h, _⟩ | ⟨h, _⟩
              · cases u <;> simp [lkOf] at hu1; exact ⟨_, rfl⟩
              · cases h
              · cases h
            · rintro ⟨k', rfl⟩
              rcases hl with ⟨h, _⟩ | ⟨k, _, rfl⟩ | ⟨h, _⟩
              · cases h
              · cases u <;> simp [lkOf] at hu1; exact ⟨_, _, rfl⟩
              · cases h
            · rintro rfl
              rcases hl with ⟨h, _⟩ | ⟨k, h, _⟩ | ⟨_, rfl⟩
              · cases h
              · cases h
              · cases u <;> simp [lkOf] at hu1; exact ⟨_, rfl⟩
      cases dd <;> simp only [hu, Option.some.injEq, reduceCtorEq] at hk
      case bool => exact leaf (.inl ⟨rfl, hk.symm⟩)
      case int k => exact leaf (.inr (.inl ⟨k, rfl, hk.symm⟩))
      case string => exact leaf (.inr (.inr ⟨rfl, hk.symm⟩))
      case struct fs =>
        have hag : aggB P t = some true := by unfold aggB; rw [hu]; rfl
        rcases hx with ⟨_, c, rfl, hc⟩ | ⟨h1, _⟩
        · rcases hy with ⟨_, c', rfl, hc'⟩ | ⟨h1, _⟩
          · cases hst : P.stoodInHeld t with
            | true => simp [hst] at hk
            | false =>
              simp only [hst, Bool.false_eq_true, if_false] at hk
              have hfo : P.fieldsOf t = fs := by simp [Program.fieldsOf, hu]
              rw [run_equalIn_struct w d t c c' (by rw [hfo]; exact hu) hst, hfo]
              exact eq_fields f fs.toList 0 ks hk d (by omega) (by simpa using hu1) (by simpa using hv1) hc hc' (by simpa using he)
          · rw [hag] at h1; cases h1
        · rw [hag] at h1; cases h1
      case array len el =>
        have hag : aggB P t = some true := by unfold aggB; rw [hu]; rfl
        rcases hx with ⟨_, c, rfl, hc⟩ | ⟨h1, _⟩
        · rcases hy with ⟨_, c', rfl, hc'⟩ | ⟨h1, _⟩
          · cases hi : P.info? el with
            | none => simp [hi] at hk
            | some i =>
              cases hks : kindsTy P f el with
              | none => simp [hi, hks] at hk
              | some ke =>
                simp only [hi, hks] at hk
                by_cases hlen0 : ke.length = i.size ∧ 0 < i.size
                · rw [if_pos hlen0] at hk
                  obtain ⟨hlen, hpos⟩ := hlen0
                  simp only [Option.some.injEq] at hk
                  subst hk
                  have hszB : szB P el i.size = true := by simp [szB, hi]
                  obtain ⟨b, hb1, hb2⟩ := kindsTy_agg hks
                  -- cut into elements
                  have main : ∀ (k : Nat) (o : Nat) (r : Bool), (us.drop o).map lkOf = ((List.replicate k ke).flatten).map some → (vs.drop o).map lkOf = ((List.replicate k ke).flatten).map some → eqCells (us.drop o) (vs.drop o) = some r →
                      ∃ g : Nat → Bool, r = (List.range k).all g ∧ ∀ q, q < k → ∃ x y, (part el c (o + q * i.size)).run P w = .ok x w ∧ (part el c' (o + q * i.size)).run P w = .ok y w ∧ (Op.equalIn d el x y).run P w = .ok (g q) w := by
                    intro k
                    induction k with
                    | zero =>
                      intro o r h1 h2 h3
                      have e1 : us.drop o = [] := by simpa using h1
                      have e2 : vs.drop o = [] := by simpa using h2
                      rw [e1, e2] at h3
                      simp [eqCells] at h3
                      exact ⟨fun _ => true, by simp [← h3], fun q hq => by omega⟩
                    | succ k ih =>
                      intro o r h1 h2 h3
                      rw [List.replicate_succ, List.flatten_cons] at h1 h2
                      obtain ⟨a1, a2⟩ := map_take_drop h1
                      obtain ⟨b1, b2⟩ := map_take_drop h2
                      rw [take_drop_split us o ke.length, take_drop_split vs o ke.length] at h3
                      have l1 : ((us.drop o).take ke.length).length = ke.length := by have := congrArg List.length a1; simpa using this
                      have l2 : ((vs.drop o).take ke.length).length = ke.length := by have := congrArg List.length b1; simpa using this
                      obtain ⟨r1, r2, c1, c2, rfl⟩ := eqCells_append (by rw [l1, l2]) h3
                      obtain ⟨g, g1, g2⟩ := ih (o + ke.length) r2 a2 b2 c2
                      have hle1 : o + i.size ≤ us.length := by rw [← hlen]; simp at l1; omega
                      have hle2 : o + i.size ≤ vs.length := by rw [← hlen]; simp at l2; omega
                      obtain ⟨x, p1, p2⟩ := part_holds' (w := w) hb1 (fun h => by rw [← hlen]; exact hb2 h) hszB hc hle1
                      obtain ⟨y, q1, q2⟩ := part_holds' (w := w) hb1 (fun h => by rw [← hlen]; exact hb2 h) hszB hc' hle2
                      rw [← hlen] at p2 q2
                      have heq := eq_ty f el ke hks d (by omega) a1 b1 p2 q2 c1
                      refine ⟨fun q => match q with | 0 => r1 | q + 1 => g q, ?_, fun q hq => ?_⟩
                      · rw [List.range_succ_eq_map, List.all_cons, List.all_map, g1]; rfl
                      · cases q with
                        | zero => exact ⟨x, y, by simpa using p1, by simpa using q1, heq⟩
                        | succ q =>
                          obtain ⟨x', y', s1, s2, s3⟩ := g2 q (by omega)
                          rw [hlen] at s1 s2
                          refine ⟨x', y', ?_, ?_, s3⟩
                          · rw [← s1]; congr 2; rw [Nat.add_mul]; omega
                          · rw [← s2]; congr 2; rw [Nat.add_mul]; omega
                  obtain ⟨g, g1, g2⟩ := main len 0 r (by simpa using hu1) (by simpa using hv1) (by simpa using he)
                  rw [g1]
                  exact run_eqArray d len el i.size t c c' hu (run_size w hszB) g (fun q hq => by simpa using g2 q hq)
                · rw [if_neg hlen0] at hk; cases hk
          · rw [hag] at h1; cases h1
        · rw [hag] at h1; cases h1
theorem eq_fields : ∀ (f : Nat) (fs : List Field) (o : Nat) (ks : List LK), kindsFields P f fs o = some ks → ∀ (d : Nat), f ≤ d → ∀ {h : Array Obj} {O : Nat → Prop} {us vs : List AV} {c c' : Array Value} {r : Bool}, (us.drop o).map lkOf = ks.map some → (vs.drop o).map lkOf = ks.map some →
    VRs h L O us c.toList → VRs h L O vs c'.toList → eqCells (us.drop o) (vs.drop o) = some r → (Op.eqFields d c c' fs).run P w = .ok r w
  | 0, _, _, _, hk, _, _, _, _, _, _, _, _, _, _, _, _, _, _ => by simp [kindsFields] at hk
  | f + 1, [], o, ks, hk, d, hd, h, O, us, vs, c, c', r, hu1, hv1, hc, hc', he => by
    simp [kindsFields] at hk
    subst hk
    have e1 : us.drop o = [] := by simpa using hu1
    have e2 : vs.drop o = [] := by simpa using hv1
    rw [e1, e2] at he
    simp [eqCells] at he
    subst he
    rfl
  | f + 1, fd :: fs, o, ks, hk, d, hd, h, O, us, vs, c, c', r, hu1, hv1, hc, hc', he => by
    unfold kindsFields at hk
    cases hi : P.info? fd.type with
    | none => simp [hi] at hk
    | some i =>
      cases hks : kindsTy P f fd.type with
      | none => simp [hi, hks] at hk
      | some ke =>
        simp only [hi, hks] at hk
        by_cases hcond : fd.name ≠ "_" ∧ fd.offset = o ∧ ke.length = i.size ∧ 0 < i.size
        · rw [if_pos hcond] at hk
          obtain ⟨hn, ho, hlen, hpos⟩ := hcond
          simp only [Option.map_eq_some_iff] at hk
          obtain ⟨k2, hk2, rfl⟩ := hk
          obtain ⟨a1, a2⟩ := map_take_drop hu1
          obtain ⟨b1, b2⟩ := map_take_drop hv1
          rw [take_drop_split us o ke.length, take_drop_split vs o ke.length] at he
          have l1 : ((us.drop o).take ke.length).length = ke.length := by have := congrArg List.length a1; simpa using this
          have l2 : ((vs.drop o).take ke.length).length = ke.length := by have := congrArg List.length b1; simpa using this
          obtain ⟨r1, r2, c1, c2, rfl⟩ := eqCells_append (by rw [l1, l2]) he
          obtain ⟨b, hb1, hb2⟩ := kindsTy_agg hks
          have hszB : szB P fd.type i.size = true := by simp [szB, hi]
          have hle1 : o + i.size ≤ us.length := by rw [← hlen]; simp at l1; omega
          have hle2 : o + i.size ≤ vs.length := by rw [← hlen]; simp at l2; omega
          obtain ⟨x, p1, p2⟩ := part_holds' (w := w) hb1 (fun h => by rw [← hlen]; exact hb2 h) hszB hc hle1
          obtain ⟨y, q1, q2⟩ := part_holds' (w := w) hb1 (fun h => by rw [← hlen]; exact hb2 h) hszB hc' hle2
          rw [← hlen] at p2 q2
          have heq := eq_ty f fd.type ke hks d (by omega) a1 b1 p2 q2 c1
          have hrest := eq_fields f fs (o + i.size) k2 hk2 d (by omega) (by rw [← hlen]; exact a2) (by rw [← hlen]; exact b2) hc hc' (by rw [← hlen]; exact c2)
          unfold Op.eqFields
          rw [if_pos hn]
          rw [ho]
          simp only [Sem.run_bind, p1, q1, heq, Result.andThen_ok]
          cases r1
          · simp
          · simp [hrest]
        · rw [if_neg hcond] at hk; cases hk
end

theorem g_eqa (hR : MRel C m w L) (hE : ERel C e m a w L) {neg : Bool} {t t' : TypeId} {x y : Operand} {x' y' : Opn} {ks : List LK} (ho : o.op = .binOp (bif neg then .neq else .eql) t x y t') (hk : kindsTy P 60 t = some ks) (hag : aggB P t = some true) (hm : P.eqGuardType P.depth t = false) (hx : opnOk x x' = true) (hy : opnOk y y' = true) {out : Out} (hev : evD (.eqa ks neg x' y') e m = some out) : Good P C m w L o a out := by
  have hx := opn_rel hE hx
  have hy := opn_rel hE hy
  simp only [evD] at hev
  generalize x'.ev e = u at hx hev
  generalize y'.ev e = v at hy hev
  generalize hra : a.eval x = r at hx
  generalize hrb : a.eval y = s at hy
  split at hev
  case h_2 => simp at hev
  rename_i us vs
  cases hkk : (matchK us ks && matchK vs ks) with
  | false => simp [hkk] at hev
  | true =>
    simp only [hkk, cond_true, Option.map_eq_some_iff] at hev
    obtain ⟨b, hb, rfl⟩ := hev
    simp only [Bool.and_eq_true] at hkk
    cases hx with
    | agg _ c hc =>
      cases hy with
      | agg _ c' hc' =>
        have heq := eq_ty (w := w) 60 t ks hk 10000 (by omega) (matchK_map hkk.1) (matchK_map hkk.2) (.inl ⟨hag, c, rfl, hc⟩) (.inl ⟨hag, c', rfl, hc'⟩) hb
        have hg : ∀ op, (eqGuard op t x y (.agg c) (.agg c')).run P w = .ok () w := fun op => run_eqGuard_agg w op t x y c c' hm
        refine good_pure hR (r := .bool (bif neg then !b else b)) ?_ (.bool _)
        cases neg
        · simp only [cond_false] at ho ⊢
          have := run_eql_struct (P := P) w t c c'
          simp [execOp, ho, hra, hrb, hg, this, heq]
        · simp only [cond_true] at ho ⊢
          have := run_neq_struct (P := P) w t c c'
          simp [execOp, ho, hra, hrb, hg, this, heq]

end
end Go.Wit
