/- Each told operation does what is told of it (fifth part: new variables, values built of parts, slices made, copied, turned into strings; assertions; functions as values); no condition. -/
import Derived.Test.YtdobchoiiihfiaaA6
import Derived.Laws.BytesArg
import Derived.Laws.MakeOwn
import Derived.Laws.StructEq
set_option linter.unusedVariables false
set_option linter.unusedSimpArgs false
namespace Go.Wit
section
variable {P : Program} {C : Ctx} {m : Mem} {w : World} {L : Lay} {e : Env} {a : Act} {o : Oper}

theorem upd_new {m : Mem} {b : Blk} : m.upd (some (m.length, b)) = m ++ [some b] := by
  simp [Mem.upd, blt_false (Nat.lt_irrefl m.length)]

theorem Lay.put_self (L : Lay) (l : Nat) (e : LE) : L.put l e l = some e := by simp [Lay.put]

/-- A new block and a pointer or a slice onto it. -/
theorem good_new (hR : MRel C m w L) {r : Value} {v : AV} (c : Array Value) (T : TypeId) (blk : Blk) (tot : Nat) (hc : c.size = tot * blk.es) (hn : blk.n ≤ tot)
    (hv : ∀ i j, i < blk.n → j < blk.es → ∃ u, c[i * blk.es + j]? = some u ∧ VR w.heap L (OO C m L) (blk.get i j) u ∧ u.oneCell' = true) {w' : World} (hw : w' = { w with heap := w.heap.push (.cells c T (0, 0)), drawn := w'.drawn })
    (hr : (execOp a.eval o).run P w = .ok (.value r) w') (hvr : ∀ h L' O, L' m.length = some ⟨w.heap.size, blk.es, tot⟩ → VR h L' O v r) : Good P C m w L o a ⟨true, v, some (m.length, blk)⟩ := by
  obtain ⟨h1, h2⟩ := hR.new c T blk tot hc hn hv w' hw
  refine ⟨r, w', L.put m.length ⟨w.heap.size, blk.es, tot⟩, .inl hr, ?_, ?_, ?_⟩
  · rw [upd_new]; exact h1
  · rw [upd_new]; exact h2
  · exact ⟨hvr _ _ _ (Lay.put_self _ _ _), fun h => by simp at h⟩

def zeroB (P : Program) (t es n : Nat) (zs : List AV) : Bool :=
  match P.info? t with
  | some i => match i.zero with
    | some z => z.cells.size == n * es && (List.range n).all fun i => (List.range es).all fun j => match z.cells[i * es + j]? with | some v => cstOk (zs.getD j .un) v && isCell (zs.getD j .un) | none => false
    | none => false
  | none => false

theorem zeroB_spec {t es n : Nat} {zs : List AV} (h : zeroB P t es n zs = true) : ∃ i z, P.info? t = some i ∧ i.zero = some z ∧ z.cells.size = n * es ∧ ∀ i j, i < n → j < es → ∃ v, z.cells[i * es + j]? = some v ∧ cstOk (zs.getD j .un) v = true ∧ isCell (zs.getD j .un) = true := by
  unfold zeroB at h
  split at h
  · rename_i i hi
    split at h
    · rename_i z hz
      simp only [Bool.and_eq_true, beq_iff_eq, List.all_eq_true, List.mem_range] at h
      refine ⟨i, z, hi, hz, h.1, fun p q hp hq => ?_⟩
      have := h.2 p hp q hq
      split at this
      · rename_i v hv; simp only [Bool.and_eq_true] at this; exact ⟨v, hv, this.1, this.2⟩
      · cases this
    · cases h
  · cases h

theorem g_alloc (hR : MRel C m w L) {t es n : Nat} {zs : List AV} (ho : o.op = .alloc t) (hz : zeroB P t es n zs = true) {out : Out} (hev : evD (.alloc es n zs) e m = some out) : Good P C m w L o a out := by
  obtain ⟨i, z, hi, hz, h1, h2⟩ := zeroB_spec hz
  simp only [evD, newV, Option.some.injEq] at hev; subst hev
  refine good_new hR (w' := { w with heap := w.heap.push (.cells z.cells t (0, 0)) }) z.cells t _ n h1 (Nat.le_refl _) (fun i j hi hj => ?_) rfl (r := .pointer (some ⟨w.heap.size, 0, none⟩)) ?_ ?_
  · obtain ⟨v, g1, g2, g3⟩ := h2 i j hi hj
    have := cstOk_sound (h := w.heap) (L := L) (O := OO C m L) _ _ g2
    exact ⟨v, g1, this, this.oneCell g3⟩
  · simp [execOp, ho, Instr.alloc, zeroValue, typeInfo, hi, hz, newVar, newRow]
  · intro h L' O hl
    have := VR.ptr (h := h) (O := O) m.length 0 0 _ hl
    simpa using this

theorem g_box (hR : MRel C m w L) (hE : ERel C e m a w L) {t es n : Nat} {x : Operand} {x' : Opn} (ho : o.op = .box t x) (hx : opnOk x x' = true) {out : Out} (hev : evD (.box es n x') e m = some out) : Good P C m w L o a out := by
  have hx := opn_rel hE hx
  simp only [evD] at hev
  cases hc : hasCells (x'.ev e) (es * n) with
  | false => simp [hc] at hev
  | true =>
    simp only [hc, cond_true, newV, Option.some.injEq] at hev; subst hev
    obtain ⟨h1, h2, h3⟩ := hx.cells hc
    have hl : (cellsOf (x'.ev e)).length = es * n := by simp [hasCells] at hc; exact hc.1
    refine good_new hR (w' := { w with heap := w.heap.push (.cells (a.eval x).cells t (0, 0)) }) (a.eval x).cells t _ n (by rw [h2, Nat.mul_comm]) (Nat.le_refl _) (fun i j hi hj => ?_) rfl (r := .pointer (some ⟨w.heap.size, 0, none⟩)) ?_ ?_
    · have hlt : i * es + j < es * n := by
        have : (i + 1) * es ≤ n * es := Nat.mul_le_mul_right _ hi
        rw [Nat.add_mul] at this; rw [Nat.mul_comm es n]; simp only at hj; omega
      obtain ⟨q, q1, q2⟩ := h1.get (i * es + j) (by rw [hl]; exact hlt)
      exact ⟨q, by simpa using q1, q2, h3 q (List.mem_of_getElem? q1)⟩
    · simp [execOp, ho, Instr.box, newVar, newRow]
    · intro h L' O hl
      have := VR.ptr (h := h) (O := O) m.length 0 0 _ hl
      simpa using this

theorem getElem?_splice' {α : Type} (c : List α) (o : Nat) (vs : List α) (k : Nat) (h : o + vs.length ≤ c.length) : (c.take o ++ (vs ++ c.drop (o + vs.length)))[k]? = if o ≤ k ∧ k < o + vs.length then vs[k - o]? else c[k]? := by
  by_cases h1 : k < o
  · rw [List.getElem?_append_left (by simp; omega), List.getElem?_take, if_pos h1, if_neg (by omega)]
  · by_cases h2 : k < o + vs.length
    · rw [List.getElem?_append_right (by simp; omega), List.getElem?_append_left (by simp; omega), if_pos ⟨by omega, h2⟩]
      congr 1
      simp; omega
    · rw [List.getElem?_append_right (by simp; omega), List.getElem?_append_right (by simp; omega), List.getElem?_drop, if_neg (by omega)]
      congr 1
      simp; omega

theorem foldl_sets (off : Nat) : ∀ (vs : List Value) (k : Nat) (c : Array Value), off + k + vs.length ≤ c.size →
    ((vs.zipIdx k).foldl (fun cs p => cs.setIfInBounds (off + p.2) p.1) c).size = c.size ∧
    ∀ x : Nat, ((vs.zipIdx k).foldl (fun cs p => cs.setIfInBounds (off + p.2) p.1) c)[x]? = if off + k ≤ x ∧ x < off + k + vs.length then vs[x - (off + k)]? else c[x]?
  | [], k, c, _ => by
    refine ⟨rfl, fun x => ?_⟩
    simp only [List.zipIdx_nil, List.foldl_nil, List.length_nil]
    rw [if_neg (by omega)]
  | v :: vs, k, c, h => by
    simp only [List.length_cons] at h
    obtain ⟨h1, h2⟩ := foldl_sets off vs (k + 1) (c.setIfInBounds (off + k) v) (by simp; omega)
    simp only [List.zipIdx_cons, List.foldl_cons]
    refine ⟨by rw [h1]; simp, fun x => ?_⟩
    rw [h2 x]
    simp only [List.length_cons]
    by_cases hx : x = off + k
    · subst hx
      rw [if_neg (by omega), if_pos (by omega)]
      simp [Array.getElem?_setIfInBounds, show off + k < c.size from by omega]
    · by_cases hin : off + (k + 1) ≤ x ∧ x < off + (k + 1) + vs.length
      · rw [if_pos hin, if_pos (by omega)]
        rw [show x - (off + k) = (x - (off + (k + 1))) + 1 from by omega, List.getElem?_cons_succ]
      · rw [if_neg hin, if_neg (by omega), Array.getElem?_setIfInBounds, if_neg (by omega)]

theorem fill_sound {h : Array Obj} {L : Lay} {O : Nat → Prop} (place : Nat → Option (Nat × Nat)) : ∀ (parts : List (Nat × Value)) (vp : List (Nat × Nat × AV)) (c : Array Value) (cs : List AV) {cs' : List AV},
    parts.length = vp.length → (∀ (k : Nat) (p : Nat × Value) (q : Nat × Nat × AV), parts[k]? = some p → vp[k]? = some q → place p.1 = some (q.1, q.2.1) ∧ VR h L O q.2.2 p.2) → VRs h L O cs c.toList → fillV cs vp = some cs' →
    ∃ c', Instr.fill place c parts = some c' ∧ VRs h L O cs' c'.toList ∧ cs'.length = cs.length
  | [], [], c, cs, cs', _, _, hv, hf => by simp [fillV] at hf; subst hf; exact ⟨c, rfl, hv, rfl⟩
  | [], q :: vp, c, cs, cs', hl, _, _, _ => by simp at hl
  | p :: parts, [], c, cs, cs', hl, _, _, _ => by simp at hl
  | (i, v) :: parts, (off, sz, u) :: vp, c, cs, cs', hl, hp, hv, hf => by
    obtain ⟨g1, g2⟩ := hp 0 (i, v) (off, sz, u) (by simp) (by simp)
    simp only [fillV] at hf
    cases hc : (hasCells u sz && Nat.ble (off + sz) cs.length) with
    | false => simp [hc] at hf
    | true =>
      simp only [hc, cond_true] at hf
      simp only [Bool.and_eq_true] at hc
      obtain ⟨k1, k2, k3⟩ := g2.cells hc.1
      have hle := Nat.le_of_ble_eq_true hc.2
      have hlen := hv.length
      have hlu : (cellsOf u).length = sz := by have := hc.1; simp [hasCells] at this; exact this.1
      have hvs : v.cells.toList.length = sz := by simpa using k2
      have hsz : c.size = cs.length := by simpa using hlen
      obtain ⟨s1, s2⟩ := foldl_sets off v.cells.toList 0 c (by rw [hvs]; omega)
      have hfold : (v.cells.zipIdx.foldl (fun cs p => cs.setIfInBounds (off + p.2) p.1) c) = ((v.cells.toList.zipIdx 0).foldl (fun cs p => cs.setIfInBounds (off + p.2) p.1) c) := by
        rw [← Array.foldl_toList]; simp
      have hsetl : (setL cs off (cellsOf u)).length = cs.length := by simp [setL, hlu]; omega
      have hnew : VRs h L O (setL cs off (cellsOf u)) (v.cells.zipIdx.foldl (fun cs p => cs.setIfInBounds (off + p.2) p.1) c).toList := by
        refine VRs.of_get ?_ (fun x d hd => ?_)
        · rw [hfold]; simp only [Array.length_toList, s1, hsetl]; exact hsz
        · rw [hfold] at hd
          simp only [Array.getElem?_toList] at hd
          rw [s2 x, hvs] at hd
          have hg : (setL cs off (cellsOf u))[x]? = if off ≤ x ∧ x < off + sz then (cellsOf u)[x - off]? else cs[x]? := by
            unfold setL; rw [getElem?_splice' _ _ _ _ (by rw [hlu]; omega), hlu]
          simp only [List.getD, hg]
          simp only [Nat.add_zero] at hd
          by_cases hin : off ≤ x ∧ x < off + sz
          · rw [if_pos hin] at hd ⊢
            obtain ⟨q, q1, q2⟩ := k1.get (x - off) (by rw [hlu]; omega)
            rw [q1] at hd; obtain rfl := Option.some.inj hd
            exact q2
          · rw [if_neg hin] at hd ⊢
            have hxl : x < cs.length := by
              rcases Nat.lt_or_ge x cs.length with h1 | h1
              · exact h1
              · rw [Array.getElem?_eq_none (by omega)] at hd; cases hd
            obtain ⟨q, q1, q2⟩ := hv.get x hxl
            have : c[x]? = some q := by simpa using q1
            rw [this] at hd; obtain rfl := Option.some.inj hd
            exact q2
      obtain ⟨c', r1, r2, r3⟩ := fill_sound place parts vp _ _ (by simpa using hl) (fun k p q h1 h2 => hp (k + 1) p q (by simpa using h1) (by simpa using h2)) hnew hf
      refine ⟨c', ?_, r2, by rw [r3, hsetl]⟩
      simp only [Instr.fill, g1]
      rw [if_neg]
      · exact r1
      · have : v.cells.size = sz := k2
        simp [this]; omega

def placeOf (P : Program) (t i : Nat) : Option (Nat × Nat) :=
  match P.underlying t with
  | some (.struct fs) => match fs[i]? with
    | some f => (P.info? f.type).map fun j => (f.offset, j.size)
    | none => none
  | some (.array _ el) => (P.info? el).map fun j => (i * j.size, j.size)
  | _ => none

def zerosB (P : Program) (t : Nat) (zs : List AV) : Bool :=
  match P.info? t with
  | some i => match i.zero with
    | some z => cstsOk zs z.cells.toList
    | none => false
  | none => false

def fieldsB (P : Program) (t : Nat) : Bool :=
  match P.underlying t with
  | some (.struct fs) => fs.toList.all fun f => (P.info? f.type).isSome
  | some (.array _ el) => (P.info? el).isSome
  | _ => false

def partsOk (P : Program) (t : Nat) : List (Nat × Operand) → List (Nat × Nat × Opn) → Bool
  | [], [] => true
  | (i, x) :: ps, (off, sz, y) :: qs => (placeOf P t i == some (off, sz)) && (opnOk x y && partsOk P t ps qs)
  | _, _ => false

theorem partsOk_spec (hE : ERel C e m a w L) (t : Nat) : ∀ (ps : List (Nat × Operand)) (qs : List (Nat × Nat × Opn)), partsOk P t ps qs = true → ps.length = qs.length ∧
    ∀ (k : Nat) (p : Nat × Value) (q : Nat × Nat × AV), (ps.map fun p => (p.1, a.eval p.2))[k]? = some p → (qs.map fun p => (p.1, p.2.1, p.2.2.ev e))[k]? = some q → placeOf P t p.1 = some (q.1, q.2.1) ∧ VR w.heap L (OO C m L) q.2.2 p.2
  | [], [], _ => ⟨rfl, fun k p q h => by simp at h⟩
  | [], q :: qs, h => by simp [partsOk] at h
  | p :: ps, [], h => by simp [partsOk] at h
  | (i, x) :: ps, (off, sz, y) :: qs, h => by
    simp only [partsOk, Bool.and_eq_true, beq_iff_eq] at h
    obtain ⟨h1, h2, h3⟩ := h
    obtain ⟨r1, r2⟩ := partsOk_spec hE t ps qs h3
    refine ⟨by simp [r1], fun k p q hp hq => ?_⟩
    cases k with
    | zero =>
      simp at hp hq
      subst hp; subst hq
      exact ⟨h1, opn_rel hE h2⟩
    | succ k => exact r2 k p q (by simpa using hp) (by simpa using hq)

theorem mapM_some {α β : Type} (f : α → Option β) : ∀ (l : List α), (l.all fun x => (f x).isSome) = true → ∃ r, l.mapM f = some r ∧ ∀ k : Nat, r[k]? = (l[k]?).bind f
  | [], _ => ⟨[], by simp, fun k => by simp⟩
  | x :: l, h => by
    simp only [List.all_cons, Bool.and_eq_true] at h
    obtain ⟨r, h1, h2⟩ := mapM_some f l h.2
    obtain ⟨y, hy⟩ := Option.isSome_iff_exists.1 h.1
    refine ⟨y :: r, by simp [List.mapM_cons, hy, h1], fun k => ?_⟩
    cases k with
    | zero => simp [hy]
    | succ k => simpa using h2 k

theorem built_of {t : Nat} {z : Value} {i : TypeInfo} (hi : P.info? t = some i) (hz : i.zero = some z) (hf : fieldsB P t = true) (parts : List (Nat × Value)) : P.built t parts = Instr.fill (placeOf P t) z.cells parts := by
  unfold Program.built
  rw [hi]
  unfold fieldsB at hf
  cases hu : P.underlying t with
  | none => simp [hu] at hf
  | some d =>
    cases d <;> simp only [hu, Bool.false_eq_true] at hf
    case array n el =>
      cases hie : P.info? el with
      | none => simp [hie] at hf
      | some ie =>
        simp only [hz, hie]
        congr 1
        funext k
        simp [placeOf, hu, hie]
    case struct fs =>
      have hmap : (fs.toList.all fun f => ((P.info? f.type).map fun i => (f.offset, i.size)).isSome) = true := by simpa using hf
      obtain ⟨r, h1, h2⟩ := mapM_some (fun f : Field => (P.info? f.type).map fun i => (f.offset, i.size)) fs.toList hmap
      simp only [hz, h1]
      congr 1
      funext k
      simp only [List.getElem?_toArray, h2, placeOf, hu]
      simp only [Array.getElem?_toList]
      cases fs[k]? <;> rfl

theorem g_build (hR : MRel C m w L) (hE : ERel C e m a w L) {t : Nat} {parts : Array (Nat × Operand)} {zs : List AV} {qs : List (Nat × Nat × Opn)} (ho : o.op = .build t parts) (hz : zerosB P t zs = true) (hf : fieldsB P t = true) (hp : partsOk P t parts.toList qs = true)
    {out : Out} (hev : evD (.build zs qs) e m = some out) : Good P C m w L o a out := by
  unfold zerosB at hz
  split at hz
  · rename_i i hi
    split at hz
    · rename_i z hz'
      simp only [evD] at hev
      cases hfv : fillV zs (qs.map fun p => (p.1, p.2.1, p.2.2.ev e)) with
      | none => simp [hfv] at hev
      | some cs' =>
        simp [hfv] at hev; subst hev
        obtain ⟨p1, p2⟩ := partsOk_spec hE t _ _ hp
        obtain ⟨c', r1, r2, r3⟩ := fill_sound (h := w.heap) (L := L) (O := OO C m L) (placeOf P t) (parts.toList.map fun p => (p.1, a.eval p.2)) _ z.cells zs (by simp [p1]) p2 (cstsOk_sound _ _ hz) hfv
        have hb := run_build (P := P) w t (parts.map fun (i, x) => (i, a.eval x)) c' (by rw [built_of hi hz' hf]; simpa using r1)
        exact good_pure hR (r := .agg c') (by simp [execOp, ho, hb]) (.agg _ _ r2)
    · cases hz
  · cases hz

theorem reps_length (zs : List AV) : ∀ n, (reps zs n).length = n * zs.length
  | 0 => by simp [reps]
  | n + 1 => by simp [reps, reps_length zs n, Nat.add_mul]; omega

theorem reps_get (zs : List AV) : ∀ n k, k < n * zs.length → (reps zs n).getD k .un = zs.getD (k % zs.length) .un
  | 0, k, h => by simp at h
  | n + 1, k, h => by
    by_cases hk : k < zs.length
    · rw [Nat.mod_eq_of_lt hk]
      simp [reps, List.getD, List.getElem?_append_left hk]
    · have h1 : k - zs.length < n * zs.length := by rw [Nat.add_mul] at h; omega
      have := reps_get zs n (k - zs.length) h1
      simp only [reps, List.getD] at this ⊢
      rw [List.getElem?_append_right (by omega), this, ← Nat.mod_eq_sub_mod (by omega)]

def elemB (P : Program) (t es : Nat) (zs : List AV) : Bool :=
  match P.underlying t with
  | some (.slice el) => match P.info? el with
    | some i => match i.zero with
      | some z => i.size == es && (zs.length == es && (cstsOk zs z.cells.toList && zs.all isCell))
      | none => false
    | none => false
  | _ => false

theorem elemB_spec {t es : Nat} {zs : List AV} (h : elemB P t es zs = true) : ∃ el i z, P.underlying t = some (.slice el) ∧ P.info? el = some i ∧ i.zero = some z ∧ i.size = es ∧ zs.length = es ∧ cstsOk zs z.cells.toList = true ∧ zs.all isCell = true := by
  unfold elemB at h
  split at h
  · rename_i el hu
    split at h
    · rename_i i hi
      split at h
      · rename_i z hz
        simp only [Bool.and_eq_true, beq_iff_eq] at h
        exact ⟨el, i, z, hu, hi, hz, h.1, h.2.1, h.2.2.1, h.2.2.2⟩
      · cases h
    · cases h
  · cases h

theorem made_rel {h : Array Obj} {O : Nat → Prop} {zs : List AV} {z : Array Value} (hz : cstsOk zs z.toList = true) {n k : Nat} (hk : k < n) (hpos : 0 < zs.length) : ∃ v, (madeCells z n)[k]? = some v ∧ VR h L O (zs.getD (k % zs.length) .un) v := by
  have hv := cstsOk_sound (h := h) (L := L) (O := O) _ _ hz
  have hl : z.size = zs.length := by simpa using hv.length
  obtain ⟨q, q1, q2⟩ := hv.get (k % zs.length) (Nat.mod_lt _ hpos)
  refine ⟨q, ?_, q2⟩
  have h2 : k % z.size < z.size := by rw [hl]; exact Nat.mod_lt _ hpos
  have q3 : z[k % z.size]? = some q := by rw [hl]; simpa using q1
  simp only [madeCells, Array.getElem?_map, Array.getElem?_range, if_pos hk, Option.map_some]
  rw [getElem!_pos z _ h2, ← q3, Array.getElem?_eq_getElem h2]

theorem g_bsl (hR : MRel C m w L) (hE : ERel C e m a w L) {t es len : Nat} {parts : Array (Nat × Operand)} {zs : List AV} {qs : List (Nat × Nat × Opn)} (ho : o.op = .buildSlice t len parts) (hz : elemB P t es zs = true) (hlim : len * es ≤ 16777216)
    (hp : parts.size = qs.length ∧ ∀ (k : Nat) (p : Nat × Operand) (q : Nat × Nat × Opn), parts.toList[k]? = some p → qs[k]? = some q → q.1 = p.1 * es ∧ q.2.1 = es ∧ opnOk p.2 q.2.2 = true) {out : Out} (hev : evD (.bsl es len zs qs) e m = some out) : Good P C m w L o a out := by
  obtain ⟨el, i, z, hu, hi, hz, hsz, hzl, hcs, hic⟩ := elemB_spec hz
  simp only [evD] at hev
  cases hfv : fillV (reps zs len) (qs.map fun p => (p.1, p.2.1, p.2.2.ev e)) with
  | none => simp [hfv] at hev
  | some cs' =>
    have hall : cs'.all isCell = true := by
      cases h : cs'.all isCell with
      | true => rfl
      | false => simp [hfv, h] at hev
    simp only [hfv, hall, cond_true, newV, Option.some.injEq] at hev; subst hev
    have hv := cstsOk_sound (h := w.heap) (L := L) (O := OO C m L) _ _ hcs
    have hreps : VRs w.heap L (OO C m L) (reps zs len) (madeCells z.cells (len * es)).toList := by
      refine VRs.of_get (by simp [reps_length, size_madeCells, hzl]) (fun k d hd => ?_)
      have hk : k < len * es := by
        rcases Nat.lt_or_ge k (len * es) with h1 | h1
        · exact h1
        · rw [List.getElem?_eq_none (by simp [size_madeCells]; omega)] at hd; cases hd
      have hpos : 0 < zs.length := by
        rw [hzl]
        rcases Nat.eq_zero_or_pos es with h0 | h0
        · subst h0; simp at hk
        · exact h0
      obtain ⟨v, v1, v2⟩ := made_rel (L := L) (h := w.heap) (O := OO C m L) hcs hk hpos
      simp only [Array.getElem?_toList] at hd
      rw [v1] at hd; obtain rfl := Option.some.inj hd
      rw [reps_get zs len k (by rw [hzl]; exact hk)]; exact v2
    obtain ⟨c', r1, r2, r3⟩ := fill_sound (h := w.heap) (L := L) (O := OO C m L) (fun i => some (i * es, es)) (parts.toList.map fun p => (p.1, a.eval p.2)) _ (madeCells z.cells (len * es)) (reps zs len) (by simp [hp.1]) (fun k p q h1 h2 => by
      simp only [List.getElem?_map, Option.map_eq_some_iff] at h1 h2
      obtain ⟨p', h1, rfl⟩ := h1
      obtain ⟨q', h2, rfl⟩ := h2
      obtain ⟨e1, e2, e3⟩ := hp.2 k p' q' h1 h2
      exact ⟨by simp [e1, e2], opn_rel hE e3⟩) hreps hfv
    have hl' : c'.size = len * es := by have := r2.length; simp [r3, reps_length, hzl] at this; exact this
    have hrun : (Instr.buildSlice t len (parts.map fun x => (x.1, a.eval x.2))).run P w = .ok (.slice (some ⟨w.heap.size, 0, none⟩) len len) { w with heap := w.heap.push (.cells c' el (0, 0)) } := by
      have r1' : Instr.fill (fun i => some (i * es, es)) ((Array.range (len * es)).map (z.cells[· % z.cells.size]!)) ((parts.map fun x => (x.1, a.eval x.2)).toList) = some c' := by
        have : (parts.map fun x => (x.1, a.eval x.2)).toList = parts.toList.map fun p => (p.1, a.eval p.2) := by simp
        rw [this]; exact r1
      by_cases h0 : len * es = 0
      · have r2' : Instr.fill (fun i => some (i * es, es)) ((Array.range (len * es)).map ((#[] : Array Value)[· % (#[] : Array Value).size]!)) ((parts.map fun x => (x.1, a.eval x.2)).toList) = some c' := by
          have e0 : ((Array.range (len * es)).map ((#[] : Array Value)[· % (#[] : Array Value).size]!)) = ((Array.range (len * es)).map (z.cells[· % z.cells.size]!)) := by rw [h0]; simp
          rw [e0]; exact r1'
        have hle : ¬ (len * es > 2 ^ 24) := by omega
        simp only [Instr.buildSlice, Sem.run_bind, run_underlying hu, Result.andThen_ok, sizeOf, typeInfo, run_program, hi, Sem.run_pure, hsz, hle, if_false, h0, if_true]
        rw [h0] at r2'
        rw [if_neg (by decide)]
        simp only [Sem.run_bind, Sem.run_pure, Result.andThen_ok]
        rw [r2']
        simp [newRow]
      · have hle : ¬ (len * es > 2 ^ 24) := by omega
        simp only [Instr.buildSlice, Sem.run_bind, run_underlying hu, Result.andThen_ok, sizeOf, typeInfo, run_program, hi, Sem.run_pure, hsz, hle, if_false, h0, zeroValue, hz]
        rw [r1']
        simp [newRow]
    refine good_new hR (w' := { w with heap := w.heap.push (.cells c' el (0, 0)) }) c' el _ len hl' (Nat.le_refl _) (fun i j hi hj => ?_) rfl (r := .slice (some ⟨w.heap.size, 0, none⟩) len len) ?_ ?_
    · have hlt : i * es + j < len * es := by
        have : (i + 1) * es ≤ len * es := Nat.mul_le_mul_right _ hi
        rw [Nat.add_mul] at this; simp only at hj; omega
      have hlt' : i * es + j < cs'.length := by rw [r3, reps_length, hzl]; exact hlt
      obtain ⟨q, q1, q2⟩ := r2.get (i * es + j) hlt'
      refine ⟨q, by simpa using q1, q2, q2.oneCell ?_⟩
      rw [List.all_eq_true] at hall
      exact hall _ (by simp only [List.getD, List.getElem?_eq_getElem hlt', Option.getD_some]; exact List.getElem_mem hlt')
    · simp [execOp, ho, hrun]
    · intro h L' O hl
      have := VR.sl (h := h) (O := O) m.length 0 len len _ hl (Nat.le_refl _) (by simp)
      simpa using this

theorem g_mksl (hR : MRel C m w L) (hE : ERel C e m a w L) {t es bytes : Nat} {x y : Operand} {x' y' : Opn} {zs : List AV} (ho : o.op = .makeSlice t x y) (hz : elemB P t es zs = true) (hb : ∀ el i, P.underlying t = some (.slice el) → P.info? el = some i → i.bytes = bytes)
    (hx : opnOk x x' = true) (hy : opnOk y y' = true) {out : Out} (hev : evD (.mksl es bytes zs x' y') e m = some out) (hok : out.ok = true) : Good P C m w L o a out := by
  obtain ⟨el, i, z, hu, hi, hz, hsz, hzl, hcs, hic⟩ := elemB_spec hz
  have hx := opn_rel hE hx
  have hy := opn_rel hE hy
  simp only [evD] at hev
  generalize x'.ev e = u at hx hev
  generalize y'.ev e = v at hy hev
  generalize hra : a.eval x = r at hx
  generalize hrb : a.eval y = s at hy
  cases hx <;> cases hy <;> (try (simp at hev; done))
  rename_i kl l kc c
  simp only [Option.some.injEq] at hev; subst hev
  simp only [Bool.and_eq_true, decide_eq_true_eq] at hok
  obtain ⟨h0, h1, h2, h3⟩ := hok
  have hbb := hb el i hu hi
  have hrun := run_make (P := P) w t el i z hu hi hz kl kc l c h0 h1 (by rw [hbb, Int.mul_comm]; exact h2) (by omega)
  have hgn := good_new (P := P) (o := o) (a := a) hR (w' := w.alloc (.cells (madeCells z.cells (c.toNat * i.size)) el)) (v := .sl m.length 0 l.toNat c.toNat) (madeCells z.cells (c.toNat * i.size)) el ⟨es, c.toNat, fun _ j => zs.getD j .un⟩ c.toNat (by rw [size_madeCells, hsz]) (Nat.le_refl _) (fun p q hp hq => by
    simp only at hp hq ⊢
    have hlt : p * es + q < c.toNat * es := by
      have : (p + 1) * es ≤ c.toNat * es := Nat.mul_le_mul_right _ hp
      rw [Nat.add_mul] at this; omega
    have := made_rel (L := L) (h := w.heap) (O := OO C m L) hcs (n := c.toNat * i.size) (k := p * es + q) (by rw [hsz]; exact hlt) (by omega)
    have e1 : (p * es + q) % zs.length = q := by rw [hzl, Nat.add_comm, Nat.add_mul_mod_self_right, Nat.mod_eq_of_lt hq]
    rw [e1] at this
    obtain ⟨v, v1, v2⟩ := this
    refine ⟨v, v1, v2, v2.oneCell ?_⟩
    rw [List.all_eq_true] at hic
    have hq' : q < zs.length := by omega
    exact hic _ (by simp only [List.getD, List.getElem?_eq_getElem hq', Option.getD_some]; exact List.getElem_mem hq')) (by rfl) (r := .slice (some ⟨w.heap.size, 0, none⟩) l.toNat c.toNat) (by simp [execOp, ho, hra, hrb, hrun]) (by
    intro h L' O hl
    have := VR.sl (h := h) (O := O) m.length 0 l.toNat c.toNat _ hl (by omega) (by simp)
    simpa using this)
  obtain ⟨r, w', L', g1, g2, g3, g4⟩ := hgn
  exact ⟨r, w', L', g1, g2, g3, g4⟩

theorem g_mkfn (hR : MRel C m w L) (hE : ERel C e m a w L) {f : Nat} {caps : Array Operand} {caps' : List Opn} (ho : o.op = .makeFunc (.func f) #[] caps) (hl : caps.size = caps'.length) (hc : ∀ (k : Nat) (x : Operand) (y : Opn), caps[k]? = some x → caps'[k]? = some y → opnOk x y = true)
    {out : Out} (hev : evD (.mkfn f caps') e m = some out) : Good P C m w L o a out := by
  simp only [evD, Wit.out, Option.some.injEq] at hev; subst hev
  refine good_pure hR (r := .func (.func f) #[] (caps.map a.eval)) ?_ (.fn _ _ _ (VRs.of_get (by simp [hl]) (fun k d hd => ?_)))
  · simp [execOp, ho, Instr.makeFunc]
  · simp only [Array.toList_map, List.getElem?_map, Array.getElem?_toList, Option.map_eq_some_iff] at hd
    obtain ⟨x, h1, rfl⟩ := hd
    have hk : k < caps'.length := by
      rw [← hl]
      exact (Array.getElem?_eq_some_iff.1 h1).1
    have h2 : caps'[k]? = some caps'[k] := List.getElem?_eq_getElem hk
    simp only [List.getD, List.getElem?_map, h2, Option.map_some, Option.getD_some]
    exact opn_rel hE (hc k x _ h1 h2)

theorem g_tas (hR : MRel C m w L) (hE : ERel C e m a w L) {t xt : Nat} {ok : Bool} {x : Operand} {x' : Opn} {d : TypeDesc} {z : AV} {zv : Value} (ho : o.op = .typeAssert x xt t ok) (hd : P.underlying t = some d) (hni : ∀ ms, d ≠ .interface ms) (hz : ok = true → (zeroValue t).run P w = .ok zv w ∧ cstOk z zv = true)
    (hx : opnOk x x' = true) {out : Out} (hev : evD (.tas x' t ok z) e m = some out) : Good P C m w L o a out := by
  have hx := opn_rel hE hx
  simp only [evD] at hev
  generalize x'.ev e = u at hx hev
  generalize hra : a.eval x = r at hx
  have hyes : ∀ v, r = .iface t v → (execOp a.eval o).run P w = .ok (.value (if ok then .tuple #[v, .bool true] else v)) w := by
    intro v hr
    have : (Instr.typeAssert r xt t ok).run P w = .ok (if ok then .tuple #[v, .bool true] else v) w := by
      subst hr
      simp only [Instr.typeAssert, Sem.run_bind, run_underlying hd, Result.andThen_ok]
      cases d <;> first | exact absurd rfl (hni _) | simp
    simp [execOp, ho, hra, this]
  have hno : ∀ q v, (r = .iface q v ∧ q ≠ t) ∨ r = .nilIface → ok = true → (execOp a.eval o).run P w = .ok (.value (.tuple #[zv, .bool false])) w := by
    intro q v hr hk
    obtain ⟨hz1, hz2⟩ := hz hk
    subst hk
    have : (Instr.typeAssert r xt t true).run P w = .ok (.tuple #[zv, .bool false]) w := by
      rcases hr with ⟨rfl, hq⟩ | rfl
      · simp only [Instr.typeAssert, Sem.run_bind, run_underlying hd, Result.andThen_ok]
        cases d <;> first | exact absurd rfl (hni _) | simp [hq, hz1]
      · simp only [Instr.typeAssert, Sem.run_bind, run_underlying hd, Result.andThen_ok]
        cases d <;> first | exact absurd rfl (hni _) | simp [hz1]
    simp [execOp, ho, hra, this]
  cases hx <;> (try (simp at hev; done))
  case nili =>
    cases ok <;> simp [Wit.out] at hev
    subst hev
    exact good_pure hR (hno 0 undef (.inr rfl) rfl) (.tup _ _ (.cons _ _ _ _ (cstOk_sound _ _ (hz rfl).2) (.cons _ _ _ _ (.bool _) .nil)))
  case ifc q v c hv =>
    simp only at hev
    cases hq : q == t with
    | true =>
      simp only [hq, cond_true, Wit.out, Option.some.injEq] at hev
      subst hev
      obtain rfl : q = t := by simpa using hq
      refine good_pure hR (hyes c rfl) ?_
      cases ok
      · simpa using hv
      · exact .tup _ _ (.cons _ _ _ _ hv (.cons _ _ _ _ (.bool _) .nil))
    | false =>
      cases ok <;> simp [hq, Wit.out] at hev
      subst hev
      exact good_pure hR (hno q c (.inl ⟨rfl, by simpa using hq⟩) rfl) (.tup _ _ (.cons _ _ _ _ (cstOk_sound _ _ (hz rfl).2) (.cons _ _ _ _ (.bool _) .nil)))

end
end Go.Wit
