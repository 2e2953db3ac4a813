/- The closed test that an operation of the program is the told one, and that each told operation does what is told of it (first part: memory's laws); no condition. -/
import Derived.Test.YtdobchoiiihfiaaA2
set_option linter.unusedVariables false
set_option linter.unusedSimpArgs false
namespace Go.Wit

mutual
def cstOk : AV → Value → Bool
  | .un, _ => true
  | .int k n, .int k' n' => kbeq k k' && n == n'
  | .bool b, .bool b' => b == b'
  | .str s, .string s' => s.data == s'.data
  | .nilp, .pointer none => true
  | .nils, .slice none 0 0 => true
  | .agg cs, .agg c => cstsOk cs c.toList
  | .nili, .nilIface => true
  | _, _ => false
def cstsOk : List AV → List Value → Bool
  | [], [] => true
  | v :: vs, c :: cs => cstOk v c && cstsOk vs cs
  | _, _ => false
end

section
variable {h : Array Obj} {L : Lay} {O : Nat → Prop}
theorem cst_leaf (v : AV) (c : Value) (hc : cstOk v c = true) (hn : ∀ cs, v ≠ .agg cs) : VR h L O v c := by
  cases v with
  | un => exact .un _
  | int k n =>
    cases c <;> simp [cstOk] at hc
    obtain ⟨h1, rfl⟩ := hc
    rw [kbeq_eq h1]; exact .int _ _
  | bool b => cases c <;> simp [cstOk] at hc; subst hc; exact .bool _
  | str s =>
    cases c <;> simp [cstOk] at hc
    rename_i s'
    have : s = s' := by cases s; cases s'; simp_all
    subst this; exact .str _
  | nilp =>
    cases c with
    | pointer a => cases a with
      | none => exact .nilp
      | some a => simp [cstOk] at hc
    | _ => simp [cstOk] at hc
  | nils =>
    cases c with
    | slice a l c => cases a <;> cases l <;> cases c <;> simp [cstOk] at hc; exact .nils
    | _ => simp [cstOk] at hc
  | nili => cases c <;> simp [cstOk] at hc; exact .nili
  | agg cs => exact absurd rfl (hn cs)
  | _ => cases c <;> simp [cstOk] at hc

mutual
theorem cstOk_sound : (v : AV) → (c : Value) → cstOk v c = true → VR h L O v c
  | .agg cs, .agg c, hc => .agg _ _ (cstsOk_sound cs c.toList (by rw [cstOk] at hc; exact hc))
  | v, c, hc => by
    by_cases hv : ∃ cs, v = .agg cs
    · obtain ⟨cs, rfl⟩ := hv
      cases c with
      | agg c => exact .agg _ _ (cstsOk_sound cs c.toList (by rw [cstOk] at hc; exact hc))
      | _ => simp [cstOk] at hc
    · exact cst_leaf v c hc (fun cs h => hv ⟨cs, h⟩)
theorem cstsOk_sound : (vs : List AV) → (cs : List Value) → cstsOk vs cs = true → VRs h L O vs cs
  | [], [], _ => .nil
  | [], c :: cs, hc => by simp [cstsOk] at hc
  | v :: vs, [], hc => by simp [cstsOk] at hc
  | v :: vs, c :: cs, hc =>
    have h2 := (by simpa [cstsOk] using hc : cstOk v c = true ∧ cstsOk vs cs = true)
    .cons _ _ _ _ (cstOk_sound v c h2.1) (cstsOk_sound vs cs h2.2)
end

theorem VR.cells {v : AV} {c : Value} (hv : VR h L O v c) {sz : Nat} (hs : hasCells v sz = true) :
    VRs h L O (cellsOf v) c.cells.toList ∧ c.cells.size = sz ∧ ∀ u ∈ c.cells.toList, u.oneCell' = true := by
  have one : ∀ {v c}, VR h L O v c → isCell v = true → c.oneCell' = true ∧ c.cells = #[c] := by
    intro v c hv hi
    cases hv <;> simp [isCell] at hi <;> simp [Value.oneCell', Value.cells]
  have all : ∀ {vs cs}, VRs h L O vs cs → vs.all isCell = true → ∀ u ∈ cs, u.oneCell' = true := by
    intro vs
    induction vs with
    | nil => intro cs hv _ u hu; cases hv; simp at hu
    | cons a l ih =>
      intro cs hv hall u hu
      cases hv with
      | cons _ d _ cs h1 h2 =>
        simp only [List.all_cons, Bool.and_eq_true] at hall
        rcases List.mem_cons.1 hu with rfl | hu
        · exact (one h1 hall.1).1
        · exact ih h2 hall.2 u hu
  simp only [hasCells, Bool.and_eq_true, beq_iff_eq] at hs
  obtain ⟨hl, ha⟩ := hs
  cases v with
  | agg cs =>
    cases hv with
    | agg _ c hvs =>
      simp only [cellsOf] at hl ha
      refine ⟨by simpa [cellsOf, Value.cells] using hvs, ?_, ?_⟩
      · have := hvs.length; simp [Value.cells] at this ⊢; omega
      · exact all hvs ha
  | _ =>
    simp only [cellsOf, List.all_cons, List.all_nil, Bool.and_true, List.length_cons, List.length_nil] at hl ha
    obtain ⟨o1, o2⟩ := one hv ha
    rw [o2]
    refine ⟨.cons _ _ _ _ hv .nil, by simpa using hl, ?_⟩
    intro u hu
    simp at hu; subst hu; exact o1
theorem VR.oneCell {v : AV} {c : Value} (hv : VR h L O v c) (hi : isCell v = true) : c.oneCell' = true := by
  cases hv <;> simp [isCell] at hi <;> simp [Value.oneCell']
end

theorem own_congr {m m' : Mem} {L : Lay} (h : ∀ l : Nat, (∃ b, m[l]? = some (some b)) ↔ (∃ b, m'[l]? = some (some b))) (b : Nat) : own m L b ↔ own m' L b := by
  constructor
  · rintro ⟨l, blk, e, h1, h2, h4, h3⟩
    obtain ⟨b', hb⟩ := (h l).1 ⟨blk, h1⟩
    exact ⟨l, b', e, hb, h2, h4, h3⟩
  · rintro ⟨l, blk, e, h1, h2, h4, h3⟩
    obtain ⟨b', hb⟩ := (h l).2 ⟨blk, h1⟩
    exact ⟨l, b', e, hb, h2, h4, h3⟩

/-- Another content for a block that is owned. -/
theorem MRel.write {C : Ctx} {m : Mem} {w : World} {L : Lay} (hR : MRel C m w L) {l : Nat} {blk : Blk} {e : LE} {c : Array Value} {T : TypeId}
    (hl : m[l]? = some (some blk)) (hL : L l = some e) (htp : 0 < e.tot) (hes : e.es = blk.es) (hh : w.heap[e.b]? = some (.cells c T (0, 0))) (c' : Array Value) (hc : c'.size = c.size) (n' : Nat) (hn : n' ≤ e.tot) (get' : Nat → Nat → AV)
    (hv : ∀ i j, i < n' → j < blk.es → ∃ v, c'[i * blk.es + j]? = some v ∧ VR w.heap L (OO C m L) (get' i j) v ∧ v.oneCell' = true) :
    MRel C (m.set l (some ⟨blk.es, n', get'⟩)) (w.setRow e.b c') L ∧ Ext w.heap L (OO C m L) (w.setRow e.b c').heap L (OO C (m.set l (some ⟨blk.es, n', get'⟩)) L) := by
  have hlm : l < m.length := by
    rcases Nat.lt_or_ge l m.length with h | h
    · exact h
    · rw [List.getElem?_eq_none h] at hl; cases hl
  have hiff : ∀ b, own (m.set l (some ⟨blk.es, n', get'⟩)) L b ↔ own m L b := by
    intro b
    refine own_congr (fun k => ?_) b
    rw [List.getElem?_set]
    by_cases hk : l = k
    · subst hk; exact ⟨fun _ => ⟨_, hl⟩, fun _ => ⟨_, by rw [if_pos rfl, if_pos hlm]⟩⟩
    · simp [hk]
  have hoo : OO C (m.set l (some ⟨blk.es, n', get'⟩)) L = OO C m L := by
    funext b; unfold OO; rw [hiff]
  have hown : own m L e.b := ⟨l, blk, e, hl, hL, htp, rfl⟩
  have hx : Ext w.heap L (OO C m L) (w.setRow e.b c').heap L (OO C m L) := by
    refine ⟨fun _ _ h => h, fun b hb hO => ?_, fun _ _ h => h⟩
    exact setRow_other w _ _ _ (fun h => hO (.inr (h ▸ hown)))
  have hnew : (w.setRow e.b c').heap[e.b]? = some (.cells c' T (0, 0)) := setRow_heap w _ _ _ _ _ hh
  obtain ⟨e0, g1, g2, g5, g0⟩ := hR.blk l blk hl
  rw [hL] at g1; obtain rfl := Option.some.inj g1
  obtain ⟨c0, T0, g3, g4, g6, g7⟩ := g0 htp
  rw [hh] at g3; obtain ⟨rfl, rfl, _⟩ := Obj.cells.inj (Option.some.inj g3)
  refine ⟨⟨hR.os, hR.tape, hR.output, by simpa using hR.size, ?_, ?_, ?_, ?_, ?_, hR.xlt, fun b hb => hR.notX b ((hiff b).1 hb)⟩, by rw [hoo]; exact hx⟩
  · intro b hb hO
    by_cases hbe : b = e.b
    · subst hbe
      rcases g6 with g6 | g6
      · omega
      · exact absurd g6 hO
    · rw [setRow_other w _ _ _ hbe]; exact hR.frame b hb hO
  · intro k hk; exact hR.lay k (by simpa using hk)
  · intro k bk hk
    rw [List.getElem?_set] at hk
    rw [hoo]
    by_cases hlk : l = k
    · subst hlk
      simp [hlm] at hk
      subst hk
      refine ⟨e, hL, hes, hn, fun _ => ⟨c', T, hnew, by rw [hc]; exact g4, by simpa using g6, ?_⟩⟩
      intro i j hi hj
      obtain ⟨v, h1, h2, h3⟩ := hv i j hi hj
      exact ⟨v, h1, h2.ext hx, h3⟩
    · simp [hlk] at hk
      obtain ⟨e1, k1, k2, k5, k0⟩ := hR.blk k bk hk
      refine ⟨e1, k1, k2, k5, fun ht => ?_⟩
      obtain ⟨c1, T1, k3, k4, k6, k7⟩ := k0 ht
      have hne : e1.b ≠ e.b := fun h => hlk (hR.inj l k blk bk e e1 hl hk hL k1 htp ht h.symm)
      refine ⟨c1, T1, by rw [setRow_other w _ _ _ hne]; exact k3, k4, by simpa using k6, ?_⟩
      intro i j hi hj
      obtain ⟨v, h1, h2, h3⟩ := k7 i j hi hj
      exact ⟨v, h1, h2.ext hx, h3⟩
  · intro k k' b b' f f' h1 h2 h3 h4 t1 t2 h5
    rw [List.getElem?_set] at h1 h2
    have q1 : ∃ x, m[k]? = some (some x) := by
      by_cases hk : l = k
      · subst hk; exact ⟨_, hl⟩
      · simp [hk] at h1; exact ⟨_, h1⟩
    have q2 : ∃ x, m[k']? = some (some x) := by
      by_cases hk : l = k'
      · subst hk; exact ⟨_, hl⟩
      · simp [hk] at h2; exact ⟨_, h2⟩
    obtain ⟨x, q1⟩ := q1
    obtain ⟨x', q2⟩ := q2
    exact hR.inj k k' x x' f f' q1 q2 h3 h4 t1 t2 h5
  · exact fun q hq => ⟨by simpa using (hR.base q hq).1, (hR.base q hq).2⟩

/-- A layout with one block more. -/
def Lay.put (L : Lay) (l : Nat) (e : LE) : Lay := fun k => if k = l then some e else L k

/-- A new block. -/
theorem MRel.new {C : Ctx} {m : Mem} {w : World} {L : Lay} (hR : MRel C m w L) (c : Array Value) (T : TypeId) (blk : Blk) (tot : Nat) (hc : c.size = tot * blk.es) (hn : blk.n ≤ tot)
    (hv : ∀ i j, i < blk.n → j < blk.es → ∃ v, c[i * blk.es + j]? = some v ∧ VR w.heap L (OO C m L) (blk.get i j) v ∧ v.oneCell' = true) (w' : World) (hw : w' = { w with heap := w.heap.push (.cells c T (0, 0)), drawn := w'.drawn }) :
    MRel C (m ++ [some blk]) w' (L.put m.length ⟨w.heap.size, blk.es, tot⟩) ∧
      Ext w.heap L (OO C m L) w'.heap (L.put m.length ⟨w.heap.size, blk.es, tot⟩) (OO C (m ++ [some blk]) (L.put m.length ⟨w.heap.size, blk.es, tot⟩)) := by
  have hheap : w'.heap = w.heap.push (.cells c T (0, 0)) := by rw [hw]
  have hlay : ∀ l e, L l = some e → L.put m.length ⟨w.heap.size, blk.es, tot⟩ l = some e := by
    intro l e hl
    unfold Lay.put
    rw [if_neg]
    · exact hl
    · intro h; subst h; rw [hR.lay _ (Nat.le_refl _)] at hl; cases hl
  have hold : ∀ b, b < w.heap.size → w'.heap[b]? = w.heap[b]? := by
    intro b hb; rw [hheap, Array.getElem?_push, if_neg (by omega)]
  have hget : ∀ (l : Nat) b, (m ++ [some blk])[l]? = some (some b) → (m[l]? = some (some b)) ∨ (l = m.length ∧ b = blk) := by
    intro l b h
    rcases Nat.lt_trichotomy l m.length with h1 | h1 | h1
    · left; rwa [List.getElem?_append_left h1] at h
    · right; subst h1; simp at h; exact ⟨rfl, h.symm⟩
    · rw [List.getElem?_eq_none (by simp; omega)] at h; cases h
  have hltm : ∀ {l : Nat} {b}, m[l]? = some (some b) → l < m.length := by
    intro l b h
    rcases Nat.lt_or_ge l m.length with h1 | h1
    · exact h1
    · rw [List.getElem?_eq_none h1] at h; cases h
  have hbs : ∀ {l : Nat} {b e}, m[l]? = some (some b) → L l = some e → 0 < e.tot → e.b < w.heap.size := by
    intro l b e h1 h2 ht
    obtain ⟨e0, g1, g2, g5, g0⟩ := hR.blk l b h1
    rw [h2] at g1; obtain rfl := Option.some.inj g1
    obtain ⟨c0, T0, g3, _⟩ := g0 ht
    exact (Array.getElem?_eq_some_iff.1 g3).1
  have hx : Ext w.heap L (OO C m L) w'.heap (L.put m.length ⟨w.heap.size, blk.es, tot⟩) (OO C (m ++ [some blk]) (L.put m.length ⟨w.heap.size, blk.es, tot⟩)) := by
    refine ⟨hlay, fun b hb _ => hold b hb, fun b hb hO hO' => hO ?_⟩
    rcases hO' with h | ⟨l, bk, e, h1, h2, h4, h3⟩
    · exact .inl h
    · right
      rcases hget l bk h1 with h | ⟨rfl, rfl⟩
      · have hl := hltm h
        refine ⟨l, bk, e, h, ?_, h4, h3⟩
        unfold Lay.put at h2; rw [if_neg (by omega)] at h2; exact h2
      · unfold Lay.put at h2; rw [if_pos rfl] at h2; obtain rfl := Option.some.inj h2
        simp at h3; omega
  refine ⟨⟨?_, ?_, ?_, ?_, ?_, ?_, ?_, ?_, ?_, hR.xlt, ?_⟩, hx⟩
  · rw [hw]; exact hR.os
  · rw [hw]; exact hR.tape
  · rw [hw]; exact hR.output
  · rw [hheap]; simp; have := hR.size; omega
  · intro b hb hO
    have := hR.size
    rw [hold b (by omega)]; exact hR.frame b hb hO
  · intro l hl
    simp at hl
    unfold Lay.put; rw [if_neg (by omega)]; exact hR.lay l (by omega)
  · intro l bk h
    rcases hget l bk h with h | ⟨rfl, rfl⟩
    · obtain ⟨e, k1, k2, k5, k0⟩ := hR.blk l bk h
      refine ⟨e, hlay _ _ k1, k2, k5, fun ht => ?_⟩
      obtain ⟨c1, T1, k3, k4, k6, k7⟩ := k0 ht
      refine ⟨c1, T1, by rw [hold _ (Array.getElem?_eq_some_iff.1 k3).1]; exact k3, k4, k6, ?_⟩
      intro i j hi hj
      obtain ⟨v, h1, h2, h3⟩ := k7 i j hi hj
      exact ⟨v, h1, h2.ext hx, h3⟩
    · refine ⟨_, by unfold Lay.put; rw [if_pos rfl], rfl, hn, fun _ => ⟨c, T, by rw [hheap]; simp, hc, .inl hR.size, ?_⟩⟩
      intro i j hi hj
      obtain ⟨v, h1, h2, h3⟩ := hv i j hi hj
      exact ⟨v, h1, h2.ext hx, h3⟩
  · intro l l' b b' e e' h1 h2 h3 h4 t1 t2 h5
    rcases hget l b h1 with q1 | ⟨q1, q1'⟩ <;> rcases hget l' b' h2 with q2 | ⟨q2, q2'⟩
    · have a1 := hltm q1; have a2 := hltm q2
      unfold Lay.put at h3 h4; rw [if_neg (by omega)] at h3 h4
      exact hR.inj l l' b b' e e' q1 q2 h3 h4 t1 t2 h5
    · have a1 := hltm q1
      unfold Lay.put at h3 h4; rw [if_neg (by omega)] at h3; rw [if_pos q2] at h4
      obtain rfl := Option.some.inj h4
      have := hbs q1 h3 t1; simp at h5; omega
    · have a1 := hltm q2
      unfold Lay.put at h3 h4; rw [if_neg (by omega)] at h4; rw [if_pos q1] at h3
      obtain rfl := Option.some.inj h3
      have := hbs q2 h4 t2; simp at h5; omega
    · rw [q1, q2]
  · exact fun q hq => ⟨by have := (hR.base q hq).1; simp; omega, by have := hR.base q hq; unfold Lay.put; rw [if_neg (by omega)]; exact this.2⟩
  · rintro b ⟨l, bk, e, h1, h2, h4, h3⟩ hX
    rcases hget l bk h1 with h | ⟨rfl, rfl⟩
    · have hl := hltm h
      unfold Lay.put at h2; rw [if_neg (by omega)] at h2
      exact hR.notX b ⟨l, bk, e, h, h2, h4, h3⟩ hX
    · unfold Lay.put at h2; rw [if_pos rfl] at h2; obtain rfl := Option.some.inj h2
      have := hR.xlt b hX
      have := hR.size
      simp at h3; omega

theorem lt_of_get {m : Mem} {l : Nat} {b} (h : m[l]? = some (some b)) : l < m.length := by
  rcases Nat.lt_or_ge l m.length with h1 | h1
  · exact h1
  · rw [List.getElem?_eq_none h1] at h; cases h

theorem get_set_none {m : Mem} {l k : Nat} {b : Blk} (h : (m.set l none)[k]? = some (some b)) : k ≠ l ∧ m[k]? = some (some b) := by
  rw [List.getElem?_set] at h
  by_cases hk : l = k
  · subst hk; simp at h
  · rw [if_neg hk] at h; exact ⟨fun e => hk e.symm, h⟩

/-- A block is given up. -/
theorem MRel.kill {C : Ctx} {m : Mem} {w : World} {L : Lay} (hR : MRel C m w L) (l : Nat) : MRel C (m.set l none) w L ∧ Ext w.heap L (OO C m L) w.heap L (OO C (m.set l none) L) := by
  have hown : ∀ b, own (m.set l none) L b → own m L b := by
    rintro b ⟨k, bk, e, h1, h2, h4, h3⟩
    exact ⟨k, bk, e, (get_set_none h1).2, h2, h4, h3⟩
  have hx : Ext w.heap L (OO C m L) w.heap L (OO C (m.set l none) L) := ⟨fun _ _ h => h, fun _ _ _ => rfl, fun b _ hO hO' => hO (hO'.imp id (hown b))⟩
  refine ⟨⟨hR.os, hR.tape, hR.output, hR.size, hR.frame, fun k hk => hR.lay k (by simpa using hk), ?_, ?_, fun q hq => ⟨by simpa using (hR.base q hq).1, (hR.base q hq).2⟩, hR.xlt, fun b hb => hR.notX b (hown b hb)⟩, hx⟩
  · intro k bk h
    obtain ⟨e, k1, k2, k5, k0⟩ := hR.blk k bk (get_set_none h).2
    refine ⟨e, k1, k2, k5, fun ht => ?_⟩
    obtain ⟨c, T, k3, k4, k6, k7⟩ := k0 ht
    refine ⟨c, T, k3, k4, k6, fun i j hi hj => ?_⟩
    obtain ⟨v, h1, h2, h3⟩ := k7 i j hi hj
    exact ⟨v, h1, h2.ext hx, h3⟩
  · intro k k' b b' e e' h1 h2 h3 h4 t1 t2 h5
    exact hR.inj k k' b b' e e' (get_set_none h1).2 (get_set_none h2).2 h3 h4 t1 t2 h5

/-- A block gets a new number. -/
theorem MRel.move {C : Ctx} {m : Mem} {w : World} {L : Lay} (hR : MRel C m w L) {l : Nat} {blk : Blk} {e : LE} (hl : m[l]? = some (some blk)) (hL : L l = some e) :
    MRel C (m.set l none ++ [some blk]) w (L.put m.length e) ∧ Ext w.heap L (OO C m L) w.heap (L.put m.length e) (OO C (m.set l none ++ [some blk]) (L.put m.length e)) := by
  have hlt := lt_of_get hl
  have hget : ∀ {k : Nat} {b}, (m.set l none ++ [some blk])[k]? = some (some b) → (k ≠ l ∧ m[k]? = some (some b) ∧ k < m.length) ∨ (k = m.length ∧ b = blk) := by
    intro k b h
    rcases Nat.lt_trichotomy k m.length with h1 | h1 | h1
    · rw [List.getElem?_append_left (by simpa using h1)] at h
      obtain ⟨g1, g2⟩ := get_set_none h
      exact .inl ⟨g1, g2, h1⟩
    · subst h1
      rw [List.getElem?_append_right (by simp)] at h
      simp at h; exact .inr ⟨rfl, h.symm⟩
    · rw [List.getElem?_eq_none (by simp; omega)] at h; cases h
  have hlay : ∀ k e', L k = some e' → L.put m.length e k = some e' := by
    intro k e' hk
    unfold Lay.put
    rw [if_neg]
    · exact hk
    · intro h; subst h; rw [hR.lay _ (Nat.le_refl _)] at hk; cases hk
  have hold : ∀ {k e'}, k < m.length → L.put m.length e k = some e' → L k = some e' := by
    intro k e' hk h; unfold Lay.put at h; rw [if_neg (by omega)] at h; exact h
  have hnew : ∀ {e'}, L.put m.length e m.length = some e' → e' = e := by
    intro e' h; unfold Lay.put at h; rw [if_pos rfl] at h; exact (Option.some.inj h).symm
  have hown : ∀ b, own (m.set l none ++ [some blk]) (L.put m.length e) b → own m L b := by
    rintro b ⟨k, bk, e', h1, h2, h4, h3⟩
    rcases hget h1 with ⟨g1, g2, g3⟩ | ⟨rfl, rfl⟩
    · exact ⟨k, bk, e', g2, hold g3 h2, h4, h3⟩
    · obtain rfl := hnew h2; exact ⟨l, bk, e', hl, hL, h4, h3⟩
  have hx : Ext w.heap L (OO C m L) w.heap (L.put m.length e) (OO C (m.set l none ++ [some blk]) (L.put m.length e)) := ⟨hlay, fun _ _ _ => rfl, fun b _ hO hO' => hO (hO'.imp id (hown b))⟩
  refine ⟨⟨hR.os, hR.tape, hR.output, hR.size, hR.frame, ?_, ?_, ?_, fun q hq => ⟨by have := (hR.base q hq).1; simp; omega, by have := hR.base q hq; unfold Lay.put; rw [if_neg (by omega)]; exact this.2⟩, hR.xlt, fun b hb => hR.notX b (hown b hb)⟩, hx⟩
  · intro k hk
    simp at hk
    unfold Lay.put; rw [if_neg (by omega)]; exact hR.lay k (by omega)
  · have main : ∀ (k : Nat) bk, m[k]? = some (some bk) → ∀ e', L k = some e' → e'.es = bk.es ∧ bk.n ≤ e'.tot ∧ (0 < e'.tot → ∃ c T, w.heap[e'.b]? = some (.cells c T (0, 0)) ∧ c.size = e'.tot * e'.es ∧
        (C.w0.heap.size ≤ e'.b ∨ C.O0 e'.b) ∧ ∀ i j, i < bk.n → j < bk.es → ∃ v, c[i * bk.es + j]? = some v ∧ VR w.heap (L.put m.length e) (OO C (m.set l none ++ [some blk]) (L.put m.length e)) (bk.get i j) v ∧ v.oneCell' = true) := by
      intro k bk h e' he'
      obtain ⟨e1, k1, k2, k5, k0⟩ := hR.blk k bk h
      rw [he'] at k1; obtain rfl := Option.some.inj k1
      refine ⟨k2, k5, fun ht => ?_⟩
      obtain ⟨c, T, k3, k4, k6, k7⟩ := k0 ht
      refine ⟨c, T, k3, k4, k6, fun i j hi hj => ?_⟩
      obtain ⟨v, h1, h2, h3⟩ := k7 i j hi hj
      exact ⟨v, h1, h2.ext hx, h3⟩
    intro k bk h
    rcases hget h with ⟨g1, g2, g3⟩ | ⟨rfl, rfl⟩
    · obtain ⟨e1, k1, _⟩ := hR.blk k bk g2
      exact ⟨e1, hlay _ _ k1, main k bk g2 e1 k1⟩
    · exact ⟨e, by unfold Lay.put; rw [if_pos rfl], main l bk hl e hL⟩
  · intro k k' b b' e1 e2 h1 h2 h3 h4 t1 t2 h5
    rcases hget h1 with ⟨g1, g2, g3⟩ | ⟨g1, g2⟩ <;> rcases hget h2 with ⟨q1, q2, q3⟩ | ⟨q1, q2⟩
    · exact hR.inj k k' b b' e1 e2 g2 q2 (hold g3 h3) (hold q3 h4) t1 t2 h5
    · rw [q1] at h4; obtain rfl := hnew h4
      exact absurd (hR.inj k l b blk e1 e2 g2 hl (hold g3 h3) hL t1 t2 h5) g1
    · rw [g1] at h3; obtain rfl := hnew h3
      exact absurd (hR.inj k' l b' blk e2 e1 q2 hl (hold q3 h4) hL t2 t1 h5.symm) q1
    · rw [g1, q1]

/-- A block of no room. -/
theorem MRel.phantom {C : Ctx} {m : Mem} {w : World} {L : Lay} (hR : MRel C m w L) (es : Nat) (g : Nat → Nat → AV) :
    MRel C (m ++ [some ⟨es, 0, g⟩]) w (L.put m.length ⟨0, es, 0⟩) ∧ Ext w.heap L (OO C m L) w.heap (L.put m.length ⟨0, es, 0⟩) (OO C (m ++ [some ⟨es, 0, g⟩]) (L.put m.length ⟨0, es, 0⟩)) := by
  have hget : ∀ {k : Nat} {b}, (m ++ [some ⟨es, 0, g⟩])[k]? = some (some b) → (m[k]? = some (some b) ∧ k < m.length) ∨ (k = m.length ∧ b = ⟨es, 0, g⟩) := by
    intro k b h
    rcases Nat.lt_trichotomy k m.length with h1 | h1 | h1
    · rw [List.getElem?_append_left h1] at h; exact .inl ⟨h, h1⟩
    · subst h1; simp at h; exact .inr ⟨rfl, h.symm⟩
    · rw [List.getElem?_eq_none (by simp; omega)] at h; cases h
  have hlay : ∀ k e', L k = some e' → L.put m.length ⟨0, es, 0⟩ k = some e' := by
    intro k e' hk
    unfold Lay.put
    rw [if_neg]
    · exact hk
    · intro h; subst h; rw [hR.lay _ (Nat.le_refl _)] at hk; cases hk
  have hold : ∀ {k e'}, k < m.length → L.put m.length ⟨0, es, 0⟩ k = some e' → L k = some e' := by
    intro k e' hk h; unfold Lay.put at h; rw [if_neg (by omega)] at h; exact h
  have hnew : ∀ {e'}, L.put m.length ⟨0, es, 0⟩ m.length = some e' → e' = ⟨0, es, 0⟩ := by
    intro e' h; unfold Lay.put at h; rw [if_pos rfl] at h; exact (Option.some.inj h).symm
  have hown : ∀ b, own (m ++ [some ⟨es, 0, g⟩]) (L.put m.length ⟨0, es, 0⟩) b → own m L b := by
    rintro b ⟨k, bk, e', h1, h2, h4, h3⟩
    rcases hget h1 with ⟨g2, g3⟩ | ⟨rfl, rfl⟩
    · exact ⟨k, bk, e', g2, hold g3 h2, h4, h3⟩
    · obtain rfl := hnew h2; exact absurd h4 (Nat.lt_irrefl 0)
  have hx : Ext w.heap L (OO C m L) w.heap (L.put m.length ⟨0, es, 0⟩) (OO C (m ++ [some ⟨es, 0, g⟩]) (L.put m.length ⟨0, es, 0⟩)) := ⟨hlay, fun _ _ _ => rfl, fun b _ hO hO' => hO (hO'.imp id (hown b))⟩
  refine ⟨⟨hR.os, hR.tape, hR.output, hR.size, hR.frame, ?_, ?_, ?_, fun q hq => ⟨by have := (hR.base q hq).1; simp; omega, by have := hR.base q hq; unfold Lay.put; rw [if_neg (by omega)]; exact this.2⟩, hR.xlt, fun b hb => hR.notX b (hown b hb)⟩, hx⟩
  · intro k hk
    simp at hk
    unfold Lay.put; rw [if_neg (by omega)]; exact hR.lay k (by omega)
  · intro k bk h
    rcases hget h with ⟨g2, g3⟩ | ⟨rfl, rfl⟩
    · obtain ⟨e1, k1, k2, k5, k0⟩ := hR.blk k bk g2
      refine ⟨e1, hlay _ _ k1, k2, k5, fun ht => ?_⟩
      obtain ⟨c, T, k3, k4, k6, k7⟩ := k0 ht
      refine ⟨c, T, k3, k4, k6, fun i j hi hj => ?_⟩
      obtain ⟨v, h1, h2, h3⟩ := k7 i j hi hj
      exact ⟨v, h1, h2.ext hx, h3⟩
    · exact ⟨_, by unfold Lay.put; rw [if_pos rfl], rfl, Nat.le_refl _, fun h => absurd h (Nat.lt_irrefl 0)⟩
  · intro k k' b b' e1 e2 h1 h2 h3 h4 t1 t2 h5
    rcases hget h1 with ⟨g2, g3⟩ | ⟨g1, g2⟩
    · rcases hget h2 with ⟨q2, q3⟩ | ⟨q1, q2⟩
      · exact hR.inj k k' b b' e1 e2 g2 q2 (hold g3 h3) (hold q3 h4) t1 t2 h5
      · rw [q1] at h4; obtain rfl := hnew h4; exact absurd t2 (Nat.lt_irrefl 0)
    · rw [g1] at h3; obtain rfl := hnew h3; exact absurd t1 (Nat.lt_irrefl 0)

/-- A block that nobody owns. -/
theorem MRel.push {C : Ctx} {m : Mem} {w : World} {L : Lay} (hR : MRel C m w L) (o : Obj) (w' : World) (hw : w' = { w with heap := w.heap.push o, drawn := w'.drawn }) :
    MRel C m w' L ∧ Ext w.heap L (OO C m L) w'.heap L (OO C m L) := by
  have hheap : w'.heap = w.heap.push o := by rw [hw]
  have hold : ∀ b, b < w.heap.size → w'.heap[b]? = w.heap[b]? := by
    intro b hb; rw [hheap, Array.getElem?_push, if_neg (by omega)]
  have hx : Ext w.heap L (OO C m L) w'.heap L (OO C m L) := ⟨fun _ _ h => h, fun b hb _ => hold b hb, fun _ _ h => h⟩
  refine ⟨⟨by rw [hw]; exact hR.os, by rw [hw]; exact hR.tape, by rw [hw]; exact hR.output, by rw [hheap]; simp; have := hR.size; omega, fun b hb hO => ?_, hR.lay, ?_, hR.inj, hR.base, hR.xlt, hR.notX⟩, hx⟩
  · have := hR.size
    rw [hold b (by omega)]; exact hR.frame b hb hO
  · intro k bk h
    obtain ⟨e, k1, k2, k5, k0⟩ := hR.blk k bk h
    refine ⟨e, k1, k2, k5, fun ht => ?_⟩
    obtain ⟨c, T, k3, k4, k6, k7⟩ := k0 ht
    refine ⟨c, T, by rw [hold _ (Array.getElem?_eq_some_iff.1 k3).1]; exact k3, k4, k6, fun i j hi hj => ?_⟩
    obtain ⟨v, h1, h2, h3⟩ := k7 i j hi hj
    exact ⟨v, h1, h2.ext hx, h3⟩

/-- A draw changes nothing of it. -/
theorem MRel.drawn {C : Ctx} {m : Mem} {w : World} {L : Lay} (hR : MRel C m w L) (n : Nat) : MRel C m { w with drawn := n } L :=
  ⟨hR.os, hR.tape, hR.output, hR.size, hR.frame, hR.lay, hR.blk, hR.inj, hR.base, hR.xlt, hR.notX⟩

theorem Ext.trans {h h' h'' : Array Obj} {L L' L'' : Lay} {O O' O'' : Nat → Prop} (x : Ext h L O h' L' O') (y : Ext h' L' O' h'' L'' O'') (hs : h.size ≤ h'.size) : Ext h L O h'' L'' O'' :=
  ⟨fun l e hl => y.lay l e (x.lay l e hl), fun b hb hO => (y.heap b (by omega) (x.own b hb hO)).trans (x.heap b hb hO), fun b hb hO => y.own b (by omega) (x.own b hb hO)⟩

end Go.Wit
