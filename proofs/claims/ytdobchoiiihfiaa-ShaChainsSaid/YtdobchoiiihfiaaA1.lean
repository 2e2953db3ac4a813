/- What a call's values and memory are told by: abstract values, their relation to the machine's values, the relation of memory, and what each small change keeps; no condition. -/
import Derived.Orders
import Derived.Tactics
import Derived.KernelRfl
import Derived.Laws.Cells
import Derived.Laws.CopyRow
import Derived.Laws.Rows
set_option linter.unusedVariables false
set_option linter.unusedSimpArgs false
namespace Go.Wit

/-- Values as the proofs tell them: addresses are the numbers of blocks that the call owns, or hidden (read-only). -/
inductive AV where
  | un
  | int (k : IntKind) (n : Int)
  | bool (b : Bool)
  | str (s : ByteArray)
  | nilp
  | ptr (l i j : Nat)
  | vptr (m : Nat) (get : Nat → AV) (j : Nat)
  | nils
  | sl (l off len cap : Nat)
  | vsl (es len cap : Nat) (get : Nat → Nat → AV)
  | agg (cs : List AV)
  | tup (vs : List AV)
  | nili
  | ifc (t : Nat) (v : AV)
  | fn (f : Nat) (caps : List AV)
  deriving Inhabited

structure LE where
  b : Nat
  es : Nat
  tot : Nat
abbrev Lay := Nat → Option LE

def cellAt (h : Array Obj) (b o : Nat) : Option Value :=
  match h[b]? with
  | some (.cells c _ _) => c[o]?
  | _ => none

mutual
inductive VR (h : Array Obj) (L : Lay) (O : Nat → Prop) : AV → Value → Prop where
  | un (v : Value) : VR h L O .un v
  | int (k : IntKind) (n : Int) : VR h L O (.int k n) (.int k n)
  | bool (b : Bool) : VR h L O (.bool b) (.bool b)
  | str (s : ByteArray) : VR h L O (.str s) (.string s)
  | nilp : VR h L O .nilp (.pointer none)
  | ptr (l i j : Nat) (e : LE) : L l = some e → VR h L O (.ptr l i j) (.pointer (some ⟨e.b, i * e.es + j, none⟩))
  | vptr (m : Nat) (get : Nat → AV) (j b o : Nat) (vals : Nat → Value) : (∀ t, t < m → ¬ O b ∧ cellAt h b (o + t) = some (vals t) ∧ (vals t).oneCell' = true) →
      (∀ t, t < m → VR h L O (get t) (vals t)) → VR h L O (.vptr m get j) (.pointer (some ⟨b, o + j, none⟩))
  | nils : VR h L O .nils (.slice none 0 0)
  | sl0 (l off : Nat) (a : Addr) : VR h L O (.sl l off 0 0) (.slice (some a) 0 0)
  | sl0n (l off : Nat) : VR h L O (.sl l off 0 0) (.slice none 0 0)
  | sl (l off len cap : Nat) (e : LE) : L l = some e → len ≤ cap → off + cap ≤ e.tot → VR h L O (.sl l off len cap) (.slice (some ⟨e.b, off * e.es, none⟩) len cap)
  | vsl0 (es : Nat) (get : Nat → Nat → AV) (a : Option Addr) : VR h L O (.vsl es 0 0 get) (.slice a 0 0)
  | vsl (es len cap : Nat) (get : Nat → Nat → AV) (b o : Nat) (vals : Nat → Nat → Value) : len ≤ cap →
      (∀ i j, i < len → j < es → ¬ O b ∧ cellAt h b (o + (i * es + j)) = some (vals i j) ∧ (vals i j).oneCell' = true) →
      (∀ i j, i < len → j < es → VR h L O (get i j) (vals i j)) → VR h L O (.vsl es len cap get) (.slice (some ⟨b, o, none⟩) len cap)
  | agg (cs : List AV) (c : Array Value) : VRs h L O cs c.toList → VR h L O (.agg cs) (.agg c)
  | tup (cs : List AV) (c : Array Value) : VRs h L O cs c.toList → VR h L O (.tup cs) (.tuple c)
  | nili : VR h L O .nili .nilIface
  | ifc (t : Nat) (v : AV) (c : Value) : VR h L O v c → VR h L O (.ifc t v) (.iface t c)
  | fn (f : Nat) (cs : List AV) (c : Array Value) : VRs h L O cs c.toList → VR h L O (.fn f cs) (.func (.func f) #[] c)
inductive VRs (h : Array Obj) (L : Lay) (O : Nat → Prop) : List AV → List Value → Prop where
  | nil : VRs h L O [] []
  | cons (v : AV) (c : Value) (vs : List AV) (cs : List Value) : VR h L O v c → VRs h L O vs cs → VRs h L O (v :: vs) (c :: cs)
end

/-- Whatever of memory, layout and owned blocks has changed, values keep their meaning. -/
structure Ext (h : Array Obj) (L : Lay) (O : Nat → Prop) (h' : Array Obj) (L' : Lay) (O' : Nat → Prop) : Prop where
  lay : ∀ l e, L l = some e → L' l = some e
  heap : ∀ b, b < h.size → ¬ O b → h'[b]? = h[b]?
  own : ∀ b, b < h.size → ¬ O b → ¬ O' b

theorem cellAt_lt {h : Array Obj} {b o : Nat} {v : Value} (hc : cellAt h b o = some v) : b < h.size := by
  unfold cellAt at hc
  split at hc
  · rename_i heq
    rcases Nat.lt_or_ge b h.size with h1 | h1
    · exact h1
    · rw [Array.getElem?_eq_none h1] at heq; cases heq
  · cases hc

theorem cellAt_eq {h h' : Array Obj} {b o : Nat} (e : h'[b]? = h[b]?) : cellAt h' b o = cellAt h b o := by unfold cellAt; rw [e]

section
variable {h h' : Array Obj} {L L' : Lay} {O O' : Nat → Prop}

theorem VR.ext (x : Ext h L O h' L' O') {v : AV} {c : Value} (hv : VR h L O v c) : VR h' L' O' v c := by
  have cell : ∀ {b o : Nat} {u : Value}, ¬ O b ∧ cellAt h b o = some u ∧ u.oneCell' = true → ¬ O' b ∧ cellAt h' b o = some u ∧ u.oneCell' = true := by
    intro b o u ⟨h1, h2, h3⟩
    have hlt := cellAt_lt h2
    exact ⟨x.own b hlt h1, by rw [cellAt_eq (x.heap b hlt h1)]; exact h2, h3⟩
  refine VR.rec (h := h) (L := L) (O := O) (motive_1 := fun v c _ => VR h' L' O' v c) (motive_2 := fun v c _ => VRs h' L' O' v c)
    ?_ ?_ ?_ ?_ ?_ ?_ ?_ ?_ ?_ ?_ ?_ ?_ ?_ ?_ ?_ ?_ ?_ ?_ ?_ ?_ hv
  · exact fun v => .un v
  · exact fun k n => .int k n
  · exact fun b => .bool b
  · exact fun s => .str s
  · exact .nilp
  · exact fun l i j e hl => .ptr l i j e (x.lay _ _ hl)
  · intro m get j b o vals hc _ ih
    exact .vptr m get j b o vals (fun t ht => cell (hc t ht)) ih
  · exact .nils
  · exact fun l off a => .sl0 l off a
  · exact fun l off => .sl0n l off
  · exact fun l off len cap e hl h1 h2 => .sl l off len cap e (x.lay _ _ hl) h1 h2
  · exact fun es get a => .vsl0 es get a
  · intro es len cap get b o vals hle hc _ ih
    exact .vsl es len cap get b o vals hle (fun i j hi hj => cell (hc i j hi hj)) ih
  · exact fun cs c _ ih => .agg cs c ih
  · exact fun cs c _ ih => .tup cs c ih
  · exact .nili
  · exact fun t v c _ ih => .ifc t v c ih
  · exact fun f cs c _ ih => .fn f cs c ih
  · exact .nil
  · exact fun v c vs cs _ _ i1 i2 => .cons v c vs cs i1 i2

theorem VRs.ext (x : Ext h L O h' L' O') {v : List AV} {c : List Value} (hv : VRs h L O v c) : VRs h' L' O' v c := by
  induction v generalizing c with
  | nil => cases hv; exact .nil
  | cons a l ih => cases hv with | cons _ d _ cs h1 h2 => exact .cons _ _ _ _ (h1.ext x) (ih h2)

theorem VRs.length {vs : List AV} {cs : List Value} (hv : VRs h L O vs cs) : cs.length = vs.length := by
  induction vs generalizing cs with
  | nil => cases hv; rfl
  | cons a l ih => cases hv with | cons _ d _ cs h1 h2 => simp [ih h2]

theorem VRs.get {vs : List AV} {cs : List Value} (hv : VRs h L O vs cs) (i : Nat) (hi : i < vs.length) : ∃ c, cs[i]? = some c ∧ VR h L O (vs.getD i .un) c := by
  induction vs generalizing cs i with
  | nil => simp at hi
  | cons a l ih =>
    cases hv with
    | cons _ d _ cs h1 h2 =>
      cases i with
      | zero => exact ⟨d, by simp, by simpa using h1⟩
      | succ i => simpa using ih h2 i (by simpa using hi)

theorem VRs.of_get : ∀ {vs : List AV} {cs : List Value}, cs.length = vs.length → (∀ i c, cs[i]? = some c → VR h L O (vs.getD i .un) c) → VRs h L O vs cs
  | [], [], _, _ => .nil
  | [], c :: cs, hl, _ => by simp at hl
  | v :: vs, [], hl, _ => by simp at hl
  | v :: vs, c :: cs, hl, hg => .cons _ _ _ _ (by simpa using hg 0 c (by simp)) (VRs.of_get (by simpa using hl) (fun i d hd => by simpa using hg (i + 1) d (by simpa using hd)))

theorem VRs.append {vs us : List AV} {cs ds : List Value} (h1 : VRs h L O vs cs) (h2 : VRs h L O us ds) : VRs h L O (vs ++ us) (cs ++ ds) := by
  induction vs generalizing cs with
  | nil => cases h1; simpa using h2
  | cons a l ih => cases h1 with | cons _ d _ cs g1 g2 => exact .cons _ _ _ _ g1 (ih g2)

theorem Ext.refl (h : Array Obj) (L : Lay) (O : Nat → Prop) : Ext h L O h L O := ⟨fun _ _ e => e, fun _ _ _ => rfl, fun _ _ e => e⟩

end

/-- A block that the call owns: n elements of es cells. -/
structure Blk where
  es : Nat
  n : Nat
  get : Nat → Nat → AV
  deriving Inhabited
abbrev Mem := List (Option Blk)

def own (m : Mem) (L : Lay) (b : Nat) : Prop := ∃ l blk e, m[l]? = some (some blk) ∧ L l = some e ∧ 0 < e.tot ∧ e.b = b

/-- What stays fixed while a body runs: the world as it began, which of its blocks may be written, what else must not be, where the blocks lie that it began with. -/
structure Ctx where
  X : Nat → Prop
  w0 : World
  O0 : Nat → Prop
  L0 : Lay
  k : Nat

def OO (C : Ctx) (m : Mem) (L : Lay) (b : Nat) : Prop := C.X b ∨ own m L b

structure MRel (C : Ctx) (m : Mem) (w : World) (L : Lay) : Prop where
  os : w.os = C.w0.os
  tape : w.tape = C.w0.tape
  output : w.output = C.w0.output
  size : C.w0.heap.size ≤ w.heap.size
  frame : ∀ b, b < C.w0.heap.size → ¬ C.O0 b → w.heap[b]? = C.w0.heap[b]?
  lay : ∀ l, m.length ≤ l → L l = none
  blk : ∀ l blk, m[l]? = some (some blk) → ∃ e, L l = some e ∧ e.es = blk.es ∧ blk.n ≤ e.tot ∧ (0 < e.tot → ∃ c T, w.heap[e.b]? = some (.cells c T (0, 0)) ∧ c.size = e.tot * e.es ∧
    (C.w0.heap.size ≤ e.b ∨ C.O0 e.b) ∧ ∀ i j, i < blk.n → j < blk.es → ∃ v, c[i * blk.es + j]? = some v ∧ VR w.heap L (OO C m L) (blk.get i j) v ∧ v.oneCell' = true)
  inj : ∀ l l' blk blk' e e', m[l]? = some (some blk) → m[l']? = some (some blk') → L l = some e → L l' = some e' → 0 < e.tot → 0 < e'.tot → e.b = e'.b → l = l'
  base : ∀ l, l < C.k → l < m.length ∧ L l = C.L0 l
  xlt : ∀ b, C.X b → b < C.w0.heap.size
  notX : ∀ b, own m L b → ¬ C.X b

/-- Slots as numbers in a tree: what is in slot n. -/
inductive Env where
  | nil
  | node (l : Env) (v : AV) (r : Env)
  deriving Inhabited

def Env.get : Env → Nat → AV
  | .nil, _ => .un
  | .node l v r, n => bif n == 0 then v else bif n % 2 == 1 then l.get (n / 2) else r.get (n / 2 - 1)

def Env.setF : Nat → Env → Nat → AV → Env
  | 0, _, _, _ => .nil
  | f + 1, .nil, n, v => bif n == 0 then .node .nil v .nil else bif n % 2 == 1 then .node (Env.setF f .nil (n / 2) v) .un .nil else .node .nil .un (Env.setF f .nil (n / 2 - 1) v)
  | f + 1, .node l u r, n, v => bif n == 0 then .node l v r else bif n % 2 == 1 then .node (Env.setF f l (n / 2) v) u r else .node l u (Env.setF f r (n / 2 - 1) v)
def Env.set (e : Env) (n : Nat) (v : AV) : Env := Env.setF 12 e n v

def ERel (C : Ctx) (e : Env) (m : Mem) (a : Act) (w : World) (L : Lay) : Prop := ∀ t, VR w.heap L (OO C m L) (e.get t) (a.tmps.getD t undef)

theorem Env.get_nil (n : Nat) : Env.nil.get n = .un := by unfold Env.get; rfl

def Env.Upd (e e' : Env) (n : Nat) (v : AV) (t : Nat) : Prop := e'.get t = .un ∨ (t ≠ n ∧ e'.get t = e.get t) ∨ (t = n ∧ e'.get t = v)

theorem Env.get_node0 (l r : Env) (v : AV) : (Env.node l v r).get 0 = v := by simp [Env.get]
theorem Env.get_node1 (l r : Env) (v : AV) {t : Nat} (h : t % 2 = 1) : (Env.node l v r).get t = l.get (t / 2) := by
  have h0 : (t == 0) = false := by simp; omega
  simp [Env.get, h0, h]
theorem Env.get_node2 (l r : Env) (v : AV) {t : Nat} (h : t % 2 = 0) (ht : t ≠ 0) : (Env.node l v r).get t = r.get (t / 2 - 1) := by
  have h0 : (t == 0) = false := by simp; omega
  simp [Env.get, h0, h]
theorem Env.node_eta (e : Env) (t : Nat) : ∃ l u r, (∀ t, e.get t = (Env.node l u r).get t) ∧ ∀ f n v, Env.setF (f + 1) e n v = Env.setF (f + 1) (.node l u r) n v := by
  cases e with
  | nil =>
    refine ⟨.nil, .un, .nil, fun t => ?_, fun f n v => ?_⟩
    · rcases Nat.eq_zero_or_pos t with ht | ht
      · subst ht; rw [Env.get_node0, Env.get_nil]
      · by_cases hp : t % 2 = 1
        · rw [Env.get_node1 _ _ _ hp, Env.get_nil, Env.get_nil]
        · rw [Env.get_node2 _ _ _ (by omega) (by omega), Env.get_nil, Env.get_nil]
    · simp [Env.setF]
  | node l u r => exact ⟨l, u, r, fun _ => rfl, fun _ _ _ => rfl⟩

theorem Env.setF_upd : ∀ (f : Nat) (e : Env) (n : Nat) (v : AV) (t : Nat), Env.Upd e (Env.setF f e n v) n v t
  | 0, e, n, v, t => .inl (by rw [Env.setF, Env.get_nil])
  | f + 1, e0, n, v, t => by
    obtain ⟨l, u, r, he, hs⟩ := Env.node_eta e0 t
    unfold Env.Upd
    rw [hs, he t]
    unfold Env.setF
    rcases Nat.eq_zero_or_pos n with hn | hn
    · subst hn
      simp only [beq_self_eq_true, cond_true]
      rcases Nat.eq_zero_or_pos t with ht | ht
      · subst ht; right; right; exact ⟨rfl, Env.get_node0 _ _ _⟩
      · right; left
        refine ⟨by omega, ?_⟩
        by_cases hp : t % 2 = 1
        · rw [Env.get_node1 _ _ _ hp, Env.get_node1 _ _ _ hp]
        · rw [Env.get_node2 _ _ _ (by omega) (by omega), Env.get_node2 _ _ _ (by omega) (by omega)]
    · have h0 : (n == 0) = false := by simp; omega
      simp only [h0, cond_false]
      by_cases hp : n % 2 = 1
      · have hp' : (n % 2 == 1) = true := by simp [hp]
        simp only [hp', cond_true]
        rcases Nat.eq_zero_or_pos t with ht | ht
        · subst ht; right; left; exact ⟨by omega, by rw [Env.get_node0, Env.get_node0]⟩
        · by_cases hq : t % 2 = 1
          · rw [Env.get_node1 _ _ _ hq, Env.get_node1 _ _ _ hq]
            rcases Env.setF_upd f l (n / 2) v (t / 2) with h | ⟨h, h'⟩ | ⟨h, h'⟩
            · exact .inl h
            · exact .inr (.inl ⟨by omega, h'⟩)
            · exact .inr (.inr ⟨by omega, h'⟩)
          · right; left
            exact ⟨by omega, by rw [Env.get_node2 _ _ _ (by omega) (by omega), Env.get_node2 _ _ _ (by omega) (by omega)]⟩
      · have hp' : (n % 2 == 1) = false := by simp; omega
        simp only [hp', cond_false]
        rcases Nat.eq_zero_or_pos t with ht | ht
        · subst ht; right; left; exact ⟨by omega, by rw [Env.get_node0, Env.get_node0]⟩
        · by_cases hq : t % 2 = 1
          · right; left
            exact ⟨by omega, by rw [Env.get_node1 _ _ _ hq, Env.get_node1 _ _ _ hq]⟩
          · rw [Env.get_node2 _ _ _ (by omega) (by omega), Env.get_node2 _ _ _ (by omega) (by omega)]
            rcases Env.setF_upd f r (n / 2 - 1) v (t / 2 - 1) with h | ⟨h, h'⟩ | ⟨h, h'⟩
            · exact .inl h
            · exact .inr (.inl ⟨by omega, h'⟩)
            · exact .inr (.inr ⟨by omega, h'⟩)

theorem Env.set_upd (e : Env) (n : Nat) (v : AV) (t : Nat) : Env.Upd e (e.set n v) n v t := Env.setF_upd _ _ _ _ _

end Go.Wit
