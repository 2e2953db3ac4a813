/- What a law is handed: from data read to abstract values, whatever the types; no condition. -/
import Derived.Test.YtdobchoiiihfiaaB4
import Derived.Carry
import Derived.OpenShut
import Derived.WideShapes
set_option linter.unusedVariables false
set_option linter.unusedSimpArgs false
namespace Go.Wit

/-- Types of what laws are handed. -/
inductive Ty where
  | int (k : IntKind)
  | bool
  | str
  | sl (es : Nat) (e : Ty)
  | arr (n : Nat) (e : Ty)
  | st (l : List Ty)

mutual
def Ty.size : Ty → Nat
  | .int _ | .bool | .str | .sl _ _ => 1
  | .arr n e => n * e.size
  | .st l => Ty.sizes l
def Ty.sizes : List Ty → Nat
  | [] => 0
  | t :: ts => t.size + Ty.sizes ts
end

mutual
/-- The cells of a value of a type, as abstract values. -/
def okC : Ty → List AV → Prop
  | .int k, cs => ∃ n, cs = [.int k n] ∧ k.min ≤ n ∧ n ≤ k.max
  | .bool, cs => ∃ b, cs = [.bool b]
  | .str, cs => ∃ s, cs = [.str s] ∧ s.size ≤ Go.maxLen
  | .sl es e, cs => ∃ len cap get, cs = [.vsl es len cap get] ∧ len ≤ cap ∧ cap ≤ Go.maxLen ∧ ∀ i, i < len → okC e ((List.range es).map (get i))
  | .arr n e, cs => cs.length = n * e.size ∧ ∀ i, i < n → okC e ((cs.drop (i * e.size)).take e.size)
  | .st l, cs => okCs l cs
def okCs : List Ty → List AV → Prop
  | [], cs => cs = []
  | t :: ts, cs => ∃ a b, cs = a ++ b ∧ a.length = t.size ∧ okC t a ∧ okCs ts b
end

mutual
def chkTy (P : Program) : Ty → TypeId → Bool
  | .int k, t => match P.underlying t with | some (.int k') => kbeq k k' | _ => false
  | .bool, t => match P.underlying t with | some .bool => true | _ => false
  | .str, t => match P.underlying t with | some .string => true | _ => false
  | .sl es e, t => match P.underlying t with | some (.slice u) => P.cellsOf u == es && (Nat.blt 0 es && (e.size == es && chkTy P e u)) | _ => false
  | .arr n e, t => match P.underlying t with | some (.array n' u) => n == n' && (P.cellsOf t == n * e.size && (P.cellsOf u == e.size && chkTy P e u)) | _ => false
  | .st l, t => match P.underlying t with | some (.struct fs) => P.cellsOf t == Ty.sizes l && chkFs P l fs.toList 0 | _ => false
def chkFs (P : Program) : List Ty → List Field → Nat → Bool
  | [], [], _ => true
  | t :: ts, f :: fs, o => f.offset == o && (P.cellsOf f.type == t.size && (chkTy P t f.type && chkFs P ts fs (o + t.size)))
  | _, _, _ => false
end

section
variable {H : Type} {enc : TypeId × Value → H} {P : Program} {w : World} {sp : Nat → Bool} {held : Bool} {L : Lay} {O : Nat → Prop}

theorem cellAt_of_cell? {a : Addr} {v : Value} (h : w.cell? a = some v) : a.spot = none ∧ cellAt w.heap a.block a.off = some v := by
  unfold World.cell? at h
  unfold cellAt
  split at h
  · rename_i heq
    rw [heq]
    split at h
    · cases h
    · rename_i hs
      exact ⟨by simpa using hs, h⟩
  · cases h

theorem mapM_some_of {α β : Type} {f : α → Option β} : ∀ {l : List α} {r : List β}, l.mapM f = some r → r.length = l.length ∧ ∀ (i : Nat) (x : α), l[i]? = some x → ∃ y, r[i]? = some y ∧ f x = some y
  | [], r, h => by simp at h; subst h; exact ⟨rfl, fun i x hx => by simp at hx⟩
  | a :: l, r, h => by
    rw [List.mapM_cons] at h
    cases ha : f a with
    | none => simp [ha] at h
    | some b =>
      cases hl : l.mapM f with
      | none => simp [ha, hl] at h
      | some bs =>
        simp [ha, hl] at h
        subst h
        obtain ⟨h1, h2⟩ := mapM_some_of hl
        refine ⟨by simp [h1], fun i x hx => ?_⟩
        cases i with
        | zero => simp at hx; subst hx; exact ⟨b, rfl, ha⟩
        | succ i => simpa using h2 i x (by simpa using hx)

theorem addr_plus {a : Addr} {n : Nat} (h : a.spot = none) : a.add n = ⟨a.block, a.off + n, none⟩ := by
  unfold Addr.add
  split
  · rename_i hn; subst hn; cases a; simp_all
  · rfl

def OkR (w : World) (L : Lay) (O : Nat → Prop) (ty : Ty) (cs : List Value) : Prop := cs.length = ty.size ∧ (∀ c ∈ cs, c.oneCell' = true) ∧ ∃ avs, okC ty avs ∧ VRs w.heap L O avs cs

theorem row_get {n s : Nat} {cs : List Value} {g : Nat → List AV} (hl : cs.length = n * s) (hg : ∀ i, i < n → VRs w.heap L O (g i) ((cs.drop (i * s)).take s)) : ∃ avs : List AV, avs.length = n * s ∧ VRs w.heap L O avs cs ∧ ∀ i, i < n → (avs.drop (i * s)).take s = g i := by
  induction n generalizing cs g with
  | zero =>
    have : cs = [] := by simpa using hl
    subst this
    exact ⟨[], by simp, .nil, fun i hi => absurd hi (Nat.not_lt_zero _)⟩
  | succ n ih =>
    have hl' : (cs.drop s).length = n * s := by rw [List.length_drop, hl, Nat.succ_mul]; omega
    obtain ⟨avs, h1, h2, h3⟩ := ih (cs := cs.drop s) (g := fun i => g (i + 1)) hl' (fun i hi => by
      have := hg (i + 1) (by omega)
      rw [List.drop_drop, show s + i * s = (i + 1) * s by rw [Nat.succ_mul]; omega]; exact this)
    have h0 := hg 0 (by omega)
    simp only [Nat.zero_mul, List.drop_zero] at h0
    have hlen0 : (g 0).length = s := by
      have := h0.length
      rw [List.length_take, hl, Nat.succ_mul] at this; omega
    refine ⟨g 0 ++ avs, by rw [List.length_append, hlen0, h1, Nat.succ_mul]; omega, ?_, fun i hi => ?_⟩
    · have := h0.append h2
      rwa [List.take_append_drop] at this
    · cases i with
      | zero => simp only [Nat.zero_mul, List.drop_zero]; rw [← hlen0, List.take_left]
      | succ i =>
        rw [show (i + 1) * s = s + i * s by rw [Nat.succ_mul]; omega, ← List.drop_drop, show List.drop s (g 0 ++ avs) = avs by rw [← hlen0, List.drop_left]]
        exact h3 i (by omega)

theorem range_map_getD {es : Nat} {l : List AV} (h : l.length = es) : (List.range es).map (fun j => l.getD j .un) = l := by
  subst h
  apply List.ext_getElem?
  intro i
  by_cases hi : i < l.length
  · simp [hi, List.getD]
  · simp [hi]

theorem open_sl (hO : ∀ b, ¬ O b) {es len cap : Nat} {a : Addr} {e : Ty} (hpos : 0 < es) (hsz : e.size = es) (hl : len ≤ cap) (hm : cap ≤ Go.maxLen) (h0 : 0 < cap → ∃ c, w.cells? 0 (a.add (0 * es)) es = some c)
    (each : ∀ i, i < len → ∃ cs', w.cells? 0 (a.add (i * es)) es = some cs' ∧ OkR w L O e cs') : OkR w L O (.sl es e) [.slice (some a) len cap] := by
  classical
  refine ⟨rfl, by simp [Value.oneCell'], ?_⟩
  by_cases hcap : cap = 0
  · subst hcap
    obtain rfl : len = 0 := by omega
    refine ⟨[.vsl es 0 0 fun _ _ => .un], ?_, .cons _ _ _ _ (.vsl0 _ _ _) .nil⟩
    simp only [okC]; exact ⟨0, 0, _, rfl, Nat.le_refl _, hm, fun i hi => absurd hi (Nat.not_lt_zero _)⟩
  · obtain ⟨c, hc⟩ := h0 (by omega)
    have hspot : a.spot = none := by
      obtain ⟨_, h2, h3⟩ := World.cells?_some hc
      have := h3 0 hpos
      rw [List.getElem?_eq_getElem (by omega)] at this
      have := (cellAt_of_cell? this).1
      simpa [Addr.add] using this
    have key : ∀ i, i < len → ∃ cs' avs, cs'.length = es ∧ avs.length = es ∧ okC e avs ∧ VRs w.heap L O avs cs' ∧ (∀ c ∈ cs', c.oneCell' = true) ∧ ∀ j, j < es → cellAt w.heap a.block (a.off + (i * es + j)) = cs'[j]? := by
      intro i hi
      obtain ⟨cs', h1, h2, h3, avs, h4, h5⟩ := each i hi
      obtain ⟨_, g2, g3⟩ := World.cells?_some h1
      have hlen : cs'.length = es := by rw [h2, hsz]
      refine ⟨cs', avs, hlen, by rw [← hlen, h5.length], h4, h5, h3, fun j hj => ?_⟩
      have := g3 j hj
      rw [List.getElem?_eq_getElem (by omega)] at this
      have := (cellAt_of_cell? this).2
      rw [addr_plus hspot, addr_plus rfl] at this
      simp only [← Nat.add_assoc] at this ⊢
      rw [this, List.getElem?_eq_getElem (by omega)]
    let av : Nat → List AV := fun i => if hi : i < len then (key i hi).choose_spec.choose else []
    let cv : Nat → List Value := fun i => if hi : i < len then (key i hi).choose else []
    have spec : ∀ i, i < len → (cv i).length = es ∧ (av i).length = es ∧ okC e (av i) ∧ VRs w.heap L O (av i) (cv i) ∧ (∀ c ∈ cv i, c.oneCell' = true) ∧ ∀ j, j < es → cellAt w.heap a.block (a.off + (i * es + j)) = (cv i)[j]? := by
      intro i hi
      have := (key i hi).choose_spec.choose_spec
      simp only [av, cv, dif_pos hi]
      exact this
    refine ⟨[.vsl es len cap fun i j => (av i).getD j .un], ?_, .cons _ _ _ _ ?_ .nil⟩
    · simp only [okC]
      refine ⟨len, cap, _, rfl, hl, hm, fun i hi => ?_⟩
      rw [range_map_getD (spec i hi).2.1]
      exact (spec i hi).2.2.1
    · have ha : a = ⟨a.block, a.off, none⟩ := by cases a; simp_all
      rw [ha]
      refine .vsl _ _ _ _ a.block a.off (fun i j => (cv i).getD j undef) hl (fun i j hi hj => ?_) (fun i j hi hj => ?_)
      · obtain ⟨s1, s2, s3, s4, s5, s6⟩ := spec i hi
        have hg : (cv i)[j]? = some ((cv i).getD j undef) := by rw [List.getD, List.getElem?_eq_getElem (by omega)]; rfl
        exact ⟨hO _, by rw [s6 j hj, hg], s5 _ (List.mem_of_getElem? hg)⟩
      · obtain ⟨s1, s2, s3, s4, s5, s6⟩ := spec i hi
        obtain ⟨c, h1, h2⟩ := s4.get j (by omega)
        rw [show (cv i).getD j undef = c by rw [List.getD, h1]; rfl]
        exact h2

mutual
theorem open_ty (hO : ∀ b, ¬ O b) (hsp : ∀ b, sp b = true) : ∀ (ty : Ty) (t : TypeId), chkTy P ty t = true → ∀ (fuel : Nat) (cs : List Value) (x : DataW H × List MemPlace), DataW.trod enc P w 0 sp held fuel t cs = some x → OkR w L O ty cs
  | .int k, t, hc, fuel, cs, x, h => by
    simp only [chkTy] at hc
    split at hc
    case h_2 => cases hc
    rename_i k' hu
    have := kbeq_eq hc; subst this
    obtain ⟨n, rfl, _, hw⟩ := DataW.trod_int hu h
    simp only [Lit.wf, Bool.and_eq_true, decide_eq_true_eq] at hw
    refine ⟨rfl, by simp [Value.oneCell'], [.int k n], ?_, .cons _ _ _ _ (.int _ _) .nil⟩
    simp only [okC]; exact ⟨n, rfl, hw.1, hw.2⟩
  | .bool, t, hc, fuel, cs, x, h => by
    simp only [chkTy] at hc
    split at hc
    case h_2 => cases hc
    rename_i hu
    obtain ⟨b, rfl, _⟩ := DataW.trod_bool hu h
    exact ⟨rfl, by simp [Value.oneCell'], [.bool b], by simp only [okC]; exact ⟨b, rfl⟩, .cons _ _ _ _ (.bool _) .nil⟩
  | .str, t, hc, fuel, cs, x, h => by
    simp only [chkTy] at hc
    split at hc
    case h_2 => cases hc
    rename_i hu
    obtain ⟨s, rfl, _, hs⟩ := DataW.trod_string hu h
    exact ⟨rfl, by simp [Value.oneCell'], [.str s], by simp only [okC]; exact ⟨s, rfl, hs⟩, .cons _ _ _ _ (.str _) .nil⟩
  | .sl es e, t, hc, fuel, cs, x, h => by
    simp only [chkTy] at hc
    split at hc
    case h_2 => cases hc
    rename_i u hu
    simp only [Bool.and_eq_true, beq_iff_eq, Nat.blt_eq] at hc
    obtain ⟨hes, hpos, hsz, hce⟩ := hc
    rcases DataW.trod_slice hu h with ⟨rfl, _⟩ | ⟨a, len, cap, elems, rest, n, _, rfl, rfl, hb, hl, hm, hlen, hel, hsp', hns⟩
    · refine ⟨rfl, by simp [Value.oneCell'], [.vsl es 0 0 fun _ _ => .un], ?_, .cons _ _ _ _ (.vsl0 _ _ _) .nil⟩
      simp only [okC]; exact ⟨0, 0, _, rfl, Nat.le_refl _, Nat.zero_le _, fun i hi => absurd hi (Nat.not_lt_zero _)⟩
    rw [hes] at hel hsp'
    have get : ∀ {i : Nat} {l : List (DataW H × List MemPlace)} {k : Nat}, k < l.length → (w.cells? 0 (a.add (i * es)) es).bind (DataW.trod enc P w 0 sp held n u) = l[k]? → ∃ cs' y, w.cells? 0 (a.add (i * es)) es = some cs' ∧ DataW.trod enc P w 0 sp held n u cs' = some y := by
      intro i l k hk h1
      rw [List.getElem?_eq_getElem hk] at h1
      simp only [Option.bind_eq_some_iff] at h1
      obtain ⟨cs', h1, h2⟩ := h1
      exact ⟨cs', _, h1, h2⟩
    refine open_sl hO hpos hsz hl hm (fun hcap => ?_) (fun i hi => ?_)
    · by_cases h0 : len = 0
      · obtain ⟨h1, h2⟩ := hsp' (hsp _)
        obtain ⟨cs', _, h3, _⟩ := get (k := 0) (by omega) (h2 0 (by omega))
        rw [h0] at h3
        exact ⟨cs', h3⟩
      · obtain ⟨cs', _, h3, _⟩ := get (k := 0) (by omega) (hel 0 (by omega))
        exact ⟨cs', h3⟩
    · obtain ⟨cs', y, h1, h2⟩ := get (k := i) (by omega) (hel i hi)
      exact ⟨cs', h1, open_ty hO hsp e u hce _ _ _ h2⟩
  | .arr n e, t, hc, fuel, cs, x, h => by
    simp only [chkTy] at hc
    split at hc
    case h_2 => cases hc
    rename_i n' u hu
    simp only [Bool.and_eq_true, beq_iff_eq] at hc
    obtain ⟨rfl, hct, hcs, hce⟩ := hc
    obtain ⟨xs, m, rfl, rfl, hlen, hxs, hall⟩ := DataW.trod_array hu h
    rw [hct] at hlen
    have each : ∀ i, i < n → OkR w L O e ((cs.drop (i * e.size)).take e.size) := by
      intro i hi
      have := hall i hi
      rw [hcs, List.getElem?_eq_getElem (by omega)] at this
      exact open_ty hO hsp e u hce _ _ _ this
    refine ⟨hlen, fun c hcm => ?_, ?_⟩
    · obtain ⟨k, hk⟩ := List.getElem?_of_mem hcm
      have hk' := (List.getElem?_eq_some_iff.1 hk).1
      rw [hlen] at hk'
      have hs0 : 0 < e.size := by
        rcases Nat.eq_zero_or_pos e.size with h0 | h0
        · rw [h0] at hk'; omega
        · exact h0
      have hq : k / e.size < n := (Nat.div_lt_iff_lt_mul hs0).2 hk'
      refine (each (k / e.size) hq).2.1 c (List.mem_of_getElem? (i := k % e.size) ?_)
      rw [List.getElem?_take, if_pos (Nat.mod_lt _ hs0), List.getElem?_drop, Nat.div_add_mod']
      exact hk
    · classical
      obtain ⟨avs, h1, h2, h3⟩ := row_get (g := fun i => if hi : i < n then (each i hi).2.2.choose else []) hlen (fun i hi => by
        have := (each i hi).2.2.choose_spec.2
        rw [dif_pos hi]; exact this)
      refine ⟨avs, ?_, h2⟩
      simp only [okC]
      refine ⟨h1, fun i hi => ?_⟩
      rw [h3 i hi, dif_pos hi]
      exact (each i hi).2.2.choose_spec.1
  | .st l, t, hc, fuel, cs, x, h => by
    simp only [chkTy] at hc
    split at hc
    case h_2 => cases hc
    rename_i fs hu
    simp only [Bool.and_eq_true, beq_iff_eq] at hc
    obtain ⟨xs, m, rfl, rfl, hlen, hxs, hall⟩ := DataW.trod_struct hu h
    have := open_fs hO hsp l fs.toList 0 hc.2 m (cs := cs) (by rw [hlen, hc.1]; simp) (fun i f hf => by
      have hf' : fs[i]? = some f := by simpa using hf
      have h1 := hall i f hf'
      have hi : i < fs.size := (Array.getElem?_eq_some_iff.1 hf').1
      rw [List.getElem?_eq_getElem (by omega)] at h1
      exact ⟨_, h1⟩)
    simpa using this
theorem open_fs (hO : ∀ b, ¬ O b) (hsp : ∀ b, sp b = true) : ∀ (l : List Ty) (fs : List Field) (o : Nat), chkFs P l fs o = true → ∀ (fuel : Nat) {cs : List Value}, cs.length = o + Ty.sizes l → (∀ (i : Nat) f, fs[i]? = some f → ∃ x : DataW H × List MemPlace, DataW.trod enc P w 0 sp held fuel f.type ((cs.drop f.offset).take (P.cellsOf f.type)) = some x) → OkR w L O (.st l) (cs.drop o)
  | [], [], o, hc, fuel, cs, hl, h => by
    have : cs.drop o = [] := by apply List.drop_of_length_le; simp [Ty.sizes] at hl; omega
    rw [this]
    exact ⟨by simp [Ty.size, Ty.sizes], by simp, [], by simp [okC, okCs], .nil⟩
  | [], _ :: _, o, hc, fuel, cs, hl, h => by simp [chkFs] at hc
  | _ :: _, [], o, hc, fuel, cs, hl, h => by simp [chkFs] at hc
  | t :: ts, f :: fs, o, hc, fuel, cs, hl, h => by
    simp only [chkFs, Bool.and_eq_true, beq_iff_eq] at hc
    obtain ⟨ho, hsz, hct, hcf⟩ := hc
    obtain ⟨x, hx⟩ := h 0 f rfl
    rw [ho, hsz] at hx
    obtain ⟨a1, a2, avs, a3, a4⟩ := open_ty hO hsp t f.type hct _ _ _ hx
    simp only [Ty.sizes] at hl
    obtain ⟨b1, b2, bvs, b3, b4⟩ := open_fs hO hsp ts fs (o + t.size) hcf fuel (cs := cs) (by omega) (fun i f hf => h (i + 1) f (by simpa using hf))
    have hsplit : cs.drop o = (cs.drop o).take t.size ++ cs.drop (o + t.size) := by rw [← List.drop_drop, List.take_append_drop]
    rw [hsplit]
    refine ⟨by rw [List.length_append, a1, b1]; simp [Ty.size, Ty.sizes], fun c hcm => ?_, avs ++ bvs, ?_, a4.append b4⟩
    · rcases List.mem_append.1 hcm with hm | hm
      · exact a2 c hm
      · exact b2 c hm
    · simp only [okC] at b3 ⊢
      simp only [okCs]
      exact ⟨avs, bvs, rfl, by rw [← a4.length, a1], a3, b3⟩
end

/-- One value that a law is handed. -/
def okV : Ty → AV → Prop
  | .arr n e, v => ∃ cs, v = .agg cs ∧ okC (.arr n e) cs
  | .st l, v => ∃ cs, v = .agg cs ∧ okC (.st l) cs
  | ty, v => okC ty [v]

theorem open_val (hO : ∀ b, ¬ O b) (hsp : ∀ b, sp b = true) {ty : Ty} {t : TypeId} (hc : chkTy P ty t = true) {r : Reach} {b0 : Nat} {v : Value} {d : DataW H} {ps : List MemPlace} (hval : Value.okWide P w r b0 t v) (h : DataW.Trod enc P w 0 sp held t v d ps) :
    ∃ av, okV ty av ∧ VR w.heap L O av v := by
  obtain ⟨fuel, hf⟩ := h
  obtain ⟨h1, h2, avs, h3, h4⟩ := open_ty (L := L) hO hsp ty t hc fuel _ _ hf
  have one : ∀ {v : Value}, v.cells = #[v] → VRs w.heap L O avs v.cells.toList → okC ty avs → ∃ av, okC ty [av] ∧ VR w.heap L O av v := by
    intro v hv h4 h3
    rw [hv] at h4
    cases h4 with
    | cons a c as cs g1 g2 => cases g2; exact ⟨a, h3, g1⟩
  cases ty with
  | arr n e =>
    simp only [chkTy] at hc
    split at hc
    case h_2 => cases hc
    rename_i n' u hu
    simp only [Value.okWide, hu] at hval
    obtain ⟨cs, rfl, _, _⟩ := hval
    exact ⟨.agg avs, ⟨avs, rfl, h3⟩, .agg _ _ h4⟩
  | st l =>
    simp only [chkTy] at hc
    split at hc
    case h_2 => cases hc
    rename_i fs hu
    simp only [Value.okWide, hu] at hval
    obtain ⟨cs, rfl, _, _⟩ := hval
    exact ⟨.agg avs, ⟨avs, rfl, h3⟩, .agg _ _ h4⟩
  | int k =>
    simp only [chkTy] at hc
    split at hc
    case h_2 => cases hc
    rename_i hu
    obtain ⟨n, rfl⟩ := WideShapes.okWide_int hu hval
    exact one rfl h4 h3
  | bool =>
    simp only [chkTy] at hc
    split at hc
    case h_2 => cases hc
    rename_i hu
    obtain ⟨n, rfl⟩ := WideShapes.okWide_bool hu hval
    exact one rfl h4 h3
  | str =>
    simp only [chkTy] at hc
    split at hc
    case h_2 => cases hc
    rename_i hu
    obtain ⟨n, rfl⟩ := WideShapes.okWide_string hu hval
    exact one rfl h4 h3
  | sl es e =>
    simp only [chkTy] at hc
    split at hc
    case h_2 => cases hc
    rename_i hu
    obtain ⟨n, _, _, rfl⟩ := WideShapes.okWide_slice hu hval
    exact one rfl h4 h3

def okVs : List Ty → List AV → Prop
  | [], vs => vs = []
  | t :: ts, vs => ∃ v r, vs = v :: r ∧ okV t v ∧ okVs ts r

def chkTys (P : Program) : List Ty → List TypeId → Bool
  | [], [] => true
  | ty :: tys, t :: ts => chkTy P ty t && chkTys P tys ts
  | _, _ => false

theorem open_vals (hO : ∀ b, ¬ O b) (hsp : ∀ b, sp b = true) {r : Reach} {b0 : Nat} : ∀ {tys : List Ty} {ts : List TypeId} {vs : List Value} {ds : List (DataW H)} {ps : List MemPlace}, chkTys P tys ts = true → (∀ (j : Nat) t v, ts[j]? = some t → vs[j]? = some v → Value.okWide P w r b0 t v) →
    DataW.TrodAll enc P w 0 sp held ts vs ds ps → ∃ avs, okVs tys avs ∧ VRs w.heap L O avs vs
  | [], [], vs, ds, ps, hc, hv, h => by
    match vs, ds, h with
    | [], [], h => exact ⟨[], rfl, .nil⟩
  | [], _ :: _, vs, ds, ps, hc, hv, h => by simp [chkTys] at hc
  | _ :: _, [], vs, ds, ps, hc, hv, h => by simp [chkTys] at hc
  | ty :: tys, t :: ts, vs, ds, ps, hc, hv, h => by
    match vs, ds, h with
    | v :: vs, d :: ds, ⟨p, q, h1, h2, _⟩ =>
      simp only [chkTys, Bool.and_eq_true] at hc
      obtain ⟨av, g1, g2⟩ := open_val (L := L) hO hsp hc.1 (hv 0 t v rfl rfl) h1
      obtain ⟨avs, g3, g4⟩ := open_vals hO hsp hc.2 (fun j t v a b => hv (j + 1) t v (by simpa using a) (by simpa using b)) h2
      exact ⟨av :: avs, ⟨av, avs, rfl, g1, g3⟩, .cons _ _ _ _ g2 g4⟩

end

/-- What was handed reads as it did. -/
theorem shut_vals {H : Type} {enc : TypeId × Value → H} {P : Program} (hl : laidOutB P = true) {W W' : World} (hb : Go.RowKit.Below W.heap.size W W') : ∀ {ts : List TypeId} {vs : List Value} {ds : List (DataW H)} {ps : List MemPlace}, ts.all (fun t => P.readableRec t && decide (t < P.types.size)) = true →
    DataW.TrodAll enc P W 0 (fun _ => true) true ts vs ds ps → DataW.TrodAll enc P W' 0 (fun b => decide (b < W.heap.size)) true ts vs ds ps
  | [], [], [], ps, _, h => h
  | t :: ts, v :: vs, d :: ds, ps, hc, ⟨p, q, h1, h2, he⟩ => by
    simp only [List.all_cons, Bool.and_eq_true, decide_eq_true_eq] at hc
    obtain ⟨n, hn⟩ := h1
    exact ⟨p, q, hb.trod hl hc.1.1 hc.1.2 ⟨n, hn⟩ (DataW.trod_lt n _ _ _ hn), shut_vals hl hb hc.2 h2, he⟩

end Go.Wit
