/- From what a law is told of abstract values to what its row asks, whatever it is handed; no condition. -/
import Derived.Test.YtdobchoiiihfiaaB5
set_option linter.unusedVariables false
set_option linter.unusedSimpArgs false
namespace Go.Wit
open Go.RowKit

/-- The same values told otherwise. -/
def Retold (a b : List AV) : Prop := ∀ (h : Array Obj) (L : Lay) (O : Nat → Prop) (vs : List Value), VRs h L O a vs → VRs h L O b vs
def Retold1 (a b : AV) : Prop := ∀ (h : Array Obj) (L : Lay) (O : Nat → Prop) (v : Value), VR h L O a v → VR h L O b v

theorem Retold.nil : Retold [] [] := fun _ _ _ _ h => h
theorem Retold.cons {a b : AV} {as bs : List AV} (h1 : Retold1 a b) (h2 : Retold as bs) : Retold (a :: as) (b :: bs) := by
  intro h L O vs hv
  cases hv with
  | cons _ _ _ _ g1 g2 => exact .cons _ _ _ _ (h1 _ _ _ _ g1) (h2 _ _ _ _ g2)
theorem Retold1.refl (a : AV) : Retold1 a a := fun _ _ _ _ h => h
theorem Retold.append {a b c d : List AV} (h1 : Retold a b) (h2 : Retold c d) : Retold (a ++ c) (b ++ d) := by
  intro h L O vs hv
  have : ∀ {x y : List AV} {vs : List Value}, VRs h L O (x ++ y) vs → ∃ u w, vs = u ++ w ∧ VRs h L O x u ∧ VRs h L O y w := by
    intro x
    induction x with
    | nil => intro y vs hv; exact ⟨[], vs, rfl, .nil, hv⟩
    | cons a l ih =>
      intro y vs hv
      cases hv with
      | cons _ c _ cs g1 g2 =>
        obtain ⟨u, w, rfl, g3, g4⟩ := ih g2
        exact ⟨c :: u, w, rfl, .cons _ _ _ _ g1 g3, g4⟩
  obtain ⟨u, w, rfl, g1, g2⟩ := this hv
  exact (h1 _ _ _ _ g1).append (h2 _ _ _ _ g2)
theorem Retold1.agg {a b : List AV} (h : Retold a b) : Retold1 (.agg a) (.agg b) := by
  intro H L O v hv
  cases hv with
  | agg _ c hs => exact .agg _ _ (h _ _ _ _ hs)
theorem Retold1.vsl {es n cap : Nat} {g g' : Nat → Nat → AV} (h : ∀ i j, i < n → j < es → Retold1 (g i j) (g' i j)) : Retold1 (.vsl es n cap g) (.vsl es n cap g') := by
  intro H L O v hv
  cases hv with
  | vsl0 _ _ a => exact .vsl0 _ _ a
  | vsl _ _ _ _ b o vals h0 h1 h2 => exact .vsl _ _ _ _ b o vals h0 h1 (fun i j hi hj => h i j hi hj _ _ _ _ (h2 i j hi hj))
theorem Retold1.of_eq {a b : AV} (h : a = b) : Retold1 a b := h ▸ Retold1.refl a

/-- Whole numbers in a row. -/
theorem ok_ints {k : IntKind} {av : AV} (h : okV (.sl 1 (.int k)) av) : ∃ (n cap : Nat) (f : Nat → Int), Retold1 av (.vsl 1 n cap fun i _ => .int k (f i)) ∧ n ≤ cap ∧ cap ≤ Go.maxLen ∧ ∀ i, i < n → k.min ≤ f i ∧ f i ≤ k.max := by
  simp only [okV, okC] at h
  obtain ⟨n, cap, get, he, h1, h2, h3⟩ := h
  obtain rfl := List.head_eq_of_cons_eq he
  classical
  refine ⟨n, cap, fun i => if hi : i < n then (h3 i hi).choose else 0, Retold1.vsl (fun i j hi hj => ?_), h1, h2, fun i hi => ?_⟩
  · have := (h3 i hi).choose_spec.1
    obtain rfl : j = 0 := by omega
    simp only [List.range_one, List.map_cons, List.map_nil] at this
    simp only [dif_pos hi]
    exact Retold1.of_eq (List.head_eq_of_cons_eq this)
  · simp only [dif_pos hi]; exact (h3 i hi).choose_spec.2

/-- Bytes. -/
theorem ok_bytes {av : AV} (h : okV (.sl 1 (.int .u8)) av) : ∃ (n cap : Nat) (f : Nat → Int), Retold1 av (.vsl 1 n cap (bytesG f)) ∧ n ≤ cap ∧ cap ≤ Go.maxLen ∧ ∀ i, i < n → 0 ≤ f i ∧ f i ≤ 255 := ok_ints h

theorem ok_int {k : IntKind} {av : AV} (h : okV (.int k) av) : ∃ n, av = .int k n ∧ k.min ≤ n ∧ n ≤ k.max := by
  simp only [okV, okC] at h
  obtain ⟨n, he, h1⟩ := h
  exact ⟨n, List.head_eq_of_cons_eq he, h1⟩
theorem ok_bool {av : AV} (h : okV .bool av) : ∃ b, av = .bool b := by
  simp only [okV, okC] at h
  obtain ⟨n, he⟩ := h
  exact ⟨n, List.head_eq_of_cons_eq he⟩
theorem ok_str {av : AV} (h : okV .str av) : ∃ s, av = .str s ∧ s.size ≤ Go.maxLen := by
  simp only [okV, okC] at h
  obtain ⟨n, he, h1⟩ := h
  exact ⟨n, List.head_eq_of_cons_eq he, h1⟩

/-- Rows of bytes. -/
theorem ok_rows {av : AV} (h : okV (.sl 1 (.sl 1 (.int .u8))) av) : ∃ (n cap : Nat) (N C : Nat → Nat) (F : Nat → Nat → Int), Retold1 av (.vsl 1 n cap fun i _ => .vsl 1 (N i) (C i) (bytesG (F i))) ∧ n ≤ cap ∧ cap ≤ Go.maxLen ∧ ∀ i, i < n → N i ≤ Go.maxLen ∧ ∀ j, j < N i → 0 ≤ F i j ∧ F i j ≤ 255 := by
  simp only [okV] at h
  unfold okC at h
  obtain ⟨n, cap, get, he, h1, h2, h3⟩ := h
  obtain rfl := List.head_eq_of_cons_eq he
  classical
  have key : ∀ i, i < n → ∃ (N C : Nat) (F : Nat → Int), Retold1 (get i 0) (.vsl 1 N C (bytesG F)) ∧ N ≤ C ∧ C ≤ Go.maxLen ∧ ∀ j, j < N → 0 ≤ F j ∧ F j ≤ 255 := fun i hi => ok_bytes (by
    have := h3 i hi
    simpa [okV] using this)
  let N : Nat → Nat := fun i => if hi : i < n then (key i hi).choose else 0
  let C : Nat → Nat := fun i => if hi : i < n then (key i hi).choose_spec.choose else 0
  let F : Nat → Nat → Int := fun i => if hi : i < n then (key i hi).choose_spec.choose_spec.choose else fun _ => 0
  have sp : ∀ i, i < n → Retold1 (get i 0) (.vsl 1 (N i) (C i) (bytesG (F i))) ∧ N i ≤ C i ∧ C i ≤ Go.maxLen ∧ ∀ j, j < N i → 0 ≤ F i j ∧ F i j ≤ 255 := fun i hi => by
    simp only [N, C, F, dif_pos hi]
    exact (key i hi).choose_spec.choose_spec.choose_spec
  refine ⟨n, cap, N, C, F, Retold1.vsl (fun i j hi hj => ?_), h1, h2, fun i hi => ⟨Nat.le_trans (sp i hi).2.1 (sp i hi).2.2.1, (sp i hi).2.2.2⟩⟩
  obtain rfl : j = 0 := by omega
  exact (sp i hi).1

theorem trod_len {H : Type} {enc : TypeId × Value → H} {P : Program} {W : World} {b0 : Nat} {sp : Nat → Bool} {hd : Bool} : ∀ {ts : List TypeId} {vs : List Value} {ds : List (DataW H)} {ps : List MemPlace}, DataW.TrodAll enc P W b0 sp hd ts vs ds ps → ds.length = ts.length
  | [], [], [], _, _ => rfl
  | t :: ts, v :: vs, d :: ds, ps, ⟨p, q, h1, h2, _⟩ => by rw [List.length_cons, List.length_cons, trod_len h2]
theorem cons_of_len {α : Type} {l : List α} {n : Nat} (h : l.length = n + 1) : ∃ d r, l = d :: r ∧ r.length = n := by
  cases l with
  | nil => simp at h
  | cons d r => exact ⟨d, r, rfl, by simpa using h⟩
theorem nil_of_len {α : Type} {l : List α} (h : l.length = 0) : l = [] := by simpa using h

/-- A law, from its call told of abstract values. -/
theorem law_open {H : Type} {enc : TypeId × Value → H} {P : Program} {f : FuncId} {W : World} {r : Reach} {b0 : Nat} {tys : List Ty} {ts : List TypeId} {args : Array Value} {ds : List (DataW H)} {ps : List MemPlace} (hc : chkTys P tys ts = true)
    (hv : ∀ (j : Nat) t v, ts[j]? = some t → args.toList[j]? = some v → Value.okWide P W r b0 t v) (hA : DataW.TrodAll enc P W 0 (fun _ => true) true ts args.toList ds ps)
    (S : ∀ avs, okVs tys avs → ∃ avs', Retold avs avs' ∧ ACall P f avs' [] (fun x _ => x = .bool true)) :
    Calls P f args W fun e W' => e = .returned (.bool true) ∧ Below W.heap.size W W' := by
  obtain ⟨avs, h1, h2⟩ := open_vals (L := fun _ => none) (O := fun _ => False) (fun _ h => h) (fun _ => rfl) hc hv hA
  obtain ⟨avs', h3, h4⟩ := S avs h1
  exact law_true h4 (h3 _ _ _ _ h2)

end Go.Wit
