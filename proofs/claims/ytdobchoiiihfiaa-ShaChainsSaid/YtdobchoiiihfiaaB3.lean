/- Rows of bytes: what shows them, calls that give them back; no condition. -/
import Derived.Test.YtdobchoiiihfiaaB2
set_option linter.unusedVariables false
set_option linter.unusedSimpArgs false
namespace Go.Wit

def bytesG (f : Nat → Int) : Nat → Nat → AV := fun i _ => .int .u8 (f i)

theorem Wk.mkN {k : Nat} {e : Env} {m : Mem} {l' : List (Nat × AV)} {m' : Mem} {src : List (Option Nat)} (h1 : EnvW (fun l => src.getD l none) e l') (h2 : BWs false (fun l => src.getD l none) m 0 m') (h3 : src.length = m'.length) (h4 : ndB src = true)
    (h5 : ((List.range k).all fun i => src.getD i none == some i) = true) : Wk k e m l' m' src :=
  ⟨h1, h2, h3, ndB_spec h4, fun i hi => by simpa using List.all_eq_true.1 h5 i (List.mem_range.2 hi)⟩

/-- One of the caller's blocks is handed to a call that may do with it what it likes: it is given up. -/
theorem lift_kill {P : Program} {fn : FuncId} {l n cap N : Nat} {f : Nat → Int} {m : Mem} {K : AV → Mem → Prop} {v : AV} (h : ACall P fn [.sl 0 0 n cap] [some ⟨1, N, bytesG f⟩] (fun r m' => r = v)) (hv : Flat false v) (hl : m[l]? = some (some ⟨1, N, bytesG f⟩)) (hK : K v (m.set l none)) :
    ACall P fn [.sl l 0 n cap] m K := by
  have hget : ∀ i q, [some l].getD i none = some q → i = 0 ∧ q = l := by
    intro i q hi
    cases i with
    | zero => simp at hi; exact ⟨rfl, hi.symm⟩
    | succ i => simp at hi
  refine h.frame false [some l] [] (fun _ => rfl) (.cons _ _ _ _ (.rv _ _ (.sl _ _ _ _ _ rfl)) .nil) ⟨.old 0 l _ _ rfl hl ⟨rfl, Nat.le_refl _, fun i j hi hj => .eq _ _ rfl (.int _ _)⟩, trivial⟩ rfl (fun i j q h1 h2 => by rw [(hget i q h1).1, (hget j q h2).1]) (fun q hq => by cases hq) ?_
  rintro r m' rfl
  refine ⟨r, m.set l none, fun _ => none, ⟨by simp, fun _ _ h => (by cases h), fun _ _ _ h => (by cases h), fun _ _ _ h => (by cases h), fun q b hq => ?_⟩, .eq _ _ rfl hv, hK⟩
  obtain ⟨h1, h2⟩ := get_set_none hq
  exact .inl ⟨rfl, h2, fun i hi => h1 (hget i q hi).2⟩

theorem app_ok {b1 b2 b3 : Bool} {p q : Prop} [Decidable p] [Decidable q] (h1 : b1 = true) (h2 : b2 = true) (h3 : b3 = true) (h4 : p) (h5 : q) : ((b1 && b2) && (b3 && (decide p && decide q))) = true := by simp [h1, h2, h3, h4, h5]

/-- What stands in slot x shows the n bytes f. -/
def Shows (m : Mem) (x : AV) (n : Nat) (f : Nat → Int) : Prop := ∃ cap, Lend (fun _ => none) (List.range m.length) m x (.vsl 1 n cap (bytesG f))

/-- What a call gives back shows the n bytes f. -/
def RetB (n : Nat) (f : Nat → Int) (v : AV) (m : Mem) : Prop :=
  (v = .nils ∧ n = 0) ∨ ∃ l cap N g, v = .sl l 0 n cap ∧ m[l]? = some (some ⟨1, N, g⟩) ∧ n ≤ N ∧ ∀ i, i < n → g i 0 = .int .u8 (f i)

theorem flat_bytesG {nv : Bool} {f : Nat → Int} {i j : Nat} : Flat nv (bytesG f i j) := .int _ _

theorem Shows.vsl {m : Mem} {n cap : Nat} {f : Nat → Int} : Shows m (.vsl 1 n cap (bytesG f)) n f := ⟨cap, .rv _ _ (.eq _ _ rfl (.vsl _ _ _ _ rfl (fun _ _ _ _ => flat_bytesG)))⟩
theorem Shows.nils {m : Mem} {f : Nat → Int} : Shows m .nils 0 f := ⟨0, .nils _ _⟩
theorem Shows.sl {m : Mem} {l off n cap N : Nat} {f f' : Nat → Int} (h : m[l]? = some (some ⟨1, N, bytesG f'⟩)) (hn : off + n ≤ N) (hf : ∀ i, i < n → f i = f' (off + i)) : Shows m (.sl l off n cap) n f :=
  ⟨cap, .sl l off n cap ⟨1, N, bytesG f'⟩ _ (List.mem_range.2 (lt_of_get h)) h hn (fun i j hi _ => ⟨by simp only [bytesG]; rw [hf i hi], flat_bytesG⟩)⟩

theorem lend_flat {B : List Nat} {m : Mem} {v : AV} (h : Flat false v) : Lend (fun _ => none) B m v v := .rv _ _ (.eq _ _ rfl h)
theorem lend_int {B : List Nat} {m : Mem} {k : IntKind} {n : Int} : Lend (fun _ => none) B m (.int k n) (.int k n) := lend_flat (.int _ _)

/-- One result retold: a row of bytes lies in the caller's next block. -/
theorem lift_bytes {P : Program} {fn : FuncId} {args args0 : List AV} {m : Mem} {K : AV → Mem → Prop} {R : Nat → (Nat → Int) → Prop} (h : ACall P fn args0 [] (fun v m' => ∃ n f, R n f ∧ RetB n f v m')) (ha : Lends (fun _ => none) (List.range m.length) m args args0)
    (hK : ∀ n f cap, R n f → K (.sl m.length 0 n cap) (m ++ [some ⟨1, n, bytesG f⟩])) : ACall P fn args m K := by
  refine h.frame0 true (List.range m.length) (fun h => by cases h) ha (fun v m' hv => ?_)
  obtain ⟨n, f, hR, hr⟩ := hv
  rcases hr with ⟨rfl, rfl⟩ | ⟨l, cap, N, g, rfl, h1, h2, h3⟩
  · exact ⟨.sl m.length 0 0 0, [some ⟨1, 0, bytesG f⟩], [none], Nat.le_refl _, fun i j q hi => by cases i <;> simp at hi, .nils _ _, ⟨.ph _ _ _ (by simp [shiftT]), trivial⟩, hK 0 f 0 hR⟩
  · refine ⟨.sl m.length 0 n cap, [some ⟨1, n, bytesG f⟩], [some l], Nat.le_refl _, fun i j q hi hj => ?_, .sl _ _ _ _ _ (by simp [shiftT]), ⟨.old _ l _ _ (by simp [shiftT]) h1 ⟨rfl, h2, fun i j hi hj => ?_⟩, trivial⟩, hK n f cap hR⟩
    · cases i <;> cases j <;> simp at hi hj; rfl
    · have hj : j < 1 := hj
      obtain rfl : j = 0 := by omega
      exact .eq _ _ (by rw [show (Blk.mk 1 N g).get i 0 = g i 0 from rfl, h3 i hi]; rfl) (by rw [show (Blk.mk 1 N g).get i 0 = g i 0 from rfl, h3 i hi]; exact .int _ _)

/-- Results retold: a row of bytes and numbers behind it. -/
theorem lift_tup {P : Program} {fn : FuncId} {args args0 : List AV} {m : Mem} {K : AV → Mem → Prop} {R : Nat → (Nat → Int) → List AV → Prop} (h : ACall P fn args0 [] (fun v m' => ∃ n f x vs, v = .tup (x :: vs) ∧ R n f vs ∧ RetB n f x m' ∧ Flats true vs)) (ha : Lends (fun _ => none) (List.range m.length) m args args0)
    (hK : ∀ n f cap vs, R n f vs → K (.tup (.sl m.length 0 n cap :: vs)) (m ++ [some ⟨1, n, bytesG f⟩])) : ACall P fn args m K := by
  refine h.frame0 true (List.range m.length) (fun h => by cases h) ha (fun v m' hv => ?_)
  obtain ⟨n, f, x, vs, rfl, hR, hr, hfl⟩ := hv
  have hvs : ∀ σ, RVs true σ vs vs := fun σ => by
    clear hR hr
    induction vs with
    | nil => exact .nil
    | cons a r ih => cases hfl with | cons _ _ h1 h2 => exact .cons _ _ _ _ (.eq _ _ rfl h1) (ih h2)
  rcases hr with ⟨rfl, rfl⟩ | ⟨l, cap, N, g, rfl, h1, h2, h3⟩
  · exact ⟨.tup (.sl m.length 0 0 0 :: vs), [some ⟨1, 0, bytesG f⟩], [none], Nat.le_refl _, fun i j q hi => by cases i <;> simp at hi, .tup _ _ (.cons _ _ _ _ (.nils _ _) (hvs _)), ⟨.ph _ _ _ (by simp [shiftT]), trivial⟩, hK 0 f 0 vs hR⟩
  · refine ⟨.tup (.sl m.length 0 n cap :: vs), [some ⟨1, n, bytesG f⟩], [some l], Nat.le_refl _, fun i j q hi hj => ?_, .tup _ _ (.cons _ _ _ _ (.sl _ _ _ _ _ (by simp [shiftT])) (hvs _)), ⟨.old _ l _ _ (by simp [shiftT]) h1 ⟨rfl, h2, fun i j hi hj => ?_⟩, trivial⟩, hK n f cap vs hR⟩
    · cases i <;> cases j <;> simp at hi hj; rfl
    · have hj : j < 1 := hj
      obtain rfl : j = 0 := by omega
      exact .eq _ _ (by rw [show (Blk.mk 1 N g).get i 0 = g i 0 from rfl, h3 i hi]; rfl) (by rw [show (Blk.mk 1 N g).get i 0 = g i 0 from rfl, h3 i hi]; exact .int _ _)

/-- Results that are plain: nothing is added to memory. -/
theorem lift_flat {P : Program} {fn : FuncId} {args args0 : List AV} {m : Mem} {K : AV → Mem → Prop} {R : AV → Prop} (h : ACall P fn args0 [] (fun v m' => R v ∧ Flat true v)) (ha : Lends (fun _ => none) (List.range m.length) m args args0)
    (hK : ∀ v, R v → K v m) : ACall P fn args m K := by
  refine h.frame0 true (List.range m.length) (fun h => by cases h) ha (fun v m' hv => ⟨v, [], [], Nat.le_refl _, fun i j q hi => by simp at hi, .eq _ _ rfl hv.2, trivial, by simpa using hK v hv.1⟩)

end Go.Wit
