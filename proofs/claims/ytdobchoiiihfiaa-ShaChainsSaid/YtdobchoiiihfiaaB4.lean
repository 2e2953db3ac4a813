/- Loops played round by round; no condition. -/
import Derived.Test.YtdobchoiiihfiaaB3
set_option linter.unusedVariables false
set_option linter.unusedSimpArgs false
namespace Go.Wit

theorem condB_no {b : Bool} {p q : Prop} (h : b = false) (hq : q) : condB b p q := by subst h; exact hq
theorem condB_yes {b : Bool} {p q : Prop} (h : b = true) (hp : p) : condB b p q := by subst h; exact hp

theorem Shows.look {m : Mem} {n cap : Nat} {g : Nat → Nat → AV} {f : Nat → Int} (hf : ∀ i, i < n → g i 0 = .int .u8 (f i)) : Shows m (.vsl 1 n cap g) n f :=
  ⟨cap, .vsl 1 n cap g _ (fun i j hi hj => by
    obtain rfl : j = 0 := by omega
    exact ⟨(hf i hi).symm, .int _ _⟩)⟩

theorem Shows.any {m : Mem} {l off n cap N : Nat} {g : Nat → Nat → AV} {f : Nat → Int} (h : m[l]? = some (some ⟨1, N, g⟩)) (hn : off + n ≤ N) (hf : ∀ i, i < n → g (off + i) 0 = .int .u8 (f i)) : Shows m (.sl l off n cap) n f :=
  ⟨cap, .sl l off n cap ⟨1, N, g⟩ _ (List.mem_range.2 (lt_of_get h)) h hn (fun i j hi hj => by
    have hj : j < 1 := hj
    obtain rfl : j = 0 := by omega
    exact ⟨by show bytesG f i 0 = g (off + i) 0; rw [hf i hi]; rfl, flat_bytesG⟩)⟩

/-- At most N rounds of a loop. -/
noncomputable def vcRounds (D : DrawKit) (P : Program) (n k : Nat) (c : ACode) (Q : XPost) (N : Nat) : Env → Mem → Prop :=
  Nat.rec (motive := fun _ => Env → Mem → Prop) (fun _ _ => False) (fun _ ih e m => vcCode D P n k c e m fun x e m => match x with
    | .normal => ih e m
    | .exit i => Q (.exit i) e m
    | .ret => Q .ret e m
    | _ => False) N

theorem loop_rounds {D : DrawKit} {P : Program} {n k : Nat} (hm : P.follows .mixedOrders = true) {c : ACode} {e : Env} {m : Mem} {Q : XPost} (N : Nat) (h : vcRounds D P n k c Q N e m) : ALoop D P n k c e m Q := by
  refine ⟨fun b hb C a w L hk hr => wp_loop_rounds N ?_⟩
  induction N generalizing e m a w L with
  | zero => exact h.elim
  | succ N ih =>
    rw [rounds_succ]
    refine Code.wp_mono ?_ (vcCode_sound hm b c hb h C a w L hk hr)
    rintro x a1 w1 ⟨e1, m1, L1, hq, hr1⟩
    cases x with
    | normal => exact ih hq a1 w1 L1 hr1
    | exit i => exact ⟨e1, m1, L1, hq, hr1⟩
    | ret => exact ⟨e1, m1, L1, hq, hr1⟩
    | _ => exact False.elim hq

end Go.Wit
