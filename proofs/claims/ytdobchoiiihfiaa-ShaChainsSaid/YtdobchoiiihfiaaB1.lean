/- Regions that leave their order open and only look: the order makes no difference; no condition. -/
import Derived.Test.YtdobchoiiihfiaaA15
import Derived.OrdersHeld
set_option linter.unusedVariables false
set_option linter.unusedSimpArgs false
namespace Go.Wit

def vcP (ao : AOp) (e : Env) (m : Mem) (K : AV → Prop) : Prop :=
  match evD ao e m with
  | some ⟨ok, v, none⟩ => condB ok (K v) False
  | _ => False

def vcPOp (o : AOpr) (e : Env) (m : Mem) (K : Env → Prop) : Prop :=
  match o.guard with
  | none => vcP o.op e m fun v => putK e o.dst v K
  | some (t, want) => match e.get t with
    | .bool b => condB (b == want) (Env.setK 12 e t (.bool want) fun e => vcP o.op e m fun v => putK e o.dst v K) (Env.setK 12 e t (.bool (!want)) fun e => putK e o.dst .un K)
    | _ => False

noncomputable def vcPOps (l : List AOpr) : Env → Mem → (Env → Prop) → Prop :=
  List.rec (motive := fun _ => Env → Mem → (Env → Prop) → Prop) (fun e _ K => K e) (fun o _ ih e m K => vcPOp o e m fun e => ih e m K) l

def chkDraw (P : Program) (n : Nat) (ops : Array Oper) : List AOpr → Nat → Array Bool → Bool
  | [], _, listed => (Region.ready .any ops listed).isEmpty
  | ao :: r, i, listed => (match ops[i]? with | some o => chkOpr P n ops o ao | none => false) &&
      (Region.free .any ops listed i && ((Region.ready .any ops listed).contains i && chkDraw P n ops r (i + 1) (listed.setIfInBounds i true)))

section
variable {P : Program} {C : Ctx} {m : Mem} {w : World} {L : Lay} {e : Env} {a : Act} {o : Oper} {n : Nat}

theorem vcPOp_sound (hrel : Rel C n e m a w L) {ops : Array Oper} {ao : AOpr} (hc : chkOpr P n ops o ao = true) {K : Env → Prop} (hvc : vcPOp ao e m K) :
    ∃ v e', YieldsIf P ops (fun w' => w' = w) o v a ∧ K e' ∧ Rel C n e' m (a.put o.dst v) w L := by
  obtain ⟨hn, hdf, hR, hE⟩ := hrel
  simp only [chkOpr, Bool.and_eq_true] at hc
  obtain ⟨hd, hg, hop⟩ := hc
  have hdst : o.dst = ao.dst ∧ ∀ d', ao.dst = some d' → d' < n := by
    unfold dstOk at hd
    split at hd
    · rename_i h1 h2; rw [h1, h2]; exact ⟨rfl, fun _ h => by cases h⟩
    · rename_i d d' h1 h2
      simp only [Bool.and_eq_true, beq_iff_eq, Nat.blt_eq] at hd
      obtain ⟨rfl, hlt⟩ := hd
      rw [h1, h2]
      exact ⟨rfl, fun _ h => by cases h; exact hlt⟩
    · cases hd
  obtain ⟨hde, hdlt⟩ := hdst
  have hrun : ∀ {e : Env}, ERel C e m a w L → vcP ao.op e m (fun v => putK e ao.dst v K) → ∃ v e', (execOp a.eval o).run P w = .ok (.value v) w ∧ K e' ∧ Rel C n e' m (a.put o.dst v) w L := by
    intro e hE h
    unfold vcP at h
    split at h
    · rename_i ok v hev
      obtain ⟨hok, hk⟩ := condB_true h
      rw [putK_eq] at hk
      obtain ⟨r, w', L', _, h1, h2, h3, h4⟩ := opD_sound hR hE hop hev hok
      obtain ⟨rfl, rfl, hr⟩ := h4 rfl
      refine ⟨r, _, hr, hk, by rw [put_size]; exact hn, by rw [put_defers]; exact hdf, hR, ?_⟩
      rw [hde]; exact hE.put hn hdlt h3
    · exact h.elim
  unfold vcPOp at hvc
  unfold guardOk at hg
  split at hg
  · rename_i h1 h2
    rw [h2] at hvc
    simp only at hvc
    obtain ⟨v, e', g1, g2, g3⟩ := hrun hE hvc
    exact ⟨v, e', .inl ⟨by simp [Region.wanted, h1], fun w' hw' => by subst hw'; exact g1⟩, g2, g3⟩
  · rename_i j b t b' h1 h2
    rw [h2] at hvc
    simp only at hvc
    simp only [Bool.and_eq_true, beq_iff_eq] at hg
    obtain ⟨rfl, hg⟩ := hg
    split at hg
    · rename_i oj hoj
      split at hg
      · rename_i d hd
        have : d = t := by simpa using hg
        subst this
        split at hvc
        · rename_i bb hbb
          have hy : yielded ops a.tmps j = some bb := by
            simp [yielded, hoj, hd, tmps_get hE hbb]
          have hw : Region.wanted o (yielded ops a.tmps) = (bb == b) := by
            simp only [Region.wanted, h1, hy]
            cases bb <;> cases b <;> rfl
          have hval : a.tmps.getD d undef = .bool bb := by rw [Array.getD_eq_getD_getElem?, tmps_get hE hbb]; rfl
          rcases condB_split hvc with ⟨hb, hv⟩ | ⟨hb, hv⟩
          · rw [Env.setK_eq] at hv
            obtain ⟨v, e', g1, g2, g3⟩ := hrun (hE.refine (by rw [hval, beq_iff_eq.1 hb]; exact .bool _)) hv
            exact ⟨v, e', .inl ⟨by rw [hw]; exact hb, fun w' hw' => by subst hw'; exact g1⟩, g2, g3⟩
          · rw [Env.setK_eq, putK_eq] at hv
            have hE' : ERel C (e.set d (.bool (!b))) m a w L := hE.refine (by
              rw [hval]
              have : bb = !b := by cases bb <;> cases b <;> simp at hb ⊢
              rw [this]; exact .bool _)
            refine ⟨undef, _, .inr ⟨by rw [hw, hb], rfl⟩, hv, by rw [put_size]; exact hn, by rw [put_defers]; exact hdf, hR, ?_⟩
            rw [hde]; exact hE'.put hn hdlt (.un _)
        · exact hvc.elim
      · cases hg
    · cases hg
  · cases hg

theorem vcPOps_sound {ops : Array Oper} (hs : Region.noSelect ops = true) {Q : Act → World → Prop} : ∀ (al : List AOpr) (i : Nat) (listed : Array Bool) {e : Env} {a : Act} {K : Env → Prop}, chkDraw P n ops al i listed = true → Rel C n e m a w L → vcPOps al e m K →
    (∀ e' a', K e' → Rel C n e' m a' w L → Q a' w) → wpAnyH P .any ops (fun x a w => x = .normal ∧ Q a w) (fun w' => w' = w) al.length listed a w
  | [], i, listed, e, a, K, hc, hrel, hvc, hK => by
    simp only [chkDraw, List.isEmpty_iff] at hc
    exact wpAnyH_done hc ⟨rfl, hK _ _ hvc hrel⟩ _
  | ao :: al, i, listed, e, a, K, hc, hrel, hvc, hK => by
    simp only [chkDraw, Bool.and_eq_true] at hc
    obtain ⟨h1, h2, h3, h4⟩ := hc
    split at h1
    case h_2 => cases h1
    rename_i o ho
    obtain ⟨v, e', g1, g2, g3⟩ := vcPOp_sound hrel h1 hvc
    refine wpAnyH_take ho hs h2 h3 (fun c a w h => by cases h.1) g1 rfl ?_
    exact vcPOps_sound hs al (i + 1) _ h4 g3 g2 hK

end

noncomputable def DK0 : DrawKit where
  chk P n ops l _ := Region.noSelect ops && (l.length == ops.size && chkDraw P n ops l 0 (Array.replicate ops.size false))
  vc _ l _ e m K := vcPOps l e m fun e => K e m
  sound := by
    intro P n ops l ord id hm hc C e m a w L K hrel hvc Q hQ
    simp only [Bool.and_eq_true, beq_iff_eq] at hc
    obtain ⟨h1, h2, h3⟩ := hc
    have hrel' : Rel C n e m a { w with drawn := w.drawn + 1 } L := ⟨hrel.size, hrel.defers, hrel.mem.drawn _, hrel.env⟩
    refine Code.wp_mono (Q := fun x a' w' => x = .normal ∧ Q .normal a' w') (by rintro x a' w' ⟨rfl, h⟩; exact h) ?_
    refine wp_region_held hm (S := fun w' => w' = { w with drawn := w.drawn + 1 }) ?_
    rw [← h2]
    rw [← h2] at h3
    exact vcPOps_sound h1 l 0 _ h3 hrel' hvc (fun e' a' hk hr => hQ _ _ _ _ _ hk hr)
def ndB : List (Option Nat) → Bool
  | [] => true
  | none :: r => ndB r
  | some l :: r => !(r.contains (some l)) && ndB r
theorem ndB_spec : ∀ {src : List (Option Nat)}, ndB src = true → ∀ i j l, src.getD i none = some l → src.getD j none = some l → i = j
  | [], _, i, j, l, h1, _ => by simp at h1
  | none :: r, h, i, j, l, h1, h2 => by
    cases i with
    | zero => simp at h1
    | succ i => cases j with
      | zero => simp at h2
      | succ j => rw [ndB_spec (src := r) h i j l (by simpa using h1) (by simpa using h2)]
  | some q :: r, h, i, j, l, h1, h2 => by
    simp only [ndB, Bool.and_eq_true, Bool.not_eq_true'] at h
    have hmem : ∀ {k}, r.getD k none = some q → False := fun {k} hk => by
      have : some q ∈ r := by
        rw [List.getD_eq_getElem?_getD] at hk
        cases hr : r[k]? with
        | none => rw [hr] at hk; simp at hk
        | some x => rw [hr] at hk; simp at hk; subst hk; exact List.mem_of_getElem? hr
      have h3 := h.1
      simp at h3
      exact h3 this
    cases i with
    | zero => cases j with
      | zero => rfl
      | succ j =>
        have : q = l := by simpa using h1
        subst this
        exact (hmem (by simpa using h2)).elim
    | succ i => cases j with
      | zero =>
        have : q = l := by simpa using h2
        subst this
        exact (hmem (by simpa using h1)).elim
      | succ j => rw [ndB_spec (src := r) h.2 i j l (by simpa using h1) (by simpa using h2)]

theorem Wk.mk0 {e : Env} {m : Mem} {l' : List (Nat × AV)} {m' : Mem} {src : List (Option Nat)} (h1 : EnvW (fun l => src.getD l none) e l') (h2 : BWs false (fun l => src.getD l none) m 0 m') (h3 : src.length = m'.length) (h4 : ndB src = true) : Wk 0 e m l' m' src :=
  ⟨h1, h2, h3, ndB_spec h4, fun i hi => absurd hi (Nat.not_lt_zero _)⟩

theorem condB_mk {b : Bool} {p q : Prop} (hp : b = true → p) (hq : b = false → q) : condB b p q := by cases b; exact hq rfl; exact hp rfl
theorem condB_ok {b : Bool} {p : Prop} (h : b = true) (hp : p) : condB b p False := by subst h; exact hp

theorem updG_one {n : Nat} {g : Nat → Nat → AV} {p i : Nat} {v : AV} : updG ⟨1, n, g⟩ p 0 1 [v] i 0 = if i = p then v else g i 0 := by
  unfold updG
  simp only [show Nat.ble (0 + 1) 1 = true from rfl, show Nat.ble 0 0 = true from rfl, show Nat.blt 0 (0 + 1) = true from rfl, cond_true, pickA_eq, Bool.and_true]
  by_cases h : i = p
  · subst h; simp
  · simp [h, show (i == p) = false by simpa using h]

end Go.Wit
