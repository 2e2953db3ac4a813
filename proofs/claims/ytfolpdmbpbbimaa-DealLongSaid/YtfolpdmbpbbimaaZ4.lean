/- Texts of a proof, one behind the other; the last of these: Regions told by a plan: the whole; the kit of draws; no condition. -/
import Derived.Test.YtfolpdmbpbbimaaZ3
section
/- Regions told by a plan: the whole; the kit of draws; no condition. -/
set_option linter.unusedVariables false
set_option linter.unusedSimpArgs false
namespace Go.Wit

theorem length_le_of_sub : ∀ {l1 l2 : List Nat}, l1.Nodup → (∀ x, x ∈ l1 → x ∈ l2) → l1.length ≤ l2.length
  | [], l2, _, _ => Nat.zero_le _
  | x :: r, l2, hn, hs => by
    obtain ⟨s, t, rfl⟩ := List.append_of_mem (hs x (.head _))
    have hn' := List.nodup_cons.1 hn
    have := length_le_of_sub (l1 := r) (l2 := s ++ t) hn'.2 (fun y hy => by
      have hy' := hs y (.tail _ hy)
      rcases List.mem_append.1 hy' with h | h
      · exact List.mem_append.2 (.inl h)
      · rcases List.mem_cons.1 h with h | h
        · exact absurd (h ▸ hy) hn'.1
        · exact List.mem_append.2 (.inr h))
    simp only [List.length_cons, List.length_append] at this ⊢
    omega

section
variable {P : Program} {C0 : Ctx} {n : Nat} {m0 : Mem} {w0 : World} {L0 : Lay} {ops : Array Oper} {l : List AOpr} {keep : Keep}

theorem HRel.perm {C : Ctx} {hs hs' : List HB} {e : Env} {m : Mem} {a : Act} {w : World} {L : Lay} (p : hs.Perm hs') (H : HRel C n hs e m a w L) : HRel C n hs' e m a w L := by
  have hX : XH C hs = XH C hs' := by
    funext b; apply propext
    simp only [XH, p.mem_iff]
  have hcx : CX C hs m w L = CX C hs' m w L := by unfold CX; rw [hX]
  refine ⟨H.size, H.defers, H.memC, by rw [← hcx]; exact H.memX, by rw [← hcx]; exact H.env, fun h hh => H.hid h (p.mem_iff.2 hh), ?_⟩
  exact (p.pairwise_iff (fun {x y} h h1 h2 h3 => h h2 h1 h3.symm)).1 H.pair

theorem fillK_sound {C : Ctx} {ps : List (Nat × AV)} {a : Act} {w : World} : ∀ {fs : FS} {hs : List HB} {e : Env} {m : Mem} {L : Lay} {K : Env → Mem → Prop}, HRel C n hs e m a w L → (∀ h, h ∈ hs → ∃ q, q ∈ fs ∧ q.1 = h.i ∧ fillOne l ps q = some (h.d, h.val, h.blk)) →
    (∀ q, q ∈ fs → ∃ h, h ∈ hs ∧ h.i = q.1) → (hs.map (·.i)).Nodup → (fs.map (·.1)).Nodup → fillK l ps fs e m K → ∃ e' m' L', K e' m' ∧ HRel C n [] e' m' a w L' ∧ ∃ t, m' = m ++ t
  | [], hs, e, m, L, K, H, h1, h2, h3, h4, hK => by
    cases hs with
    | nil => exact ⟨e, m, L, hK, H, [], by simp⟩
    | cons h r => obtain ⟨q, hq, _⟩ := h1 h (.head _); simp at hq
  | q :: r, hs, e, m, L, K, H, h1, h2, h3, h4, hK => by
    obtain ⟨h, hh, hi⟩ := h2 q (.head _)
    have h4' := List.nodup_cons.1 h4
    have hf : fillOne l ps q = some (h.d, h.val, h.blk) := by
      obtain ⟨q', k1, k2, k3⟩ := h1 h hh
      rcases List.mem_cons.1 k1 with rfl | k1
      · exact k3
      · exact absurd (List.mem_map.2 ⟨q', k1, by rw [k2, hi]⟩) h4'.1
    obtain ⟨s, t, rfl⟩ := List.append_of_mem hh
    have hp : (s ++ h :: t).Perm (h :: (s ++ t)) := List.perm_middle
    have hnd : ((h :: (s ++ t)).map (·.i)).Nodup := ((hp.map _).nodup_iff).1 h3
    rw [List.map_cons] at hnd
    have hnd' := List.nodup_cons.1 hnd
    obtain ⟨L2, H2⟩ := (H.perm hp).tell
    change (match fillOne l ps q with | some (d, val, blk) => memK (m ++ [some blk]) fun m' => putK e (some d) (val m.length) fun e' => fillK l ps r e' m' K | none => False) at hK
    rw [hf] at hK
    simp only [memK_eq, putK_eq] at hK
    obtain ⟨e', m', L', r1, r2, u, r3⟩ := fillK_sound (fs := r) H2 (fun h' hh' => by
      obtain ⟨q', k1, k2, k3⟩ := h1 h' (hp.mem_iff.2 (.tail _ hh'))
      rcases List.mem_cons.1 k1 with rfl | k1
      · exact absurd (List.mem_map.2 ⟨h', hh', by rw [← k2, hi]⟩) hnd'.1
      · exact ⟨q', k1, k2, k3⟩) (fun q' hq' => by
      obtain ⟨h', k1, k2⟩ := h2 q' (.tail _ hq')
      rcases List.mem_cons.1 (hp.mem_iff.1 k1) with rfl | k1
      · exact absurd (List.mem_map.2 ⟨q', hq', by rw [← k2, hi]⟩) h4'.1
      · exact ⟨h', k1, k2⟩) hnd'.2 h4'.2 hK
    exact ⟨e', m', L', r1, r2, [some h.blk] ++ u, by rw [r3, List.append_assoc]⟩

/-- What is listed has all listed that it comes behind. -/
def Closed (ops : Array Oper) (listed : Array Bool) : Prop := ∀ j k, listed.getD j false = true → bndB ops j k = true → listed.getD k false = true
theorem Closed.anc {ops : Array Oper} {listed : Array Bool} (h : Closed ops listed) {j i : Nat} (ha : Anc ops j i) : (∀ k, bndB ops j k = true → listed.getD k false = true) → listed.getD i false = true := by
  induction ha with
  | base j i hb => exact fun hj => hj i hb
  | step j k i hb _ ih => exact fun hj => ih (fun q hq => h k q (hj k hb) hq)
theorem Closed.set {ops : Array Oper} {listed : Array Bool} (h : Closed ops listed) {i : Nat} (hi : i ∈ Region.ready .any ops listed) : Closed ops (listed.setIfInBounds i true) := by
  have up : ∀ k, listed.getD k false = true → (listed.setIfInBounds i true).getD k false = true := by
    intro k hk
    by_cases hki : k = i
    · subst hki
      have : k < listed.size := by
        rcases Nat.lt_or_ge k listed.size with h1 | h1
        · exact h1
        · rw [Array.getD_eq_getD_getElem?, Array.getElem?_eq_none h1] at hk; simp at hk
      rw [Array.getD_eq_getD_getElem?, Array.getElem?_setIfInBounds_self_of_lt this]; rfl
    · rw [getD_set_ne false (Ne.symm hki)]; exact hk
  intro j k hj hb
  by_cases hji : j = i
  · subst hji
    obtain ⟨_, oj, h2, h3⟩ := mem_ready.1 hi
    unfold bndB at hb
    rw [h2] at hb
    simp only at hb
    obtain ⟨ed, he1, he2⟩ := Array.any_eq_true'.1 hb
    simp only [Bool.and_eq_true, beq_iff_eq] at he2
    rw [← he2.2]
    exact up _ (h3 ed he1 he2.1)
  · rw [getD_set_ne false (Ne.symm hji)] at hj
    exact up k (h j k hj hb)

structure Lst (ops : Array Oper) (LC Ex : List Nat) (listed : Array Bool) : Prop where
  closed : Closed ops listed
  size : listed.size = ops.size
  iff : ∀ j, j < ops.size → (listed.getD j false = true ↔ j ∈ LC ∨ j ∈ Ex)

theorem getD_lt {listed : Array Bool} {j : Nat} (h : listed.getD j false = true) : j < listed.size := by
  rcases Nat.lt_or_ge j listed.size with h1 | h1
  · exact h1
  · rw [Array.getD_eq_getD_getElem?, Array.getElem?_eq_none h1] at h; simp at h
theorem getD_tf {listed : Array Bool} {j : Nat} (h : j < listed.size) : listed.getD j true = listed.getD j false := by
  simp [Array.getD_eq_getD_getElem?, h]

theorem Lst.ready {LC Ex : List Nat} {listed : Array Bool} (hl : Lst ops LC Ex listed) {j : Nat} (h : j ∈ Region.ready .any ops listed) : j < ops.size ∧ j ∉ LC ∧ j ∉ Ex ∧ ∃ oj, ops[j]? = some oj ∧ ∀ e, e ∈ oj.after → Region.binds .any e = true → e.on ∈ LC ∨ e.on ∈ Ex := by
  obtain ⟨h1, oj, h2, h3⟩ := mem_ready.1 h
  have hlt := (Array.getElem?_eq_some_iff.1 h2).1
  rw [getD_tf (by rw [hl.size]; exact hlt)] at h1
  have hn : ¬ (j ∈ LC ∨ j ∈ Ex) := fun hj => by rw [(hl.iff j hlt).2 hj] at h1; cases h1
  refine ⟨hlt, fun h => hn (.inl h), fun h => hn (.inr h), oj, h2, fun e he hb => ?_⟩
  have := h3 e he hb
  exact (hl.iff _ (by rw [← hl.size]; exact getD_lt this)).1 this

theorem Lst.mk_ready {LC Ex : List Nat} {listed : Array Bool} (hl : Lst ops LC Ex listed) {j : Nat} (hlt : j < ops.size) (h1 : j ∉ LC) (h2 : j ∉ Ex) {S : List Nat} (hp : prIn ops j S = true) (hS : ∀ x, x ∈ S → x < ops.size ∧ (x ∈ LC ∨ x ∈ Ex)) : j ∈ Region.ready .any ops listed := by
  refine mem_ready.2 ⟨?_, ops[j], Array.getElem?_eq_getElem hlt, fun e he hb => ?_⟩
  · rw [getD_tf (by rw [hl.size]; exact hlt)]
    cases h : listed.getD j false with
    | false => rfl
    | true => exact ((hl.iff j hlt).1 h).elim (fun h => absurd h h1) (fun h => absurd h h2)
  · unfold prIn at hp
    rw [Array.getElem?_eq_getElem hlt] at hp
    simp only at hp
    have := Array.all_eq_true'.1 hp e he
    rw [hb] at this
    simp only [Bool.not_true, Bool.false_or] at this
    obtain ⟨k1, k2⟩ := hS e.on (by simpa using this)
    exact (hl.iff _ k1).2 k2

theorem Lst.setL {LC Ex : List Nat} {listed : Array Bool} (hl : Lst ops LC Ex listed) {i : Nat} (hi : i < ops.size) (hr : i ∈ Region.ready .any ops listed) : Lst ops (i :: LC) Ex (listed.setIfInBounds i true) := by
  refine ⟨hl.closed.set hr, by rw [Array.size_setIfInBounds]; exact hl.size, fun j hj => ?_⟩
  by_cases hji : j = i
  · subst hji
    rw [Array.getD_eq_getD_getElem?, Array.getElem?_setIfInBounds_self_of_lt (by rw [hl.size]; exact hi)]
    simp
  · rw [getD_set_ne false (Ne.symm hji), hl.iff j hj]
    simp [hji]
theorem Lst.setE {LC Ex : List Nat} {listed : Array Bool} (hl : Lst ops LC Ex listed) {i : Nat} (hi : i < ops.size) (hr : i ∈ Region.ready .any ops listed) : Lst ops LC (i :: Ex) (listed.setIfInBounds i true) := by
  refine ⟨hl.closed.set hr, by rw [Array.size_setIfInBounds]; exact hl.size, fun j hj => ?_⟩
  by_cases hji : j = i
  · subst hji
    rw [Array.getD_eq_getD_getElem?, Array.getElem?_setIfInBounds_self_of_lt (by rw [hl.size]; exact hi)]
    simp
  · rw [getD_set_ne false (Ne.symm hji), hl.iff j hj]
    simp [hji]

theorem prIn_of {j : Nat} {oj : Oper} (hoj : ops[j]? = some oj) {S : List Nat} (h : ∀ e, e ∈ oj.after → Region.binds .any e = true → e.on ∈ S) : prIn ops j S = true := by
  unfold prIn
  rw [hoj]
  simp only
  rw [Array.all_eq_true']
  intro e he
  cases hb : Region.binds .any e with
  | false => rfl
  | true => simpa using h e he hb

theorem first_ready {LC Ex : List Nat} {listed : Array Bool} (hl : Lst ops LC Ex listed) : ∀ {T S : List Nat}, chkT ops T S = true → (∀ x, x ∈ T → x < ops.size ∧ x ∉ LC) → (∀ x, x ∈ S → x < ops.size ∧ (x ∈ LC ∨ x ∈ Ex)) → (∃ t, t ∈ T ∧ t ∉ Ex) → ∃ j, j ∈ Region.ready .any ops listed
  | [], S, _, _, _, ⟨t, h, _⟩ => by simp at h
  | t :: ts, S, hc, hT, hS, hex => by
    simp only [chkT, Bool.and_eq_true] at hc
    by_cases ht : t ∈ Ex
    · refine first_ready hl hc.2 (fun x hx => hT x (.tail _ hx)) (fun x hx => ?_) ?_
      · rcases List.mem_cons.1 hx with rfl | hx
        · exact ⟨(hT x (.head _)).1, .inr ht⟩
        · exact hS x hx
      · obtain ⟨u, hu, hu2⟩ := hex
        rcases List.mem_cons.1 hu with rfl | hu
        · exact absurd ht hu2
        · exact ⟨u, hu, hu2⟩
    · exact ⟨t, hl.mk_ready (hT t (.head _)).1 (hT t (.head _)).2 ht hc.1 hS⟩

theorem HRel.rel {C : Ctx} {e : Env} {m : Mem} {a : Act} {w : World} {L : Lay} (H : HRel C n [] e m a w L) : Rel C n e m a w L :=
  ⟨H.size, H.defers, H.memC, fun t => (H.env t).less (fun b hb => hb.imp .inl id)⟩

theorem dstNot_spec {fs : FS} {pv : List Nat} {i : Nat} {ao : AOpr} (h : dstNot l fs pv i = true) (hao : l[i]? = some ao) : ∀ d, ao.dst = some d → d ∉ pv ∧ fdNe l fs d = true := by
  intro d hd
  unfold dstNot at h
  rw [hao] at h
  simp only [hd, Bool.and_eq_true, Bool.not_eq_true'] at h
  exact ⟨by have := h.1; simpa using this, h.2⟩

/-- Whatever order is picked from here on: looks leave the world as it was, and S holds behind each operation behind which a look into memory may still come. -/
def wpAnyN (P : Program) (ops : Array Oper) (Q : Exit → Act → World → Prop) (S : World → Prop) (isL nd : Nat → Bool) : Nat → Array Bool → Act → World → Prop
  | 0, listed, a, w => Region.ready .any ops listed = [] ∧ Q .normal a w
  | fuel + 1, listed, a, w =>
    (Region.ready .any ops listed = [] → Q .normal a w) ∧
    ∀ i ∈ Region.ready .any ops listed, wpOp P ops Q i (fun a' w' => ((isL i = true → w' = w) ∧ (isL i = false → nd i = true → S w')) ∧ wpAnyN P ops Q S isL nd fuel (listed.setIfInBounds i true) a' w') a w

theorem wpAny_of_N {Q : Exit → Act → World → Prop} {S : World → Prop} {isL nd : Nat → Bool} : ∀ (fuel : Nat) (listed : Array Bool) (a : Act) (w : World), wpAnyN P ops Q S isL nd fuel listed a w → wpAny P .any ops Q fuel listed a w
  | 0, _, _, _, h => h
  | fuel + 1, _, _, _, h => ⟨h.1, fun i hi => wpOp_mono (fun a' w' h' => wpAny_of_N fuel _ a' w' h'.2) (h.2 i hi)⟩

theorem wpAnyN_first {Q : Exit → Act → World → Prop} {S S' : World → Prop} {isL nd : Nat → Bool} {i : Nat} {oi : Oper} {v : Value} (hi : ops[i]? = some oi) (hiL : isL i = true) (hsel : ∀ (j : Nat) (o : Oper) cs b, ops[j]? = some o → o.op ≠ .select cs b)
    (hQ : ∀ c a w, Q (.panic c) (a.put oi.dst v) w → Q (.panic c) a w) (hSS : (∀ w, S' w) ∨ ((∀ w, S w → S' w) ∧ ∀ j, nd j = false → Anc ops j i)) :
    ∀ (fuel : Nat) (listed : Array Bool) (a : Act) (w : World), Closed ops listed →
      (∀ j oj, ops[j]? = some oj → j ≠ i → listed.getD j true = false → (∀ e ∈ oj.after, Region.binds .any e = true → e.on ≠ i) → oi.apart ops oj = true) →
      i ∈ Region.ready .any ops listed → YieldsIf P ops S' oi v a → S' w →
      wpAnyN P ops Q S isL nd fuel (listed.setIfInBounds i true) (a.put oi.dst v) w → wpAnyN P ops Q S isL nd (fuel + 1) listed a w := by
  intro fuel
  induction fuel with
  | zero =>
    intro listed a w _ _ hr hy hS H
    refine ⟨fun h => (by rw [h] at hr; cases hr), fun j hj => ?_⟩
    by_cases hji : j = i
    · subst hji; exact hy.wpOp hi hS ⟨⟨fun _ => rfl, fun h => by rw [hiL] at h; cases h⟩, H⟩
    · have := ready_mono hj hji
      rw [H.1] at this
      cases this
  | succ fuel ih =>
    intro listed a w hcl hfree hr hy hS H
    refine ⟨fun h => (by rw [h] at hr; cases hr), fun j hj => ?_⟩
    by_cases hji : j = i
    · subst hji; exact hy.wpOp hi hS ⟨⟨fun _ => rfl, fun h => by rw [hiL] at h; cases h⟩, H⟩
    · have h1 := H.2 j (ready_mono hj hji)
      obtain ⟨hjun, oj, hoj, hall⟩ := mem_ready.1 hj
      have hiun : ¬ listed.getD i false = true := fun h => by
        have h0 := (mem_ready.1 hr).1
        rcases Nat.lt_or_ge i listed.size with h' | h'
        · simp [Array.getD_eq_getD_getElem?, h'] at h0 h; rw [h0] at h; cases h
        · simp [Array.getD_eq_getD_getElem?, Array.getElem?_eq_none h'] at h
      have hdir : ∀ k, bndB ops j k = true → listed.getD k false = true := fun k hb => by
        unfold bndB at hb
        rw [hoj] at hb
        simp only at hb
        obtain ⟨ed, he1, he2⟩ := Array.any_eq_true'.1 hb
        simp only [Bool.and_eq_true, beq_iff_eq] at he2
        rw [← he2.2]
        exact hall ed he1 he2.1
      have hnot : ∀ e ∈ oj.after, Region.binds .any e = true → e.on ≠ i := fun e he hb heq => hiun (by rw [← heq]; exact hall e he hb)
      have hS2 : ∀ w', ((isL j = true → w' = w) ∧ (isL j = false → nd j = true → S w')) → S' w' := fun w' hw' => by
        rcases hSS with h | ⟨h, h'⟩
        · exact h w'
        · cases hL : isL j with
          | true => rw [hw'.1 hL]; exact hS
          | false =>
            refine h w' (hw'.2 hL ?_)
            cases hn : nd j with
            | true => rfl
            | false => exact absurd (hcl.anc (h' j hn) hdir) hiun
      have h2 := wpOp_putIf hoj (hfree j oj hoj hji hjun hnot) (fun cs b => hsel i oi cs b hi) (fun cs b => hsel j oj cs b hoj) hQ hy h1
      have hfree' : ∀ k ok, ops[k]? = some ok → k ≠ i → (listed.setIfInBounds j true).getD k true = false →
          (∀ e ∈ ok.after, Region.binds .any e = true → e.on ≠ i) → oi.apart ops ok = true := fun k ok hk hki hun hno => by
        refine hfree k ok hk hki ?_ hno
        by_cases hjk : j = k
        · subst hjk; exact hjun
        · rw [getD_set_ne true hjk] at hun; exact hun
      refine wpOp_mono (fun a' w' h3 => ⟨h3.2.1, ih (listed.setIfInBounds j true) a' w' (hcl.set hj) hfree' (ready_mono hr (Ne.symm hji)) h3.1 (hS2 w' h3.2.1) ?_⟩) h2
      rw [Array.setIfInBounds_comm _ _ hji]
      exact h3.2.2

theorem wpAnyN_done {Q : Exit → Act → World → Prop} {S : World → Prop} {isL nd : Nat → Bool} {listed : Array Bool} {a : Act} {w : World} (hr : Region.ready .any ops listed = []) (h : Q .normal a w) : ∀ fuel, wpAnyN P ops Q S isL nd fuel listed a w
  | 0 => ⟨hr, h⟩
  | _ + 1 => ⟨fun _ => h, by rw [hr]; simp⟩

theorem plan_sound {lkA lk : List Nat} (hR0 : MRel (C0.here m0 w0 L0) m0 w0 L0) (hns : Region.noSelect ops = true) {fs0 : FS} {Kf : Env → Mem → Prop} {Qf : Act → World → Prop} (hK : ∀ e m a w L, Kf e m → Rel (C0.here m0 w0 L0) n e m a w L → Qf a w) :
    ∀ (p : DPlan) (kc : Bool) (fs : FS) (LC pre pv : List Nat), (fs = fs0 ∨ fs = []) → chkFS P n ops l fs = true → chkPlan P n ops l lkA lk p kc fs LC pre pv = true → (∀ j, j ∈ LC → j < ops.size ∧ j ∉ fsI fs) → (∀ j, j ∈ fsI fs → j < ops.size ∧ lkA.contains j = false) →
      ∀ (fuel : Nat) (listed : Array Bool) (Ex : List Nat) (ps : List (Nat × AV)) (hs : List HB) (e g : Env) (m : Mem) (a : Act) (w : World) (L : Lay), St C0 m0 w0 L0 n l keep kc fs pre pv Ex ps hs e g m a w L → Ex.Nodup → p.need + (fsI fs).length ≤ fuel + Ex.length → Lst ops LC Ex listed →
        vcPlan P l keep (flM keep m0) m0 fs0 Kf p ps e g m → wpAnyN P ops (fun x a w => x = .normal ∧ Qf a w) (SP (C0.here m0 w0 L0) keep m0) lkA.contains (ndB1 ops lk) fuel listed a w := by
  have exSub : ∀ {kc : Bool} {fs : FS} {pre pv Ex ps hs e g m a w L}, St C0 m0 w0 L0 n l keep kc fs pre pv Ex ps hs e g m a w L → ∀ j, j ∈ Ex → j ∈ fsI fs := by
    intro kc fs pre pv Ex ps hs e g m a w L S j hj
    rcases S.ex j hj with ⟨q, h1, h2⟩ | h1
    · exact mem_fsI.2 (.inl ⟨q, h1, h2⟩)
    · obtain ⟨f, _, _, _, _, _, _, _, p1, _⟩ := S.pps j h1
      exact mem_fsI.2 (.inr ⟨_, p1, rfl⟩)
  have toS : ∀ {kc : Bool} {fs : FS} {pre pv Ex ps hs e g m a w L}, St C0 m0 w0 L0 n l keep kc fs pre pv Ex ps hs e g m a w L → kc = true → SP (C0.here m0 w0 L0) keep m0 w := fun S hk => ⟨_, keepS S.H.memC (S.keepc hk)⟩
  intro p
  induction p with
  | flat => intro kc fs LC pre pv _ _ hc; simp [chkPlan] at hc
  | done =>
    intro kc fs LC pre pv _ _ hc hLC hfl fuel listed Ex ps hs e g m a w L S hnd hfuel hl hvc
    simp only [chkPlan, Bool.and_eq_true, List.isEmpty_iff] at hc
    obtain ⟨rfl, hall⟩ := hc
    refine wpAnyN_done ?_ ⟨rfl, hK e m a w L hvc ?_⟩ _
    · cases hr : Region.ready .any ops listed with
      | nil => rfl
      | cons j r =>
        obtain ⟨h1, h2, _⟩ := hl.ready (j := j) (by rw [hr]; exact .head _)
        have := List.all_eq_true.1 hall j (List.mem_range.2 h1)
        exact absurd (by simpa using this) h2
    · have : hs = [] := by
        cases hs with
        | nil => rfl
        | cons h r => obtain ⟨_, q, hq, _⟩ := S.hmem h (.head _); simp at hq
      subst this
      exact S.H.rel
  | look i p ih =>
    intro kc fs LC pre pv hfs0 hfs hc hLC hfl fuel listed Ex ps hs e g m a w L S hnd hfuel hl hvc
    simp only [chkPlan, Bool.and_eq_true, Bool.not_eq_true'] at hc
    obtain ⟨clA, clk, c1, c2, c3, c4, c5, c6, c7⟩ := hc
    have c2' : i ∉ LC := by simpa using c2
    have c3' : i ∉ fsI fs := by simpa using c3
    obtain ⟨o, ao, ho, hao, hco⟩ := chkI_spec c1
    have hilt := (Array.getElem?_eq_some_iff.1 ho).1
    obtain ⟨hde, hdn, hop⟩ := dst_spec hco
    have hdN := dstNot_spec c6 hao
    change (match l[i]? with | some o => vcLook o e g m (flM keep m0) fun e g => vcPlan P l keep (flM keep m0) m0 fs0 Kf p ps e g m | none => False) at hvc
    rw [hao] at hvc
    simp only at hvc
    have hExLen := length_le_of_sub hnd (exSub S)
    simp only [DPlan.need] at hfuel
    obtain ⟨fuel, rfl⟩ : ∃ f, fuel = f + 1 := ⟨fuel - 1, by omega⟩
    obtain ⟨r, e', g', k1, k2, k3, k4, k5, k6, k7⟩ := look_sound hR0 S.H S.G hco (ops := ops) (fun h hh hd => by
      obtain ⟨_, q, q1, q2, blk0, q3, _⟩ := S.hmem h hh
      rw [← q2] at q3
      exact fdNe_spec (hdN _ hd).2 q1 q3 rfl) hvc
    have hiEx : i ∉ Ex := fun h => c3' (exSub S i h)
    have hready : i ∈ Region.ready .any ops listed := hl.mk_ready hilt c2' hiEx c4 (fun x hx => ⟨(hLC x hx).1, .inl hx⟩)
    have hfree : Region.free .any ops listed i = true := by
      unfold Region.free
      rw [ho]
      simp only
      rw [List.all_eq_true]
      intro j hj
      have := List.all_eq_true.1 c5 j hj
      have hjlt := List.mem_range.1 hj
      simp only [Bool.or_eq_true, beq_iff_eq] at this ⊢
      rcases this with h | h | h | h
      · exact .inl (.inl h)
      · refine .inl (.inr ?_)
        rw [getD_tf (by rw [hl.size]; exact hjlt)]
        exact (hl.iff j hjlt).2 (.inl (by simpa using h))
      · right
        unfold bndB at h
        rw [Array.getElem?_eq_getElem hjlt] at h ⊢
        simp only [Bool.or_eq_true] at h ⊢
        exact .inl h
      · right
        unfold apt at h
        rw [ho, Array.getElem?_eq_getElem hjlt] at h
        rw [Array.getElem?_eq_getElem hjlt]
        simp only [Bool.or_eq_true] at h ⊢
        exact .inr h
    have hregI : regI l i = regOp ao.op := by unfold regI; rw [hao]
    refine wpAnyN_first ho clA (Region.noSelect_spec hns) (fun c a w h => by cases h.1) (S' := fun w' => regOp ao.op = true ∨ SP (C0.here m0 w0 L0) keep m0 w') ?_ fuel listed a w hl.closed (Region.free_spec ho hfree) hready k1 ?_ ?_
    · simp only [Bool.or_eq_true, Bool.and_eq_true] at clk
      rcases clk with h | ⟨_, h⟩
      · exact .inl fun w => .inl (by rw [← hregI]; exact h)
      · refine .inr ⟨fun w h => .inr h, fun j hj => ?_⟩
        unfold ndB1 at hj
        simp only [Bool.not_eq_false'] at hj
        exact bndT_anc (List.all_eq_true.1 hj i (by simpa using h))
    · simp only [Bool.or_eq_true, Bool.and_eq_true] at clk
      rcases clk with h | ⟨h, _⟩
      · exact .inl (by rw [← hregI]; exact h)
      · exact .inr (toS S h)
    · refine ih kc fs (i :: LC) pre pv hfs0 hfs c7 (fun j hj => ?_) hfl fuel _ Ex ps hs e' g' m (a.put o.dst r) w L ⟨k3, k4, S.keepc, fun q hq d val blk hf => ?_, S.ex, S.hmem, S.hall, S.hnd, S.sf, fun s hs' => ?_⟩ hnd (by omega) (hl.setL hilt hready) k2
      · rcases List.mem_cons.1 hj with rfl | hj
        · exact ⟨hilt, c3'⟩
        · exact hLC j hj
      · obtain ⟨u1, u2⟩ := S.eun q hq d val blk hf
        have : ao.dst ≠ some d := fun h => fdNe_spec (hdN _ h).2 hq hf rfl
        exact ⟨k6 d u1 this, k7 d u2 this⟩
      · obtain ⟨f, d', val', blk', v, sz, sv, b, p1, p2, p3, p4, p5, p6, p7, p8, p9, p10⟩ := S.pps s hs'
        refine ⟨f, d', val', blk', v, sz, sv, b, p1, p2, p3, p4, p5, p6, p7, ?_, p9, p10⟩
        rw [hde]
        cases hq : ao.dst with
        | none => exact p8
        | some d => rw [put_get_ne (fun h => (hdN d hq).1 (by rw [← h]; exact p9))]; exact p8
  | run i kp p ih =>
    intro kc fs LC pre pv hfs0 hfs hc hLC hfl fuel listed Ex ps hs e g m a w L S hnd hfuel hl hvc
    simp only [chkPlan, Bool.and_eq_true, Bool.not_eq_true'] at hc
    obtain ⟨ckA, ckp, ck1, ck2, c1, c2, c3, c4, c5, c6, c7⟩ := hc
    have c2' : i ∉ LC := by simpa using c2
    have c3' : i ∉ fsI fs := by simpa using c3
    obtain ⟨o, ao, ho, hao, hco⟩ := chkI_spec c1
    have hilt := (Array.getElem?_eq_some_iff.1 ho).1
    obtain ⟨hde, hdn, hop⟩ := dst_spec hco
    have hdN := dstNot_spec c6 hao
    have hkp : ndB1 ops lk i = true → kp = true := fun h => by rw [h] at ckp; simpa using ckp
    change (match l[i]? with | some o => vcOp P o e m fun e' m' => keepK keep kp m0 m' (match o.dst with | none => vcPlan P l keep (flM keep m0) m0 fs0 Kf p ps e' g m' | some d => putK g (some d) (flt (e'.get d)) fun g' => vcPlan P l keep (flM keep m0) m0 fs0 Kf p ps e' g' m') | none => False) at hvc
    rw [hao] at hvc
    simp only at hvc
    simp only [DPlan.need] at hfuel
    induction fuel generalizing listed Ex hs a w with
    | zero => have := length_le_of_sub hnd (exSub S); omega
    | succ fuel ihf =>
      have hiEx : i ∉ Ex := fun h => c3' (exSub S i h)
      have hir := hl.mk_ready hilt c2' hiEx c4 (fun x hx => ⟨(hLC x hx).1, .inl hx⟩)
      refine ⟨fun h0 => by rw [h0] at hir; simp at hir, fun j hj => ?_⟩
      obtain ⟨j1, j2, j3, oj, j4, j5⟩ := hl.ready hj
      by_cases hji : j = i
      · subst hji
        unfold wpOp
        rw [ho]
        simp only
        have hop' := op_sound (P := P) (C := CX (C0.here m0 w0 L0) hs m w L) (ops := ops) (o := o) (Q := fun x a w => x = .normal ∧ Qf a w)
          (next := fun a' w' => ((lkA.contains j = true → w' = w) ∧ (lkA.contains j = false → ndB1 ops lk j = true → SP (C0.here m0 w0 L0) keep m0 w')) ∧ wpAnyN P ops (fun x a w => x = .normal ∧ Qf a w) (SP (C0.here m0 w0 L0) keep m0) lkA.contains (ndB1 ops lk) fuel (listed.setIfInBounds j true) a' w')
          ⟨S.H.size, S.H.defers, S.H.memX, S.H.env⟩ hco hvc (fun e' m' r w' L' hk hr hun => by
            have hkeep : ((kc && kp) = true → keepR keep m0 m') ∧ (match ao.dst with | none => vcPlan P l keep (flM keep m0) m0 fs0 Kf p ps e' g m' | some d => putK g (some d) (flt (e'.get d)) fun g' => vcPlan P l keep (flM keep m0) m0 fs0 Kf p ps e' g' m') :=
              ⟨fun h1 => (keepK_spec hk).1 (by simp only [Bool.and_eq_true] at h1; exact h1.2), (keepK_spec hk).2⟩
            obtain ⟨hk1, hk2⟩ := hkeep
            have H' : HRel (C0.here m0 w0 L0) n hs e' m' (a.put o.dst r) w' L' := S.H.step hr.mem hr.env hr.size hr.defers (fun h hh => by
              rw [hde]
              cases hq : ao.dst with
              | none => rfl
              | some d =>
                obtain ⟨_, q, q1, q2, blk0, q3, _⟩ := S.hmem h hh
                rw [← q2] at q3
                exact put_get_ne (fun h5 => fdNe_spec (hdN d hq).2 q1 q3 h5))
            obtain ⟨g', hg1, hg2, hg3⟩ : ∃ g', vcPlan P l keep (flM keep m0) m0 fs0 Kf p ps e' g' m' ∧ GR (C0.here m0 w0 L0) m0 w0 L0 g' (a.put o.dst r) ∧ (∀ d, g.get d = .un → ao.dst ≠ some d → g'.get d = .un) := by
              cases hq : ao.dst with
              | none =>
                rw [hq] at hk2
                refine ⟨g, hk2, ?_, fun d h _ => h⟩
                rw [hde, hq]; exact S.G
              | some d =>
                rw [hq] at hk2
                simp only [putK_eq] at hk2
                refine ⟨_, hk2, fun t => ?_, fun d' hd' hne => putE_un hd' hne⟩
                rcases Env.set_upd g d (flt (e'.get d)) t with h | ⟨h1, h2⟩ | ⟨h1, h2⟩
                · rw [show (putE g (some d) (flt (e'.get d))).get t = .un from h]; exact .un _
                · rw [show (putE g (some d) (flt (e'.get d))).get t = g.get t from h2, hde, hq, put_get_ne h1]; exact S.G t
                · rw [show (putE g (some d) (flt (e'.get d))).get t = _ from h2, h1]; exact flt_vr (hr.env d)
            have S' : St C0 m0 w0 L0 n l keep (kc && kp) fs pre pv Ex ps hs e' g' m' (a.put o.dst r) w' L' := ⟨H', hg2, hk1, fun q hq d val blk hf => by
              obtain ⟨u1, u2⟩ := S.eun q hq d val blk hf
              have : ao.dst ≠ some d := fun h => fdNe_spec (hdN _ h).2 hq hf rfl
              exact ⟨hun d u1 this, hg3 d u2 this⟩, S.ex, S.hmem, S.hall, S.hnd, S.sf, fun s hs' => by
              obtain ⟨f, d', val', blk', v, sz, sv, b, p1, p2, p3, p4, p5, p6, p7, p8, p9, p10⟩ := S.pps s hs'
              refine ⟨f, d', val', blk', v, sz, sv, b, p1, p2, p3, p4, p5, p6, p7, ?_, p9, p10⟩
              rw [hde]
              cases hq : ao.dst with
              | none => exact p8
              | some d => rw [put_get_ne (fun h => (hdN d hq).1 (by rw [← h]; exact p9))]; exact p8⟩
            exact ⟨⟨fun h => absurd (ckA.symm.trans h) Bool.false_ne_true, fun _ hnd' => toS S' (by
              have hkt : kp = true := hkp hnd'
              have : kc = true := by
                simp only [hkt, Bool.not_true, Bool.false_and, Bool.or_false] at ck1
                exact ck1
              rw [this, hkt]; rfl)⟩, ih (kc && kp) fs (j :: LC) pre pv hfs0 hfs c7 (fun x hx => by
              rcases List.mem_cons.1 hx with rfl | hx
              · exact ⟨hilt, c3'⟩
              · exact hLC x hx) hfl fuel _ Ex ps hs e' g' m' _ w' L' S' hnd (by omega) (hl.setL hilt hir) hg1⟩)
        split
        · rename_i hw; rw [if_pos hw] at hop'; exact .inl hop'
        · rename_i hw; rw [if_neg hw] at hop'; exact ⟨⟨fun _ => trivial, hop'.1.2⟩, hop'.2⟩
      · have hsafe := List.all_eq_true.1 c5 j (List.mem_range.2 j1)
        simp only [Bool.or_eq_true, beq_iff_eq, Bool.not_eq_true'] at hsafe
        have hpr : prIn ops j (LC ++ fsI fs) = true := prIn_of j4 (fun e he hb => (j5 e he hb).elim (fun h => List.mem_append.2 (.inl h)) (fun h => List.mem_append.2 (.inr (exSub S _ h))))
        have hjj : (∃ q, q ∈ fs ∧ q.1 = j) ∨ (j ∈ pre ∧ ∀ q, q ∈ fs → q.2 = some j → q.1 ∈ Ex) := by
          rcases hsafe with h | h | h | h | h
          · exact absurd h hji
          · exact absurd (by simpa using h) j2
          · left
            obtain ⟨q, h1, h2⟩ := List.mem_map.1 (show j ∈ fs.map (·.1) by simpa using h)
            exact ⟨q, h1, h2⟩
          · refine .inr ⟨by simpa using h, fun q hq hs => ?_⟩
            simp only [chkFS, Bool.and_eq_true] at hfs
            have := List.all_eq_true.1 hfs.2.2 q hq
            simp only [hs, Bool.and_eq_true] at this
            have hb := this.2.2.2.1
            unfold bndB at hb
            rw [j4] at hb
            simp only at hb
            obtain ⟨ed, he1, he2⟩ := Array.any_eq_true'.1 hb
            simp only [Bool.and_eq_true, beq_iff_eq] at he2
            rcases j5 ed he1 he2.1 with h | h
            · rw [he2.2] at h
              exact absurd (mem_fsI.2 (.inl ⟨q, hq, rfl⟩)) (hLC _ h).2
            · rw [← he2.2]; exact h
          · rw [hpr] at h; cases h
        have hfLA : lkA.contains j = false := by
          refine (hfl j ?_).2
          rcases hjj with ⟨q, h1, h2⟩ | ⟨hp, _⟩
          · exact mem_fsI.2 (.inl ⟨q, h1, h2⟩)
          · obtain ⟨f, _, _, _, _, _, _, _, p1, _⟩ := S.pps j hp
            exact mem_fsI.2 (.inr ⟨_, p1, rfl⟩)
        have hkc : kc = true := by
          simp only [Bool.or_eq_true, Bool.and_eq_true] at ck1
          rcases ck1 with h | h
          · exact h
          · have : fs = [] := by simpa using h.2
            subst this
            rcases hjj with ⟨q, hq, _⟩ | ⟨hp, _⟩
            · simp at hq
            · obtain ⟨f, _, _, _, _, _, _, _, p1, _⟩ := S.pps j hp
              simp at p1
        refine S.fstep hfs j3 hjj (fun hs' a' w' S' => ⟨⟨fun h => absurd (hfLA.symm.trans h) Bool.false_ne_true, fun _ _ => toS S' hkc⟩, ?_⟩)
        exact ihf _ _ _ _ _ S' (List.nodup_cons.2 ⟨j3, hnd⟩) (by rw [List.length_cons]; omega) (hl.setE j1 hj)
  | pre f s p ih =>
    intro kc fs LC pre pv hfs0 hfs hc hLC hfl fuel listed Ex ps hs e g m a w L S hnd hfuel hl hvc
    simp only [chkPlan, Bool.and_eq_true, Bool.not_eq_true'] at hc
    obtain ⟨ck, c1, c2, c3, c4⟩ := hc
    have c1' : (f, some s) ∈ fs := by simpa using c1
    have c3' : s ∉ pre := by simpa using c3
    split at c4
    case h_2 => cases c4
    rename_i sz d v hs0
    simp only [Bool.and_eq_true, bne_iff_ne, Nat.blt_eq] at c4
    obtain ⟨c5, c6, c7, c8, c9⟩ := c4
    change (match fOfL l f, sOf l s with | some (d, _, blk), some (sz, d', v) => condB ((d == d') && (det2 true (e.get v) && (storeB sz (e.get v) blk).isSome)) (forceV (e.get v) fun x => vcPlan P l keep (flM keep m0) m0 fs0 Kf p ((s, x) :: ps) e g m) False | _, _ => False) at hvc
    rw [hs0] at hvc
    split at hvc
    case h_2 => exact hvc.elim
    rename_i d1 val blk sz1 d2 v1 hf0 heq
    simp only [Option.some.injEq, Prod.mk.injEq] at heq
    obtain ⟨rfl, rfl, rfl⟩ := heq
    obtain ⟨hb, hvc2⟩ := condB_true hvc
    rw [forceV_eq] at hvc2
    simp only [Bool.and_eq_true, beq_iff_eq] at hb
    obtain ⟨rfl, hb2, hb3⟩ := hb
    obtain ⟨b, hb4⟩ := Option.isSome_iff_exists.1 hb3
    have hlook : ∀ s', s' ≠ s → List.lookup s' ((s, e.get v) :: ps) = List.lookup s' ps := by
      intro s' hne
      rw [List.lookup_cons]
      have : (s' == s) = false := by simpa using hne
      rw [this]
    refine ih kc fs LC (s :: pre) (v :: pv) hfs0 hfs c9 hLC hfl fuel listed Ex _ hs e g m a w L ⟨S.H, S.G, S.keepc, S.eun, fun j hj => (S.ex j hj).imp id (.tail _), fun h hh => ?_, S.hall, S.hnd, S.sf, fun s' hs' => ?_⟩ hnd hfuel hl hvc2
    · obtain ⟨k1, q, k2, k3, blk0, k4, k5⟩ := S.hmem h hh
      refine ⟨k1, q, k2, k3, blk0, k4, k5.imp id (fun ⟨s', u1, u2, u3⟩ => ⟨s', u1, u2, ?_⟩)⟩
      have hne : s' ≠ s := by
        rintro rfl
        rcases S.ex s' u2 with ⟨q', h1, h2⟩ | h1
        · simp only [chkFS, Bool.and_eq_true] at hfs
          exact fs_apart (ndN_spec hfs.1) h1 k2 u1 h2
        · exact c3' h1
      rw [← u3]
      simp only [fillOne, u1, hlook s' hne]
    · rcases List.mem_cons.1 hs' with rfl | hs'
      · refine ⟨f, d1, val, blk, e.get v, sz, v, b, c1', c2, hf0, hs0, by rw [List.lookup_cons]; simp, hb2, hb4, det2_move hb2 (.inl rfl) (S.H.env v), .head _, c5, c6, c7, c8⟩
      · obtain ⟨f, d', val', blk', v', sz, sv, b, p1, p2, p3, p4, p5, p6, p7, p8, p9, p10⟩ := S.pps s' hs'
        exact ⟨f, d', val', blk', v', sz, sv, b, p1, p2, p3, p4, by rw [hlook s' (fun h => c3' (h ▸ hs'))]; exact p5, p6, p7, p8, .tail _ p9, p10⟩
  | fill p ih =>
    intro kc fs LC pre pv hfs0 hfs hc hLC hfl fuel listed Ex ps hs e g m a w L S hnd hfuel hl hvc
    simp only [chkPlan, Bool.and_eq_true, Bool.not_eq_true'] at hc
    obtain ⟨ck, c0, c1, c2, c3, c4⟩ := hc
    have hfs' := hfs
    simp only [chkFS, Bool.and_eq_true] at hfs'
    have hnd0 := ndN_spec hfs'.1
    have hfe : fs = fs0 := hfs0.elim id (fun h => by subst h; simp at c0)
    have hpre : ∀ q, q ∈ fs → ∀ s, q.2 = some s → s ∈ pre := fun q hq s hs => by
      have := List.all_eq_true.1 c1 q hq
      simp only [hs] at this
      simpa using this
    simp only [DPlan.need] at hfuel
    change fillK l ps fs0 e m (fun e m => vcPlan P l keep (flM keep m0) m0 fs0 Kf p ps e g m) at hvc
    rw [← hfe] at hvc
    have full : ∀ {fuel : Nat} {listed : Array Bool} {Ex : List Nat} {hs : List HB} {a : Act} {w : World}, St C0 m0 w0 L0 n l keep kc fs pre pv Ex ps hs e g m a w L → Ex.Nodup → p.need + (fsI fs).length ≤ fuel + Ex.length → Lst ops LC Ex listed → (∀ t, t ∈ fsI fs → t ∈ Ex) →
        wpAnyN P ops (fun x a w => x = .normal ∧ Qf a w) (SP (C0.here m0 w0 L0) keep m0) lkA.contains (ndB1 ops lk) fuel listed a w := by
      intro fuel listed Ex hs a w S hnd hfuel hl hall
      have hExLen := length_le_of_sub hnd (exSub S)
      obtain ⟨e', m', L', k1, k2, t, k3⟩ := fillK_sound S.H (fs := fs) (fun h hh => by
        obtain ⟨u1, q, u2, u3, blk0, u4, u5⟩ := S.hmem h hh
        refine ⟨q, u2, u3, ?_⟩
        rcases u5 with ⟨v1, v2⟩ | ⟨s, v1, v2, v3⟩
        · cases hq : q.2 with
          | none =>
            rw [← u3] at u4
            simp only [fillOne, u4, hq, v1]
          | some s => exact absurd (hall s (mem_fsI.2 (.inr ⟨q, u2, hq⟩))) (v2 s hq)
        · exact v3) (fun q hq => S.hall q hq (hall _ (mem_fsI.2 (.inl ⟨q, hq, rfl⟩)))) S.hnd (List.nodup_append.1 hnd0).1 hvc
      refine ih kc [] (fsI fs ++ LC) [] [] (.inr rfl) (by simp [chkFS, fsI, ndN, fdDist]) c4 (fun j hj => ⟨?_, by simp [fsI]⟩) (fun j hj => by simp [fsI] at hj) fuel listed [] ps [] e' g m' a w L' ⟨k2, S.G, fun hc => ?_, fun q hq => by simp at hq, fun j hj => by simp at hj, fun h hh => by simp at hh, fun q hq => by simp at hq, by simp, fun q hq => by simp at hq, fun s hs => by simp at hs⟩ .nil (by simp [fsI]; omega) ⟨hl.closed, hl.size, fun j hj => ?_⟩ (by rw [← hfe]; exact k1)
      · rcases List.mem_append.1 hj with h | h
        · exact (hfl j h).1
        · exact (hLC j h).1
      · rw [k3]; exact keepR_app (S.keepc hc) t
      · rw [hl.iff j hj, List.mem_append]
        constructor
        · rintro (h | h)
          · exact .inl (.inr h)
          · exact .inl (.inl (exSub S j h))
        · rintro ((h | h) | h)
          · exact .inr (hall j h)
          · exact .inl h
          · simp at h
    clear hvc
    induction fuel generalizing listed Ex hs a w with
    | zero =>
      refine full S hnd hfuel hl (fun t ht => ?_)
      by_cases h : t ∈ Ex
      · exact h
      · have := length_le_of_sub (l1 := t :: Ex) (l2 := fsI fs) (List.nodup_cons.2 ⟨h, hnd⟩) (fun x hx => by
          rcases List.mem_cons.1 hx with rfl | hx
          · exact ht
          · exact exSub S x hx)
        rw [List.length_cons] at this
        omega
    | succ fuel ihf =>
      by_cases hall : ∀ t, t ∈ fsI fs → t ∈ Ex
      · exact full S hnd hfuel hl hall
      · obtain ⟨t, ht⟩ := Classical.not_forall.1 hall
        obtain ⟨ht1, ht2⟩ := Classical.not_imp.1 ht
        refine ⟨fun h0 => ?_, fun j hj => ?_⟩
        · obtain ⟨j, hj⟩ := first_ready hl c2 (fun x hx => ⟨(hfl x hx).1, fun h => (hLC x h).2 hx⟩) (fun x hx => ⟨(hLC x hx).1, .inl hx⟩) ⟨t, ht1, ht2⟩
          rw [h0] at hj; simp at hj
        · obtain ⟨j1, j2, j3, oj, j4, j5⟩ := hl.ready hj
          have hedge : ∀ f, bndB ops j f = true → f ∈ LC ∨ f ∈ Ex := by
            intro f hb
            unfold bndB at hb
            rw [j4] at hb
            simp only at hb
            obtain ⟨ed, he1, he2⟩ := Array.any_eq_true'.1 hb
            simp only [Bool.and_eq_true, beq_iff_eq] at he2
            rw [← he2.2]
            exact j5 ed he1 he2.1
          have hjf : j ∈ fsI fs := by
            have := List.all_eq_true.1 c3 j (List.mem_range.2 j1)
            simp only [Bool.or_eq_true] at this
            rcases this with h | h | h
            · exact absurd (by simpa using h) j2
            · simpa using h
            · rcases hedge t (List.all_eq_true.1 h t ht1) with h | h
              · exact absurd ht1 (hLC t h).2
              · exact absurd h ht2
          have hjj : (∃ q, q ∈ fs ∧ q.1 = j) ∨ (j ∈ pre ∧ ∀ q, q ∈ fs → q.2 = some j → q.1 ∈ Ex) := by
            rcases mem_fsI.1 hjf with h | ⟨q, h1, h2⟩
            · exact .inl h
            · refine .inr ⟨hpre q h1 j h2, fun q' hq' hs => ?_⟩
              have := List.all_eq_true.1 hfs'.2.2 q' hq'
              simp only [hs, Bool.and_eq_true] at this
              rcases hedge _ this.2.2.2.1 with h | h
              · exact absurd (mem_fsI.2 (.inl ⟨q', hq', rfl⟩)) (hLC _ h).2
              · exact h
          refine S.fstep hfs j3 hjj (fun hs' a' w' S' => ⟨⟨fun h => absurd ((hfl j hjf).2.symm.trans h) Bool.false_ne_true, fun _ _ => toS S' ck⟩, ?_⟩)
          exact ihf _ _ _ _ _ S' (List.nodup_cons.2 ⟨j3, hnd⟩) (by rw [List.length_cons]; omega) (hl.setE j1 hj)

end

noncomputable def chkDraw2 (P : Program) (n : Nat) (ops : Array Oper) (l : List AOpr) (d : DInfo) : Bool :=
  Region.noSelect ops && (Nat.ble (d.p.need + (fsI d.fs).length) ops.size && (((fsI d.fs).all fun j => Nat.blt j ops.size && !(d.p.looks.contains j)) && (chkFS P n ops l d.fs && chkPlan P n ops l d.p.looks (d.p.loads l) d.p true d.fs [] [] [])))

noncomputable def killF (l : List AOpr) (fs : FS) : Env → (Env → Prop) → Prop :=
  List.rec (motive := fun _ => Env → (Env → Prop) → Prop) (fun e K => K e) (fun p _ ih e K => match fOfL l p.1 with | some (d, _, _) => Env.setK 12 e d .un fun e => ih e K | none => False) fs

theorem killF_spec {l : List AOpr} : ∀ {fs : FS} {e : Env} {K : Env → Prop}, killF l fs e K → ∃ e', K e' ∧ (∀ t, e'.get t = .un ∨ e'.get t = e.get t) ∧ ∀ q, q ∈ fs → ∀ d val blk, fOfL l q.1 = some (d, val, blk) → e'.get d = .un
  | [], e, K, h => ⟨e, h, fun t => .inr rfl, fun q hq => by simp at hq⟩
  | p :: r, e, K, h => by
    change (match fOfL l p.1 with | some (d, _, _) => Env.setK 12 e d .un fun e => killF l r e K | none => False) at h
    split at h
    case h_2 => exact h.elim
    rename_i d val blk hf
    rw [Env.setK_eq] at h
    obtain ⟨e', k1, k2, k3⟩ := killF_spec h
    have hun : ∀ t, (e.set d .un).get t = .un ∨ (e.set d .un).get t = e.get t := fun t => by
      rcases Env.set_upd e d .un t with h | ⟨_, h⟩ | ⟨_, h⟩
      · exact .inl h
      · exact .inr h
      · exact .inl h
    refine ⟨e', k1, fun t => ?_, fun q hq d' val' blk' hf' => ?_⟩
    · rcases k2 t with h | h
      · exact .inl h
      · rw [h]; exact hun t
    · rcases List.mem_cons.1 hq with rfl | hq
      · rw [hf] at hf'
        simp only [Option.some.injEq, Prod.mk.injEq] at hf'
        obtain ⟨rfl, _, _⟩ := hf'
        rcases k2 d with h | h
        · exact h
        · rw [h]
          rcases Env.set_upd e d .un d with h | ⟨h1, h⟩ | ⟨_, h⟩
          · exact h
          · exact absurd rfl h1
          · exact h
      · exact k3 q hq d' val' blk' hf'

/-- The kit of draws: regions that only look, and regions told by a plan. -/
noncomputable def DK : DrawKit where
  chk P n ops l d := match d.p with
    | .flat => DK0.chk P n ops l d
    | _ => chkDraw2 P n ops l d
  vc P l d e m K := match d.p with
    | .flat => DK0.vc P l d e m K
    | _ => killF l d.fs e fun e => resK e d.keep fun keep => flMK keep m fun mS => vcPlan P l keep mS m d.fs K d.p [] e e m
  sound := by
    intro P n ops l d id hm hc C e m a w L K hrel hvc Q hQ
    have main : chkDraw2 P n ops l d = true → (killF l d.fs e fun e => resK e d.keep fun keep => flMK keep m fun mS => vcPlan P l keep mS m d.fs K d.p [] e e m) → (Code.region id ops true).wp P Q a w := by
      intro hc hvc
      simp only [chkDraw2, Bool.and_eq_true, Nat.ble_eq] at hc
      obtain ⟨h1, h2, h3, h4, h5⟩ := hc
      obtain ⟨e', k0, k2, k3⟩ := killF_spec hvc
      obtain ⟨keep, k1⟩ := resK_spec k0
      rw [flMK_eq] at k1
      let w1 : World := { w with drawn := w.drawn + 1 }
      have hrel' : Rel C n e' m a w1 L := ⟨hrel.size, hrel.defers, hrel.mem.drawn _, fun t => by
        rcases k2 t with h | h
        · rw [h]; exact .un _
        · rw [h]; exact hrel.env t⟩
      have hR0 := hrel'.mem.here
      have S0 : St C m w1 L n l keep true d.fs [] [] [] [] [] e' e' m a w1 L := ⟨HRel.start hrel', fun t => hrel'.env t, fun _ => keepR_refl _ _, fun q hq d' val blk hf => ⟨k3 q hq d' val blk hf, k3 q hq d' val blk hf⟩, fun j hj => by simp at hj, fun h hh => by simp at hh, fun q _ hq => by simp at hq, by simp, fun q _ s _ hs => by simp at hs, fun s hs => by simp at hs⟩
      refine Code.wp_mono (Q := fun x a' w' => x = .normal ∧ Q .normal a' w') (by rintro x a' w' ⟨rfl, h⟩; exact h) ?_
      refine wp_region_any hm (wpAny_of_N (S := SP (C.here m w1 L) keep m) (isL := d.p.looks.contains) (nd := ndB1 ops (d.p.loads l)) _ _ _ _ ?_)
      refine plan_sound hR0 h1 (fs0 := d.fs) (Kf := K) (Qf := fun a w => Q .normal a w) (fun e2 m2 a2 w2 L2 hk hr => ?_) d.p true d.fs [] [] [] (.inl rfl) h4 h5 (fun j hj => by simp at hj) (fun j hj => by
        have := List.all_eq_true.1 h3 j hj
        simp only [Bool.and_eq_true, Nat.blt_eq, Bool.not_eq_true'] at this
        exact this) ops.size _ [] [] [] e' e' m a w1 L S0 .nil (by simpa using h2) ⟨fun j k hj => by
        exfalso
        rw [Array.getD_eq_getD_getElem?, Array.getElem?_replicate] at hj
        split at hj <;> simp at hj, by simp, fun j hj => ?_⟩ k1
      · obtain ⟨b1, b2⟩ := hrel'.mem.back hr.mem
        exact hQ e2 m2 a2 w2 L2 hk ⟨hr.size, hr.defers, b1, hr.env⟩
      · simp [Array.getD_eq_getD_getElem?, hj]
    cases hp : d.p with
    | flat =>
      rw [hp] at hc hvc
      exact DK0.sound (P := P) (n := n) (ops := ops) (l := l) (ord := d) hm hc hrel hvc hQ
    | _ =>
      rw [hp] at hc hvc
      exact main hc (by rw [hp]; exact hvc)

end Go.Wit
end

