/- Texts of a proof, one behind the other; the last of these: The reader of the reference; no condition. -/
import Derived.Test.YtjflfecdeicccaaZ3
import Derived.Test.YtjflfecdeicccaaProg
import Derived.IntWalk
section
/- Regions told by a plan: the whole; the kit of draws; no condition. -/
set_option linter.unusedVariables false
set_option linter.unusedSimpArgs false
namespace Go.Wit

theorem length_le_of_sub : ∀ {l1 l2 : List Nat}, l1.Nodup → (∀ x, x ∈ l1 → x ∈ l2) → l1.length ≤ l2.length
  | [], l2, _, _ => Nat.zero_le _
  | x :: r, l2, hn, hs => by
    obtain ⟨s, t, rfl⟩ := List.append_of_mem (hs x (.head _))
    have hn' := List.nodup_cons.1 hn
    have := length_le_of_sub (l1 := r) (l2 := s ++ t) hn'.2 (fun y hy => by
      have hy' := hs y (.tail _ hy)
      rcases List.mem_append.1 hy' with h | h
      · exact List.mem_append.2 (.inl h)
      · rcases List.mem_cons.1 h with h | h
        · exact absurd (h ▸ hy) hn'.1
        · exact List.mem_append.2 (.inr h))
    simp only [List.length_cons, List.length_append] at this ⊢
    omega

section
variable {P : Program} {C0 : Ctx} {n : Nat} {m0 : Mem} {w0 : World} {L0 : Lay} {ops : Array Oper} {l : List AOpr} {keep : Keep}

theorem HRel.perm {C : Ctx} {hs hs' : List HB} {e : Env} {m : Mem} {a : Act} {w : World} {L : Lay} (p : hs.Perm hs') (H : HRel C n hs e m a w L) : HRel C n hs' e m a w L := by
  have hX : XH C hs = XH C hs' := by
    funext b; apply propext
    simp only [XH, p.mem_iff]
  have hcx : CX C hs m w L = CX C hs' m w L := by unfold CX; rw [hX]
  refine ⟨H.size, H.defers, H.memC, by rw [← hcx]; exact H.memX, by rw [← hcx]; exact H.env, fun h hh => H.hid h (p.mem_iff.2 hh), ?_⟩
  exact (p.pairwise_iff (fun {x y} h h1 h2 h3 => h h2 h1 h3.symm)).1 H.pair

theorem fillK_sound {C : Ctx} {ps : List (Nat × AV)} {a : Act} {w : World} : ∀ {fs : FS} {hs : List HB} {e : Env} {m : Mem} {L : Lay} {K : Env → Mem → Prop}, HRel C n hs e m a w L → (∀ h, h ∈ hs → ∃ q, q ∈ fs ∧ q.1 = h.i ∧ fillOne l ps q = some (h.d, h.val, h.blk)) →
    (∀ q, q ∈ fs → ∃ h, h ∈ hs ∧ h.i = q.1) → (hs.map (·.i)).Nodup → (fs.map (·.1)).Nodup → fillK l ps fs e m K → ∃ e' m' L', K e' m' ∧ HRel C n [] e' m' a w L' ∧ ∃ t, m' = m ++ t
  | [], hs, e, m, L, K, H, h1, h2, h3, h4, hK => by
    cases hs with
    | nil => exact ⟨e, m, L, hK, H, [], by simp⟩
    | cons h r => obtain ⟨q, hq, _⟩ := h1 h (.head _); simp at hq
  | q :: r, hs, e, m, L, K, H, h1, h2, h3, h4, hK => by
    obtain ⟨h, hh, hi⟩ := h2 q (.head _)
    have h4' := List.nodup_cons.1 h4
    have hf : fillOne l ps q = some (h.d, h.val, h.blk) := by
      obtain ⟨q', k1, k2, k3⟩ := h1 h hh
      rcases List.mem_cons.1 k1 with rfl | k1
      · exact k3
      · exact absurd (List.mem_map.2 ⟨q', k1, by rw [k2, hi]⟩) h4'.1
    obtain ⟨s, t, rfl⟩ := List.append_of_mem hh
    have hp : (s ++ h :: t).Perm (h :: (s ++ t)) := List.perm_middle
    have hnd : ((h :: (s ++ t)).map (·.i)).Nodup := ((hp.map _).nodup_iff).1 h3
    rw [List.map_cons] at hnd
    have hnd' := List.nodup_cons.1 hnd
    obtain ⟨L2, H2⟩ := (H.perm hp).tell
    change (match fillOne l ps q with | some (d, val, blk) => memK (m ++ [some blk]) fun m' => putK e (some d) (val m.length) fun e' => fillK l ps r e' m' K | none => False) at hK
    rw [hf] at hK
    simp only [memK_eq, putK_eq] at hK
    obtain ⟨e', m', L', r1, r2, u, r3⟩ := fillK_sound (fs := r) H2 (fun h' hh' => by
      obtain ⟨q', k1, k2, k3⟩ := h1 h' (hp.mem_iff.2 (.tail _ hh'))
      rcases List.mem_cons.1 k1 with rfl | k1
      · exact absurd (List.mem_map.2 ⟨h', hh', by rw [← k2, hi]⟩) hnd'.1
      · exact ⟨q', k1, k2, k3⟩) (fun q' hq' => by
      obtain ⟨h', k1, k2⟩ := h2 q' (.tail _ hq')
      rcases List.mem_cons.1 (hp.mem_iff.1 k1) with rfl | k1
      · exact absurd (List.mem_map.2 ⟨q', hq', by rw [← k2, hi]⟩) h4'.1
      · exact ⟨h', k1, k2⟩) hnd'.2 h4'.2 hK
    exact ⟨e', m', L', r1, r2, [some h.blk] ++ u, by rw [r3, List.append_assoc]⟩

/-- What is listed has all listed that it comes behind. -/
def Closed (ops : Array Oper) (listed : Array Bool) : Prop := ∀ j k, listed.getD j false = true → bndB ops j k = true → listed.getD k false = true
theorem Closed.anc {ops : Array Oper} {listed : Array Bool} (h : Closed ops listed) {j i : Nat} (ha : Anc ops j i) : (∀ k, bndB ops j k = true → listed.getD k false = true) → listed.getD i false = true := by
  induction ha with
  | base j i hb => exact fun hj => hj i hb
  | step j k i hb _ ih => exact fun hj => ih (fun q hq => h k q (hj k hb) hq)
theorem Closed.set {ops : Array Oper} {listed : Array Bool} (h : Closed ops listed) {i : Nat} (hi : i ∈ Region.ready .any ops listed) : Closed ops (listed.setIfInBounds i true) := by
  have up : ∀ k, listed.getD k false = true → (listed.setIfInBounds i true).getD k false = true := by
    intro k hk
    by_cases hki : k = i
    · subst hki
      have : k < listed.size := by
        rcases Nat.lt_or_ge k listed.size with h1 | h1
        · exact h1
        · rw [Array.getD_eq_getD_getElem?, Array.getElem?_eq_none h1] at hk; simp at hk
      rw [Array.getD_eq_getD_getElem?, Array.getElem?_setIfInBounds_self_of_lt this]; rfl
    · rw [getD_set_ne false (Ne.symm hki)]; exact hk
  intro j k hj hb
  by_cases hji : j = i
  · subst hji
    obtain ⟨_, oj, h2, h3⟩ := mem_ready.1 hi
    unfold bndB at hb
    rw [h2] at hb
    simp only at hb
    obtain ⟨ed, he1, he2⟩ := Array.any_eq_true'.1 hb
    simp only [Bool.and_eq_true, beq_iff_eq] at he2
    rw [← he2.2]
    exact up _ (h3 ed he1 he2.1)
  · rw [getD_set_ne false (Ne.symm hji)] at hj
    exact up k (h j k hj hb)

structure Lst (ops : Array Oper) (LC Ex : List Nat) (listed : Array Bool) : Prop where
  closed : Closed ops listed
  size : listed.size = ops.size
  iff : ∀ j, j < ops.size → (listed.getD j false = true ↔ j ∈ LC ∨ j ∈ Ex)

theorem getD_lt {listed : Array Bool} {j : Nat} (h : listed.getD j false = true) : j < listed.size := by
  rcases Nat.lt_or_ge j listed.size with h1 | h1
  · exact h1
  · rw [Array.getD_eq_getD_getElem?, Array.getElem?_eq_none h1] at h; simp at h
theorem getD_tf {listed : Array Bool} {j : Nat} (h : j < listed.size) : listed.getD j true = listed.getD j false := by
  simp [Array.getD_eq_getD_getElem?, h]

theorem Lst.ready {LC Ex : List Nat} {listed : Array Bool} (hl : Lst ops LC Ex listed) {j : Nat} (h : j ∈ Region.ready .any ops listed) : j < ops.size ∧ j ∉ LC ∧ j ∉ Ex ∧ ∃ oj, ops[j]? = some oj ∧ ∀ e, e ∈ oj.after → Region.binds .any e = true → e.on ∈ LC ∨ e.on ∈ Ex := by
  obtain ⟨h1, oj, h2, h3⟩ := mem_ready.1 h
  have hlt := (Array.getElem?_eq_some_iff.1 h2).1
  rw [getD_tf (by rw [hl.size]; exact hlt)] at h1
  have hn : ¬ (j ∈ LC ∨ j ∈ Ex) := fun hj => by rw [(hl.iff j hlt).2 hj] at h1; cases h1
  refine ⟨hlt, fun h => hn (.inl h), fun h => hn (.inr h), oj, h2, fun e he hb => ?_⟩
  have := h3 e he hb
  exact (hl.iff _ (by rw [← hl.size]; exact getD_lt this)).1 this

theorem Lst.mk_ready {LC Ex : List Nat} {listed : Array Bool} (hl : Lst ops LC Ex listed) {j : Nat} (hlt : j < ops.size) (h1 : j ∉ LC) (h2 : j ∉ Ex) {S : List Nat} (hp : prIn ops j S = true) (hS : ∀ x, x ∈ S → x < ops.size ∧ (x ∈ LC ∨ x ∈ Ex)) : j ∈ Region.ready .any ops listed := by
  refine mem_ready.2 ⟨?_, ops[j], Array.getElem?_eq_getElem hlt, fun e he hb => ?_⟩
  · rw [getD_tf (by rw [hl.size]; exact hlt)]
    cases h : listed.getD j false with
    | false => rfl
    | true => exact ((hl.iff j hlt).1 h).elim (fun h => absurd h h1) (fun h => absurd h h2)
  · unfold prIn at hp
    rw [Array.getElem?_eq_getElem hlt] at hp
    simp only at hp
    have := Array.all_eq_true'.1 hp e he
    rw [hb] at this
    simp only [Bool.not_true, Bool.false_or] at this
    obtain ⟨k1, k2⟩ := hS e.on (by simpa using this)
    exact (hl.iff _ k1).2 k2

theorem Lst.setL {LC Ex : List Nat} {listed : Array Bool} (hl : Lst ops LC Ex listed) {i : Nat} (hi : i < ops.size) (hr : i ∈ Region.ready .any ops listed) : Lst ops (i :: LC) Ex (listed.setIfInBounds i true) := by
  refine ⟨hl.closed.set hr, by rw [Array.size_setIfInBounds]; exact hl.size, fun j hj => ?_⟩
  by_cases hji : j = i
  · subst hji
    rw [Array.getD_eq_getD_getElem?, Array.getElem?_setIfInBounds_self_of_lt (by rw [hl.size]; exact hi)]
    simp
  · rw [getD_set_ne false (Ne.symm hji), hl.iff j hj]
    simp [hji]
theorem Lst.setE {LC Ex : List Nat} {listed : Array Bool} (hl : Lst ops LC Ex listed) {i : Nat} (hi : i < ops.size) (hr : i ∈ Region.ready .any ops listed) : Lst ops LC (i :: Ex) (listed.setIfInBounds i true) := by
  refine ⟨hl.closed.set hr, by rw [Array.size_setIfInBounds]; exact hl.size, fun j hj => ?_⟩
  by_cases hji : j = i
  · subst hji
    rw [Array.getD_eq_getD_getElem?, Array.getElem?_setIfInBounds_self_of_lt (by rw [hl.size]; exact hi)]
    simp
  · rw [getD_set_ne false (Ne.symm hji), hl.iff j hj]
    simp [hji]

theorem prIn_of {j : Nat} {oj : Oper} (hoj : ops[j]? = some oj) {S : List Nat} (h : ∀ e, e ∈ oj.after → Region.binds .any e = true → e.on ∈ S) : prIn ops j S = true := by
  unfold prIn
  rw [hoj]
  simp only
  rw [Array.all_eq_true']
  intro e he
  cases hb : Region.binds .any e with
  | false => rfl
  | true => simpa using h e he hb

theorem first_ready {LC Ex : List Nat} {listed : Array Bool} (hl : Lst ops LC Ex listed) : ∀ {T S : List Nat}, chkT ops T S = true → (∀ x, x ∈ T → x < ops.size ∧ x ∉ LC) → (∀ x, x ∈ S → x < ops.size ∧ (x ∈ LC ∨ x ∈ Ex)) → (∃ t, t ∈ T ∧ t ∉ Ex) → ∃ j, j ∈ Region.ready .any ops listed
  | [], S, _, _, _, ⟨t, h, _⟩ => by simp at h
  | t :: ts, S, hc, hT, hS, hex => by
    simp only [chkT, Bool.and_eq_true] at hc
    by_cases ht : t ∈ Ex
    · refine first_ready hl hc.2 (fun x hx => hT x (.tail _ hx)) (fun x hx => ?_) ?_
      · rcases List.mem_cons.1 hx with rfl | hx
        · exact ⟨(hT x (.head _)).1, .inr ht⟩
        · exact hS x hx
      · obtain ⟨u, hu, hu2⟩ := hex
        rcases List.mem_cons.1 hu with rfl | hu
        · exact absurd ht hu2
        · exact ⟨u, hu, hu2⟩
    · exact ⟨t, hl.mk_ready (hT t (.head _)).1 (hT t (.head _)).2 ht hc.1 hS⟩

theorem HRel.rel {C : Ctx} {e : Env} {m : Mem} {a : Act} {w : World} {L : Lay} (H : HRel C n [] e m a w L) : Rel C n e m a w L :=
  ⟨H.size, H.defers, H.memC, fun t => (H.env t).less (fun b hb => hb.imp .inl id)⟩

theorem dstNot_spec {fs : FS} {pv : List Nat} {i : Nat} {ao : AOpr} (h : dstNot l fs pv i = true) (hao : l[i]? = some ao) : ∀ d, ao.dst = some d → d ∉ pv ∧ fdNe l fs d = true := by
  intro d hd
  unfold dstNot at h
  rw [hao] at h
  simp only [hd, Bool.and_eq_true, Bool.not_eq_true'] at h
  exact ⟨by have := h.1; simpa using this, h.2⟩

/-- Whatever order is picked from here on: looks leave the world as it was, and S holds behind each operation behind which a look into memory may still come. -/
def wpAnyN (P : Program) (ops : Array Oper) (Q : Exit → Act → World → Prop) (S : World → Prop) (isL nd : Nat → Bool) : Nat → Array Bool → Act → World → Prop
  | 0, listed, a, w => Region.ready .any ops listed = [] ∧ Q .normal a w
  | fuel + 1, listed, a, w =>
    (Region.ready .any ops listed = [] → Q .normal a w) ∧
    ∀ i ∈ Region.ready .any ops listed, wpOp P ops Q i (fun a' w' => ((isL i = true → w' = w) ∧ (isL i = false → nd i = true → S w')) ∧ wpAnyN P ops Q S isL nd fuel (listed.setIfInBounds i true) a' w') a w

theorem wpAny_of_N {Q : Exit → Act → World → Prop} {S : World → Prop} {isL nd : Nat → Bool} : ∀ (fuel : Nat) (listed : Array Bool) (a : Act) (w : World), wpAnyN P ops Q S isL nd fuel listed a w → wpAny P .any ops Q fuel listed a w
  | 0, _, _, _, h => h
  | fuel + 1, _, _, _, h => ⟨h.1, fun i hi => wpOp_mono (fun a' w' h' => wpAny_of_N fuel _ a' w' h'.2) (h.2 i hi)⟩

theorem wpAnyN_first {Q : Exit → Act → World → Prop} {S S' : World → Prop} {isL nd : Nat → Bool} {i : Nat} {oi : Oper} {v : Value} (hi : ops[i]? = some oi) (hiL : isL i = true) (hsel : ∀ (j : Nat) (o : Oper) cs b, ops[j]? = some o → o.op ≠ .select cs b)
    (hQ : ∀ c a w, Q (.panic c) (a.put oi.dst v) w → Q (.panic c) a w) (hSS : (∀ w, S' w) ∨ ((∀ w, S w → S' w) ∧ ∀ j, nd j = false → Anc ops j i)) :
    ∀ (fuel : Nat) (listed : Array Bool) (a : Act) (w : World), Closed ops listed →
      (∀ j oj, ops[j]? = some oj → j ≠ i → listed.getD j true = false → (∀ e ∈ oj.after, Region.binds .any e = true → e.on ≠ i) → oi.apart ops oj = true) →
      i ∈ Region.ready .any ops listed → YieldsIf P ops S' oi v a → S' w →
      wpAnyN P ops Q S isL nd fuel (listed.setIfInBounds i true) (a.put oi.dst v) w → wpAnyN P ops Q S isL nd (fuel + 1) listed a w := by
  intro fuel
  induction fuel with
  | zero =>
    intro listed a w _ _ hr hy hS H
    refine ⟨fun h => (by rw [h] at hr; cases hr), fun j hj => ?_⟩
    by_cases hji : j = i
    · subst hji; exact hy.wpOp hi hS ⟨⟨fun _ => rfl, fun h => by rw [hiL] at h; cases h⟩, H⟩
    · have := ready_mono hj hji
      rw [H.1] at this
      cases this
  | succ fuel ih =>
    intro listed a w hcl hfree hr hy hS H
    refine ⟨fun h => (by rw [h] at hr; cases hr), fun j hj => ?_⟩
    by_cases hji : j = i
    · subst hji; exact hy.wpOp hi hS ⟨⟨fun _ => rfl, fun h => by rw [hiL] at h; cases h⟩, H⟩
    · have h1 := H.2 j (ready_mono hj hji)
      obtain ⟨hjun, oj, hoj, hall⟩ := mem_ready.1 hj
      have hiun : ¬ listed.getD i false = true := fun h => by
        have h0 := (mem_ready.1 hr).1
        rcases Nat.lt_or_ge i listed.size with h' | h'
        · simp [Array.getD_eq_getD_getElem?, h'] at h0 h; rw [h0] at h; cases h
        · simp [Array.getD_eq_getD_getElem?, Array.getElem?_eq_none h'] at h
      have hdir : ∀ k, bndB ops j k = true → listed.getD k false = true := fun k hb => by
        unfold bndB at hb
        rw [hoj] at hb
        simp only at hb
        obtain ⟨ed, he1, he2⟩ := Array.any_eq_true'.1 hb
        simp only [Bool.and_eq_true, beq_iff_eq] at he2
        rw [← he2.2]
        exact hall ed he1 he2.1
      have hnot : ∀ e ∈ oj.after, Region.binds .any e = true → e.on ≠ i := fun e he hb heq => hiun (by rw [← heq]; exact hall e he hb)
      have hS2 : ∀ w', ((isL j = true → w' = w) ∧ (isL j = false → nd j = true → S w')) → S' w' := fun w' hw' => by
        rcases hSS with h | ⟨h, h'⟩
        · exact h w'
        · cases hL : isL j with
          | true => rw [hw'.1 hL]; exact hS
          | false =>
            refine h w' (hw'.2 hL ?_)
            cases hn : nd j with
            | true => rfl
            | false => exact absurd (hcl.anc (h' j hn) hdir) hiun
      have h2 := wpOp_putIf hoj (hfree j oj hoj hji hjun hnot) (fun cs b => hsel i oi cs b hi) (fun cs b => hsel j oj cs b hoj) hQ hy h1
      have hfree' : ∀ k ok, ops[k]? = some ok → k ≠ i → (listed.setIfInBounds j true).getD k true = false →
          (∀ e ∈ ok.after, Region.binds .any e = true → e.on ≠ i) → oi.apart ops ok = true := fun k ok hk hki hun hno => by
        refine hfree k ok hk hki ?_ hno
        by_cases hjk : j = k
        · subst hjk; exact hjun
        · rw [getD_set_ne true hjk] at hun; exact hun
      refine wpOp_mono (fun a' w' h3 => ⟨h3.2.1, ih (listed.setIfInBounds j true) a' w' (hcl.set hj) hfree' (ready_mono hr (Ne.symm hji)) h3.1 (hS2 w' h3.2.1) ?_⟩) h2
      rw [Array.setIfInBounds_comm _ _ hji]
      exact h3.2.2

theorem wpAnyN_done {Q : Exit → Act → World → Prop} {S : World → Prop} {isL nd : Nat → Bool} {listed : Array Bool} {a : Act} {w : World} (hr : Region.ready .any ops listed = []) (h : Q .normal a w) : ∀ fuel, wpAnyN P ops Q S isL nd fuel listed a w
  | 0 => ⟨hr, h⟩
  | _ + 1 => ⟨fun _ => h, by rw [hr]; simp⟩

theorem run_step {lkA lk : List Nat} {fs0 : FS} {Kf : Env → Mem → Prop} {Qf : Act → World → Prop} {i : Nat} {p : DPlan} {LC pre pv : List Nat} {fuel : Nat}
    (ih : ∀ (listed : Array Bool) (ps : List (Nat × AV)) (hs : List HB) (e g : Env) (m : Mem) (a : Act) (w : World) (L : Lay), St C0 m0 w0 L0 n l keep false [] pre pv [] ps hs e g m a w L → Lst ops (i :: LC) [] listed →
        vcPlan P l keep (flM keep m0) m0 fs0 Kf p ps e g m → wpAnyN P ops (fun x a w => x = .normal ∧ Qf a w) (SP (C0.here m0 w0 L0) keep m0) lkA.contains (ndB1 ops lk) fuel listed a w)
    (ckA : lkA.contains i = false) (ckp : ndB1 ops lk i = false) (c1 : chkI P n ops l i = true) (c6 : dstNot l [] pv i = true)
    {kc : Bool} {listed : Array Bool} {ps : List (Nat × AV)} {hs : List HB} {e g : Env} {m : Mem} {a : Act} {w : World} {L : Lay} (S : St C0 m0 w0 L0 n l keep kc [] pre pv [] ps hs e g m a w L) (hl : Lst ops LC [] listed) (hir : i ∈ Region.ready .any ops listed)
    (hvc : match l[i]? with | some o => vcOp P o e m fun e' m' => (match o.dst with | none => vcPlan P l keep (flM keep m0) m0 fs0 Kf p ps e' g m' | some d => putK g (some d) (flt (e'.get d)) fun g' => vcPlan P l keep (flM keep m0) m0 fs0 Kf p ps e' g' m') | none => False) :
    wpOp P ops (fun x a w => x = .normal ∧ Qf a w) i (fun a' w' => ((lkA.contains i = true → w' = w) ∧ (lkA.contains i = false → ndB1 ops lk i = true → SP (C0.here m0 w0 L0) keep m0 w')) ∧ wpAnyN P ops (fun x a w => x = .normal ∧ Qf a w) (SP (C0.here m0 w0 L0) keep m0) lkA.contains (ndB1 ops lk) fuel (listed.setIfInBounds i true) a' w') a w := by
  obtain ⟨o, ao, ho, hao, hco⟩ := chkI_spec c1
  have hilt := (Array.getElem?_eq_some_iff.1 ho).1
  obtain ⟨hde, hdn, hop⟩ := dst_spec hco
  have hdN := dstNot_spec c6 hao
  rw [hao] at hvc
  simp only at hvc
  unfold wpOp
  rw [ho]
  simp only
  have hop' := op_sound (P := P) (C := CX (C0.here m0 w0 L0) hs m w L) (ops := ops) (o := o) (Q := fun x a w => x = .normal ∧ Qf a w)
    (next := fun a' w' => ((lkA.contains i = true → w' = w) ∧ (lkA.contains i = false → ndB1 ops lk i = true → SP (C0.here m0 w0 L0) keep m0 w')) ∧ wpAnyN P ops (fun x a w => x = .normal ∧ Qf a w) (SP (C0.here m0 w0 L0) keep m0) lkA.contains (ndB1 ops lk) fuel (listed.setIfInBounds i true) a' w')
    ⟨S.H.size, S.H.defers, S.H.memX, S.H.env⟩ hco hvc (fun e' m' r w' L' hk2 hr hun => by
      have H' : HRel (C0.here m0 w0 L0) n hs e' m' (a.put o.dst r) w' L' := S.H.step hr.mem hr.env hr.size hr.defers (fun h hh => by
        obtain ⟨_, q, q1, _⟩ := S.hmem h hh
        simp at q1)
      obtain ⟨g', hg1, hg2, hg3⟩ : ∃ g', vcPlan P l keep (flM keep m0) m0 fs0 Kf p ps e' g' m' ∧ GR (C0.here m0 w0 L0) m0 w0 L0 g' (a.put o.dst r) ∧ (∀ d, g.get d = .un → ao.dst ≠ some d → g'.get d = .un) := by
        cases hq : ao.dst with
        | none =>
          rw [hq] at hk2
          refine ⟨g, hk2, ?_, fun d h _ => h⟩
          rw [hde, hq]; exact S.G
        | some d =>
          rw [hq] at hk2
          simp only [putK_eq] at hk2
          refine ⟨_, hk2, fun t => ?_, fun d' hd' hne => putE_un hd' hne⟩
          rcases Env.set_upd g d (flt (e'.get d)) t with h | ⟨h1, h2⟩ | ⟨h1, h2⟩
          · rw [show (putE g (some d) (flt (e'.get d))).get t = .un from h]; exact .un _
          · rw [show (putE g (some d) (flt (e'.get d))).get t = g.get t from h2, hde, hq, put_get_ne h1]; exact S.G t
          · rw [show (putE g (some d) (flt (e'.get d))).get t = _ from h2, h1]; exact flt_vr (hr.env d)
      have S' : St C0 m0 w0 L0 n l keep false [] pre pv [] ps hs e' g' m' (a.put o.dst r) w' L' := ⟨H', hg2, fun h => Bool.noConfusion h, fun q hq => by simp at hq, S.ex, S.hmem, S.hall, S.hnd, S.sf, fun s hs' => by
        obtain ⟨f, d', val', blk', v, sz, sv, b, p1, _⟩ := S.pps s hs'
        simp at p1⟩
      exact ⟨⟨fun h => absurd (ckA.symm.trans h) Bool.false_ne_true, fun _ h => absurd (ckp.symm.trans h) Bool.false_ne_true⟩, ih _ ps hs e' g' m' _ w' L' S' (hl.setL hilt hir) hg1⟩)
  split
  · rename_i hw; rw [if_pos hw] at hop'; exact .inl hop'
  · rename_i hw; rw [if_neg hw] at hop'; exact ⟨⟨fun _ => trivial, hop'.1.2⟩, hop'.2⟩

theorem plan_sound {lkA lk : List Nat} (hR0 : MRel (C0.here m0 w0 L0) m0 w0 L0) (hns : Region.noSelect ops = true) {fs0 : FS} {Kf : Env → Mem → Prop} {Qf : Act → World → Prop} (hK : ∀ e m a w L, Kf e m → Rel (C0.here m0 w0 L0) n e m a w L → Qf a w) :
    ∀ (p : DPlan) (kc : Bool) (fs : FS) (LC pre pv : List Nat), (fs = fs0 ∨ fs = []) → chkFS P n ops l fs = true → chkPlan P n ops l lkA lk p kc fs LC pre pv = true → (∀ j, j ∈ LC → j < ops.size ∧ j ∉ fsI fs) → (∀ j, j ∈ fsI fs → j < ops.size ∧ lkA.contains j = false) →
      ∀ (fuel : Nat) (listed : Array Bool) (Ex : List Nat) (ps : List (Nat × AV)) (hs : List HB) (e g : Env) (m : Mem) (a : Act) (w : World) (L : Lay), St C0 m0 w0 L0 n l keep kc fs pre pv Ex ps hs e g m a w L → Ex.Nodup → p.need + (fsI fs).length ≤ fuel + Ex.length → Lst ops LC Ex listed →
        vcPlan P l keep (flM keep m0) m0 fs0 Kf p ps e g m → wpAnyN P ops (fun x a w => x = .normal ∧ Qf a w) (SP (C0.here m0 w0 L0) keep m0) lkA.contains (ndB1 ops lk) fuel listed a w := by
  have exSub : ∀ {kc : Bool} {fs : FS} {pre pv Ex ps hs e g m a w L}, St C0 m0 w0 L0 n l keep kc fs pre pv Ex ps hs e g m a w L → ∀ j, j ∈ Ex → j ∈ fsI fs := by
    intro kc fs pre pv Ex ps hs e g m a w L S j hj
    rcases S.ex j hj with ⟨q, h1, h2⟩ | h1
    · exact mem_fsI.2 (.inl ⟨q, h1, h2⟩)
    · obtain ⟨f, _, _, _, _, _, _, _, p1, _⟩ := S.pps j h1
      exact mem_fsI.2 (.inr ⟨_, p1, rfl⟩)
  have toS : ∀ {kc : Bool} {fs : FS} {pre pv Ex ps hs e g m a w L}, St C0 m0 w0 L0 n l keep kc fs pre pv Ex ps hs e g m a w L → kc = true → SP (C0.here m0 w0 L0) keep m0 w := fun S hk => ⟨_, keepS S.H.memC (S.keepc hk)⟩
  intro p
  induction p with
  | flat => intro kc fs LC pre pv _ _ hc; simp [chkPlan] at hc
  | done =>
    intro kc fs LC pre pv _ _ hc hLC hfl fuel listed Ex ps hs e g m a w L S hnd hfuel hl hvc
    simp only [chkPlan, Bool.and_eq_true, List.isEmpty_iff] at hc
    obtain ⟨rfl, hall⟩ := hc
    refine wpAnyN_done ?_ ⟨rfl, hK e m a w L hvc ?_⟩ _
    · cases hr : Region.ready .any ops listed with
      | nil => rfl
      | cons j r =>
        obtain ⟨h1, h2, _⟩ := hl.ready (j := j) (by rw [hr]; exact .head _)
        have := List.all_eq_true.1 hall j (List.mem_range.2 h1)
        exact absurd (by simpa using this) h2
    · have : hs = [] := by
        cases hs with
        | nil => rfl
        | cons h r => obtain ⟨_, q, hq, _⟩ := S.hmem h (.head _); simp at hq
      subst this
      exact S.H.rel
  | look i p ih =>
    intro kc fs LC pre pv hfs0 hfs hc hLC hfl fuel listed Ex ps hs e g m a w L S hnd hfuel hl hvc
    simp only [chkPlan, Bool.and_eq_true, Bool.not_eq_true'] at hc
    obtain ⟨clA, clk, c1, c2, c3, c4, c5, c6, c7⟩ := hc
    have c2' : i ∉ LC := by simpa using c2
    have c3' : i ∉ fsI fs := by simpa using c3
    obtain ⟨o, ao, ho, hao, hco⟩ := chkI_spec c1
    have hilt := (Array.getElem?_eq_some_iff.1 ho).1
    obtain ⟨hde, hdn, hop⟩ := dst_spec hco
    have hdN := dstNot_spec c6 hao
    change (match l[i]? with | some o => vcLook o e g m (flM keep m0) fun e g => vcPlan P l keep (flM keep m0) m0 fs0 Kf p ps e g m | none => False) at hvc
    rw [hao] at hvc
    simp only at hvc
    have hExLen := length_le_of_sub hnd (exSub S)
    simp only [DPlan.need] at hfuel
    obtain ⟨fuel, rfl⟩ : ∃ f, fuel = f + 1 := ⟨fuel - 1, by omega⟩
    obtain ⟨r, e', g', k1, k2, k3, k4, k5, k6, k7⟩ := look_sound hR0 S.H S.G hco (ops := ops) (fun h hh hd => by
      obtain ⟨_, q, q1, q2, blk0, q3, _⟩ := S.hmem h hh
      rw [← q2] at q3
      exact fdNe_spec (hdN _ hd).2 q1 q3 rfl) hvc
    have hiEx : i ∉ Ex := fun h => c3' (exSub S i h)
    have hready : i ∈ Region.ready .any ops listed := hl.mk_ready hilt c2' hiEx c4 (fun x hx => ⟨(hLC x hx).1, .inl hx⟩)
    have hfree : Region.free .any ops listed i = true := by
      unfold Region.free
      rw [ho]
      simp only
      rw [List.all_eq_true]
      intro j hj
      have := List.all_eq_true.1 c5 j hj
      have hjlt := List.mem_range.1 hj
      simp only [Bool.or_eq_true, beq_iff_eq] at this ⊢
      rcases this with h | h | h | h
      · exact .inl (.inl h)
      · refine .inl (.inr ?_)
        rw [getD_tf (by rw [hl.size]; exact hjlt)]
        exact (hl.iff j hjlt).2 (.inl (by simpa using h))
      · right
        unfold bndB at h
        rw [Array.getElem?_eq_getElem hjlt] at h ⊢
        simp only [Bool.or_eq_true] at h ⊢
        exact .inl h
      · right
        unfold apt at h
        rw [ho, Array.getElem?_eq_getElem hjlt] at h
        rw [Array.getElem?_eq_getElem hjlt]
        simp only [Bool.or_eq_true] at h ⊢
        exact .inr h
    have hregI : regI l i = regOp ao.op := by unfold regI; rw [hao]
    refine wpAnyN_first ho clA (Region.noSelect_spec hns) (fun c a w h => by cases h.1) (S' := fun w' => regOp ao.op = true ∨ SP (C0.here m0 w0 L0) keep m0 w') ?_ fuel listed a w hl.closed (Region.free_spec ho hfree) hready k1 ?_ ?_
    · simp only [Bool.or_eq_true, Bool.and_eq_true] at clk
      rcases clk with h | ⟨_, h⟩
      · exact .inl fun w => .inl (by rw [← hregI]; exact h)
      · refine .inr ⟨fun w h => .inr h, fun j hj => ?_⟩
        unfold ndB1 at hj
        simp only [Bool.not_eq_false'] at hj
        exact bndT_anc (List.all_eq_true.1 hj i (by simpa using h))
    · simp only [Bool.or_eq_true, Bool.and_eq_true] at clk
      rcases clk with h | ⟨h, _⟩
      · exact .inl (by rw [← hregI]; exact h)
      · exact .inr (toS S h)
    · refine ih kc fs (i :: LC) pre pv hfs0 hfs c7 (fun j hj => ?_) hfl fuel _ Ex ps hs e' g' m (a.put o.dst r) w L ⟨k3, k4, S.keepc, fun q hq d val blk hf => ?_, S.ex, S.hmem, S.hall, S.hnd, S.sf, fun s hs' => ?_⟩ hnd (by omega) (hl.setL hilt hready) k2
      · rcases List.mem_cons.1 hj with rfl | hj
        · exact ⟨hilt, c3'⟩
        · exact hLC j hj
      · obtain ⟨u1, u2⟩ := S.eun q hq d val blk hf
        have : ao.dst ≠ some d := fun h => fdNe_spec (hdN _ h).2 hq hf rfl
        exact ⟨k6 d u1 this, k7 d u2 this⟩
      · obtain ⟨f, d', val', blk', v, sz, sv, b, p1, p2, p3, p4, p5, p6, p7, p8, p9, p10⟩ := S.pps s hs'
        refine ⟨f, d', val', blk', v, sz, sv, b, p1, p2, p3, p4, p5, p6, p7, ?_, p9, p10⟩
        rw [hde]
        cases hq : ao.dst with
        | none => exact p8
        | some d => rw [put_get_ne (fun h => (hdN d hq).1 (by rw [← h]; exact p9))]; exact p8
  | run i kp p ih =>
    intro kc fs LC pre pv hfs0 hfs hc hLC hfl fuel listed Ex ps hs e g m a w L S hnd hfuel hl hvc
    simp only [chkPlan, Bool.and_eq_true, Bool.not_eq_true'] at hc
    obtain ⟨ckA, ckp, ck1, ck2, c1, c2, c3, c4, c5, c6, c7⟩ := hc
    have c2' : i ∉ LC := by simpa using c2
    have c3' : i ∉ fsI fs := by simpa using c3
    obtain ⟨o, ao, ho, hao, hco⟩ := chkI_spec c1
    have hilt := (Array.getElem?_eq_some_iff.1 ho).1
    obtain ⟨hde, hdn, hop⟩ := dst_spec hco
    have hdN := dstNot_spec c6 hao
    have hkp : ndB1 ops lk i = true → kp = true := fun h => by rw [h] at ckp; simpa using ckp
    change (match l[i]? with | some o => vcOp P o e m fun e' m' => keepK keep kp m0 m' (match o.dst with | none => vcPlan P l keep (flM keep m0) m0 fs0 Kf p ps e' g m' | some d => putK g (some d) (flt (e'.get d)) fun g' => vcPlan P l keep (flM keep m0) m0 fs0 Kf p ps e' g' m') | none => False) at hvc
    rw [hao] at hvc
    simp only at hvc
    simp only [DPlan.need] at hfuel
    induction fuel generalizing listed Ex hs a w with
    | zero => have := length_le_of_sub hnd (exSub S); omega
    | succ fuel ihf =>
      have hiEx : i ∉ Ex := fun h => c3' (exSub S i h)
      have hir := hl.mk_ready hilt c2' hiEx c4 (fun x hx => ⟨(hLC x hx).1, .inl hx⟩)
      refine ⟨fun h0 => by rw [h0] at hir; simp at hir, fun j hj => ?_⟩
      obtain ⟨j1, j2, j3, oj, j4, j5⟩ := hl.ready hj
      by_cases hji : j = i
      · subst hji
        unfold wpOp
        rw [ho]
        simp only
        have hop' := op_sound (P := P) (C := CX (C0.here m0 w0 L0) hs m w L) (ops := ops) (o := o) (Q := fun x a w => x = .normal ∧ Qf a w)
          (next := fun a' w' => ((lkA.contains j = true → w' = w) ∧ (lkA.contains j = false → ndB1 ops lk j = true → SP (C0.here m0 w0 L0) keep m0 w')) ∧ wpAnyN P ops (fun x a w => x = .normal ∧ Qf a w) (SP (C0.here m0 w0 L0) keep m0) lkA.contains (ndB1 ops lk) fuel (listed.setIfInBounds j true) a' w')
          ⟨S.H.size, S.H.defers, S.H.memX, S.H.env⟩ hco hvc (fun e' m' r w' L' hk hr hun => by
            have hkeep : ((kc && kp) = true → keepR keep m0 m') ∧ (match ao.dst with | none => vcPlan P l keep (flM keep m0) m0 fs0 Kf p ps e' g m' | some d => putK g (some d) (flt (e'.get d)) fun g' => vcPlan P l keep (flM keep m0) m0 fs0 Kf p ps e' g' m') :=
              ⟨fun h1 => (keepK_spec hk).1 (by simp only [Bool.and_eq_true] at h1; exact h1.2), (keepK_spec hk).2⟩
            obtain ⟨hk1, hk2⟩ := hkeep
            have H' : HRel (C0.here m0 w0 L0) n hs e' m' (a.put o.dst r) w' L' := S.H.step hr.mem hr.env hr.size hr.defers (fun h hh => by
              rw [hde]
              cases hq : ao.dst with
              | none => rfl
              | some d =>
                obtain ⟨_, q, q1, q2, blk0, q3, _⟩ := S.hmem h hh
                rw [← q2] at q3
                exact put_get_ne (fun h5 => fdNe_spec (hdN d hq).2 q1 q3 h5))
            obtain ⟨g', hg1, hg2, hg3⟩ : ∃ g', vcPlan P l keep (flM keep m0) m0 fs0 Kf p ps e' g' m' ∧ GR (C0.here m0 w0 L0) m0 w0 L0 g' (a.put o.dst r) ∧ (∀ d, g.get d = .un → ao.dst ≠ some d → g'.get d = .un) := by
              cases hq : ao.dst with
              | none =>
                rw [hq] at hk2
                refine ⟨g, hk2, ?_, fun d h _ => h⟩
                rw [hde, hq]; exact S.G
              | some d =>
                rw [hq] at hk2
                simp only [putK_eq] at hk2
                refine ⟨_, hk2, fun t => ?_, fun d' hd' hne => putE_un hd' hne⟩
                rcases Env.set_upd g d (flt (e'.get d)) t with h | ⟨h1, h2⟩ | ⟨h1, h2⟩
                · rw [show (putE g (some d) (flt (e'.get d))).get t = .un from h]; exact .un _
                · rw [show (putE g (some d) (flt (e'.get d))).get t = g.get t from h2, hde, hq, put_get_ne h1]; exact S.G t
                · rw [show (putE g (some d) (flt (e'.get d))).get t = _ from h2, h1]; exact flt_vr (hr.env d)
            have S' : St C0 m0 w0 L0 n l keep (kc && kp) fs pre pv Ex ps hs e' g' m' (a.put o.dst r) w' L' := ⟨H', hg2, hk1, fun q hq d val blk hf => by
              obtain ⟨u1, u2⟩ := S.eun q hq d val blk hf
              have : ao.dst ≠ some d := fun h => fdNe_spec (hdN _ h).2 hq hf rfl
              exact ⟨hun d u1 this, hg3 d u2 this⟩, S.ex, S.hmem, S.hall, S.hnd, S.sf, fun s hs' => by
              obtain ⟨f, d', val', blk', v, sz, sv, b, p1, p2, p3, p4, p5, p6, p7, p8, p9, p10⟩ := S.pps s hs'
              refine ⟨f, d', val', blk', v, sz, sv, b, p1, p2, p3, p4, p5, p6, p7, ?_, p9, p10⟩
              rw [hde]
              cases hq : ao.dst with
              | none => exact p8
              | some d => rw [put_get_ne (fun h => (hdN d hq).1 (by rw [← h]; exact p9))]; exact p8⟩
            exact ⟨⟨fun h => absurd (ckA.symm.trans h) Bool.false_ne_true, fun _ hnd' => toS S' (by
              have hkt : kp = true := hkp hnd'
              have : kc = true := by
                simp only [hkt, Bool.not_true, Bool.false_and, Bool.or_false] at ck1
                exact ck1
              rw [this, hkt]; rfl)⟩, ih (kc && kp) fs (j :: LC) pre pv hfs0 hfs c7 (fun x hx => by
              rcases List.mem_cons.1 hx with rfl | hx
              · exact ⟨hilt, c3'⟩
              · exact hLC x hx) hfl fuel _ Ex ps hs e' g' m' _ w' L' S' hnd (by omega) (hl.setL hilt hir) hg1⟩)
        split
        · rename_i hw; rw [if_pos hw] at hop'; exact .inl hop'
        · rename_i hw; rw [if_neg hw] at hop'; exact ⟨⟨fun _ => trivial, hop'.1.2⟩, hop'.2⟩
      · have hsafe := List.all_eq_true.1 c5 j (List.mem_range.2 j1)
        simp only [Bool.or_eq_true, beq_iff_eq, Bool.not_eq_true'] at hsafe
        have hpr : prIn ops j (LC ++ fsI fs) = true := prIn_of j4 (fun e he hb => (j5 e he hb).elim (fun h => List.mem_append.2 (.inl h)) (fun h => List.mem_append.2 (.inr (exSub S _ h))))
        have hjj : (∃ q, q ∈ fs ∧ q.1 = j) ∨ (j ∈ pre ∧ ∀ q, q ∈ fs → q.2 = some j → q.1 ∈ Ex) := by
          rcases hsafe with h | h | h | h | h
          · exact absurd h hji
          · exact absurd (by simpa using h) j2
          · left
            obtain ⟨q, h1, h2⟩ := List.mem_map.1 (show j ∈ fs.map (·.1) by simpa using h)
            exact ⟨q, h1, h2⟩
          · refine .inr ⟨by simpa using h, fun q hq hs => ?_⟩
            simp only [chkFS, Bool.and_eq_true] at hfs
            have := List.all_eq_true.1 hfs.2.2 q hq
            simp only [hs, Bool.and_eq_true] at this
            have hb := this.2.2.2.1
            unfold bndB at hb
            rw [j4] at hb
            simp only at hb
            obtain ⟨ed, he1, he2⟩ := Array.any_eq_true'.1 hb
            simp only [Bool.and_eq_true, beq_iff_eq] at he2
            rcases j5 ed he1 he2.1 with h | h
            · rw [he2.2] at h
              exact absurd (mem_fsI.2 (.inl ⟨q, hq, rfl⟩)) (hLC _ h).2
            · rw [← he2.2]; exact h
          · rw [hpr] at h; cases h
        have hfLA : lkA.contains j = false := by
          refine (hfl j ?_).2
          rcases hjj with ⟨q, h1, h2⟩ | ⟨hp, _⟩
          · exact mem_fsI.2 (.inl ⟨q, h1, h2⟩)
          · obtain ⟨f, _, _, _, _, _, _, _, p1, _⟩ := S.pps j hp
            exact mem_fsI.2 (.inr ⟨_, p1, rfl⟩)
        have hkc : kc = true := by
          simp only [Bool.or_eq_true, Bool.and_eq_true] at ck1
          rcases ck1 with h | h
          · exact h
          · have : fs = [] := by simpa using h.2
            subst this
            rcases hjj with ⟨q, hq, _⟩ | ⟨hp, _⟩
            · simp at hq
            · obtain ⟨f, _, _, _, _, _, _, _, p1, _⟩ := S.pps j hp
              simp at p1
        refine S.fstep hfs j3 hjj (fun hs' a' w' S' => ⟨⟨fun h => absurd (hfLA.symm.trans h) Bool.false_ne_true, fun _ _ => toS S' hkc⟩, ?_⟩)
        exact ihf _ _ _ _ _ S' (List.nodup_cons.2 ⟨j3, hnd⟩) (by rw [List.length_cons]; omega) (hl.setE j1 hj)
  | two i p j q ihp ihq =>
    intro kc fs LC pre pv hfs0 hfs hc hLC hfl fuel listed Ex ps hs e g m a w L S hnd hfuel hl hvc
    simp only [chkPlan, Bool.and_eq_true, Bool.not_eq_true', List.isEmpty_iff] at hc
    obtain ⟨rfl, ⟨a1, a2, a3, a4, a5, a6, a7⟩, ⟨b1, b2, b3, b4, b5, b6, b7⟩, c5⟩ := hc
    have hEx : Ex = [] := by
      cases Ex with
      | nil => rfl
      | cons x r => have := exSub S x (.head _); simp [fsI] at this
    subst hEx
    simp only [DPlan.need] at hfuel
    obtain ⟨fuel, rfl⟩ : ∃ f, fuel = f + 1 := ⟨fuel - 1, by simp at hfuel; omega⟩
    have hn : p.need ≤ fuel ∧ q.need ≤ fuel := by simp [fsI] at hfuel; omega
    obtain ⟨oi, _, hoi, _⟩ := chkI_spec a3
    obtain ⟨oj, _, hoj, _⟩ := chkI_spec b3
    have hilt := (Array.getElem?_eq_some_iff.1 hoi).1
    have hjlt := (Array.getElem?_eq_some_iff.1 hoj).1
    have hir := hl.mk_ready hilt (by simpa using a4) (by simp) a5 (fun x hx => ⟨(hLC x hx).1, .inl hx⟩)
    obtain ⟨v1, v2⟩ : (match l[i]? with | some o => vcOp P o e m fun e' m' => (match o.dst with | none => vcPlan P l keep (flM keep m0) m0 fs0 Kf p ps e' g m' | some d => putK g (some d) (flt (e'.get d)) fun g' => vcPlan P l keep (flM keep m0) m0 fs0 Kf p ps e' g' m') | none => False) ∧
      (match l[j]? with | some o => vcOp P o e m fun e' m' => (match o.dst with | none => vcPlan P l keep (flM keep m0) m0 fs0 Kf q ps e' g m' | some d => putK g (some d) (flt (e'.get d)) fun g' => vcPlan P l keep (flM keep m0) m0 fs0 Kf q ps e' g' m') | none => False) := hvc
    refine ⟨fun h0 => by rw [h0] at hir; simp at hir, fun k hk => ?_⟩
    obtain ⟨k1, k2, k3, ok, k4, k5⟩ := hl.ready hk
    have hsafe := List.all_eq_true.1 c5 k (List.mem_range.2 k1)
    simp only [Bool.or_eq_true, beq_iff_eq, Bool.not_eq_true'] at hsafe
    rcases hsafe with rfl | rfl | h | h
    · exact run_step (fun listed' ps' hs' e' g' m' a' w' L' S' hl' hv' => ihp false [] (k :: LC) pre pv (.inr rfl) hfs a7 (fun x hx => by
        rcases List.mem_cons.1 hx with rfl | hx
        · exact ⟨hilt, by simp [fsI]⟩
        · exact hLC x hx) hfl fuel listed' [] ps' hs' e' g' m' a' w' L' S' .nil (by simp [fsI]; exact hn.1) hl' hv') a1 a2 a3 a6 S hl hk v1
    · exact run_step (fun listed' ps' hs' e' g' m' a' w' L' S' hl' hv' => ihq false [] (k :: LC) pre pv (.inr rfl) hfs b7 (fun x hx => by
        rcases List.mem_cons.1 hx with rfl | hx
        · exact ⟨hjlt, by simp [fsI]⟩
        · exact hLC x hx) hfl fuel listed' [] ps' hs' e' g' m' a' w' L' S' .nil (by simp [fsI]; exact hn.2) hl' hv') b1 b2 b3 b6 S hl hk v2
    · exact absurd (by simpa using h) k2
    · rw [prIn_of k4 (fun e he hb => (k5 e he hb).elim id (fun h => by simp at h))] at h; cases h
  | pre f s p ih =>
    intro kc fs LC pre pv hfs0 hfs hc hLC hfl fuel listed Ex ps hs e g m a w L S hnd hfuel hl hvc
    simp only [chkPlan, Bool.and_eq_true, Bool.not_eq_true'] at hc
    obtain ⟨ck, c1, c2, c3, c4⟩ := hc
    have c1' : (f, some s) ∈ fs := by simpa using c1
    have c3' : s ∉ pre := by simpa using c3
    split at c4
    case h_2 => cases c4
    rename_i sz d v hs0
    simp only [Bool.and_eq_true, bne_iff_ne, Nat.blt_eq] at c4
    obtain ⟨c5, c6, c7, c8, c9⟩ := c4
    change (match fOfL l f, sOf l s with | some (d, _, blk), some (sz, d', v) => condB ((d == d') && (det2 true (e.get v) && (storeB sz (e.get v) blk).isSome)) (forceV (e.get v) fun x => vcPlan P l keep (flM keep m0) m0 fs0 Kf p ((s, x) :: ps) e g m) False | _, _ => False) at hvc
    rw [hs0] at hvc
    split at hvc
    case h_2 => exact hvc.elim
    rename_i d1 val blk sz1 d2 v1 hf0 heq
    simp only [Option.some.injEq, Prod.mk.injEq] at heq
    obtain ⟨rfl, rfl, rfl⟩ := heq
    obtain ⟨hb, hvc2⟩ := condB_true hvc
    rw [forceV_eq] at hvc2
    simp only [Bool.and_eq_true, beq_iff_eq] at hb
    obtain ⟨rfl, hb2, hb3⟩ := hb
    obtain ⟨b, hb4⟩ := Option.isSome_iff_exists.1 hb3
    have hlook : ∀ s', s' ≠ s → List.lookup s' ((s, e.get v) :: ps) = List.lookup s' ps := by
      intro s' hne
      rw [List.lookup_cons]
      have : (s' == s) = false := by simpa using hne
      rw [this]
    refine ih kc fs LC (s :: pre) (v :: pv) hfs0 hfs c9 hLC hfl fuel listed Ex _ hs e g m a w L ⟨S.H, S.G, S.keepc, S.eun, fun j hj => (S.ex j hj).imp id (.tail _), fun h hh => ?_, S.hall, S.hnd, S.sf, fun s' hs' => ?_⟩ hnd hfuel hl hvc2
    · obtain ⟨k1, q, k2, k3, blk0, k4, k5⟩ := S.hmem h hh
      refine ⟨k1, q, k2, k3, blk0, k4, k5.imp id (fun ⟨s', u1, u2, u3⟩ => ⟨s', u1, u2, ?_⟩)⟩
      have hne : s' ≠ s := by
        rintro rfl
        rcases S.ex s' u2 with ⟨q', h1, h2⟩ | h1
        · simp only [chkFS, Bool.and_eq_true] at hfs
          exact fs_apart (ndN_spec hfs.1) h1 k2 u1 h2
        · exact c3' h1
      rw [← u3]
      simp only [fillOne, u1, hlook s' hne]
    · rcases List.mem_cons.1 hs' with rfl | hs'
      · refine ⟨f, d1, val, blk, e.get v, sz, v, b, c1', c2, hf0, hs0, by rw [List.lookup_cons]; simp, hb2, hb4, det2_move hb2 (.inl rfl) (S.H.env v), .head _, c5, c6, c7, c8⟩
      · obtain ⟨f, d', val', blk', v', sz, sv, b, p1, p2, p3, p4, p5, p6, p7, p8, p9, p10⟩ := S.pps s' hs'
        exact ⟨f, d', val', blk', v', sz, sv, b, p1, p2, p3, p4, by rw [hlook s' (fun h => c3' (h ▸ hs'))]; exact p5, p6, p7, p8, .tail _ p9, p10⟩
  | fill p ih =>
    intro kc fs LC pre pv hfs0 hfs hc hLC hfl fuel listed Ex ps hs e g m a w L S hnd hfuel hl hvc
    simp only [chkPlan, Bool.and_eq_true, Bool.not_eq_true'] at hc
    obtain ⟨ck, c0, c1, c2, c3, c4⟩ := hc
    have hfs' := hfs
    simp only [chkFS, Bool.and_eq_true] at hfs'
    have hnd0 := ndN_spec hfs'.1
    have hfe : fs = fs0 := hfs0.elim id (fun h => by subst h; simp at c0)
    have hpre : ∀ q, q ∈ fs → ∀ s, q.2 = some s → s ∈ pre := fun q hq s hs => by
      have := List.all_eq_true.1 c1 q hq
      simp only [hs] at this
      simpa using this
    simp only [DPlan.need] at hfuel
    change fillK l ps fs0 e m (fun e m => vcPlan P l keep (flM keep m0) m0 fs0 Kf p ps e g m) at hvc
    rw [← hfe] at hvc
    have full : ∀ {fuel : Nat} {listed : Array Bool} {Ex : List Nat} {hs : List HB} {a : Act} {w : World}, St C0 m0 w0 L0 n l keep kc fs pre pv Ex ps hs e g m a w L → Ex.Nodup → p.need + (fsI fs).length ≤ fuel + Ex.length → Lst ops LC Ex listed → (∀ t, t ∈ fsI fs → t ∈ Ex) →
        wpAnyN P ops (fun x a w => x = .normal ∧ Qf a w) (SP (C0.here m0 w0 L0) keep m0) lkA.contains (ndB1 ops lk) fuel listed a w := by
      intro fuel listed Ex hs a w S hnd hfuel hl hall
      have hExLen := length_le_of_sub hnd (exSub S)
      obtain ⟨e', m', L', k1, k2, t, k3⟩ := fillK_sound S.H (fs := fs) (fun h hh => by
        obtain ⟨u1, q, u2, u3, blk0, u4, u5⟩ := S.hmem h hh
        refine ⟨q, u2, u3, ?_⟩
        rcases u5 with ⟨v1, v2⟩ | ⟨s, v1, v2, v3⟩
        · cases hq : q.2 with
          | none =>
            rw [← u3] at u4
            simp only [fillOne, u4, hq, v1]
          | some s => exact absurd (hall s (mem_fsI.2 (.inr ⟨q, u2, hq⟩))) (v2 s hq)
        · exact v3) (fun q hq => S.hall q hq (hall _ (mem_fsI.2 (.inl ⟨q, hq, rfl⟩)))) S.hnd (List.nodup_append.1 hnd0).1 hvc
      refine ih kc [] (fsI fs ++ LC) [] [] (.inr rfl) (by simp [chkFS, fsI, ndN, fdDist]) c4 (fun j hj => ⟨?_, by simp [fsI]⟩) (fun j hj => by simp [fsI] at hj) fuel listed [] ps [] e' g m' a w L' ⟨k2, S.G, fun hc => ?_, fun q hq => by simp at hq, fun j hj => by simp at hj, fun h hh => by simp at hh, fun q hq => by simp at hq, by simp, fun q hq => by simp at hq, fun s hs => by simp at hs⟩ .nil (by simp [fsI]; omega) ⟨hl.closed, hl.size, fun j hj => ?_⟩ (by rw [← hfe]; exact k1)
      · rcases List.mem_append.1 hj with h | h
        · exact (hfl j h).1
        · exact (hLC j h).1
      · rw [k3]; exact keepR_app (S.keepc hc) t
      · rw [hl.iff j hj, List.mem_append]
        constructor
        · rintro (h | h)
          · exact .inl (.inr h)
          · exact .inl (.inl (exSub S j h))
        · rintro ((h | h) | h)
          · exact .inr (hall j h)
          · exact .inl h
          · simp at h
    clear hvc
    induction fuel generalizing listed Ex hs a w with
    | zero =>
      refine full S hnd hfuel hl (fun t ht => ?_)
      by_cases h : t ∈ Ex
      · exact h
      · have := length_le_of_sub (l1 := t :: Ex) (l2 := fsI fs) (List.nodup_cons.2 ⟨h, hnd⟩) (fun x hx => by
          rcases List.mem_cons.1 hx with rfl | hx
          · exact ht
          · exact exSub S x hx)
        rw [List.length_cons] at this
        omega
    | succ fuel ihf =>
      by_cases hall : ∀ t, t ∈ fsI fs → t ∈ Ex
      · exact full S hnd hfuel hl hall
      · obtain ⟨t, ht⟩ := Classical.not_forall.1 hall
        obtain ⟨ht1, ht2⟩ := Classical.not_imp.1 ht
        refine ⟨fun h0 => ?_, fun j hj => ?_⟩
        · obtain ⟨j, hj⟩ := first_ready hl c2 (fun x hx => ⟨(hfl x hx).1, fun h => (hLC x h).2 hx⟩) (fun x hx => ⟨(hLC x hx).1, .inl hx⟩) ⟨t, ht1, ht2⟩
          rw [h0] at hj; simp at hj
        · obtain ⟨j1, j2, j3, oj, j4, j5⟩ := hl.ready hj
          have hedge : ∀ f, bndB ops j f = true → f ∈ LC ∨ f ∈ Ex := by
            intro f hb
            unfold bndB at hb
            rw [j4] at hb
            simp only at hb
            obtain ⟨ed, he1, he2⟩ := Array.any_eq_true'.1 hb
            simp only [Bool.and_eq_true, beq_iff_eq] at he2
            rw [← he2.2]
            exact j5 ed he1 he2.1
          have hjf : j ∈ fsI fs := by
            have := List.all_eq_true.1 c3 j (List.mem_range.2 j1)
            simp only [Bool.or_eq_true] at this
            rcases this with h | h | h
            · exact absurd (by simpa using h) j2
            · simpa using h
            · rcases hedge t (List.all_eq_true.1 h t ht1) with h | h
              · exact absurd ht1 (hLC t h).2
              · exact absurd h ht2
          have hjj : (∃ q, q ∈ fs ∧ q.1 = j) ∨ (j ∈ pre ∧ ∀ q, q ∈ fs → q.2 = some j → q.1 ∈ Ex) := by
            rcases mem_fsI.1 hjf with h | ⟨q, h1, h2⟩
            · exact .inl h
            · refine .inr ⟨hpre q h1 j h2, fun q' hq' hs => ?_⟩
              have := List.all_eq_true.1 hfs'.2.2 q' hq'
              simp only [hs, Bool.and_eq_true] at this
              rcases hedge _ this.2.2.2.1 with h | h
              · exact absurd (mem_fsI.2 (.inl ⟨q', hq', rfl⟩)) (hLC _ h).2
              · exact h
          refine S.fstep hfs j3 hjj (fun hs' a' w' S' => ⟨⟨fun h => absurd ((hfl j hjf).2.symm.trans h) Bool.false_ne_true, fun _ _ => toS S' ck⟩, ?_⟩)
          exact ihf _ _ _ _ _ S' (List.nodup_cons.2 ⟨j3, hnd⟩) (by rw [List.length_cons]; omega) (hl.setE j1 hj)

end

noncomputable def chkDraw2 (P : Program) (n : Nat) (ops : Array Oper) (l : List AOpr) (d : DInfo) : Bool :=
  Region.noSelect ops && (Nat.ble (d.p.need + (fsI d.fs).length) ops.size && (((fsI d.fs).all fun j => Nat.blt j ops.size && !(d.p.looks.contains j)) && (chkFS P n ops l d.fs && chkPlan P n ops l d.p.looks (d.p.loads l) d.p true d.fs [] [] [])))

noncomputable def killF (l : List AOpr) (fs : FS) : Env → (Env → Prop) → Prop :=
  List.rec (motive := fun _ => Env → (Env → Prop) → Prop) (fun e K => K e) (fun p _ ih e K => match fOfL l p.1 with | some (d, _, _) => Env.setK 12 e d .un fun e => ih e K | none => False) fs

theorem killF_spec {l : List AOpr} : ∀ {fs : FS} {e : Env} {K : Env → Prop}, killF l fs e K → ∃ e', K e' ∧ (∀ t, e'.get t = .un ∨ e'.get t = e.get t) ∧ ∀ q, q ∈ fs → ∀ d val blk, fOfL l q.1 = some (d, val, blk) → e'.get d = .un
  | [], e, K, h => ⟨e, h, fun t => .inr rfl, fun q hq => by simp at hq⟩
  | p :: r, e, K, h => by
    change (match fOfL l p.1 with | some (d, _, _) => Env.setK 12 e d .un fun e => killF l r e K | none => False) at h
    split at h
    case h_2 => exact h.elim
    rename_i d val blk hf
    rw [Env.setK_eq] at h
    obtain ⟨e', k1, k2, k3⟩ := killF_spec h
    have hun : ∀ t, (e.set d .un).get t = .un ∨ (e.set d .un).get t = e.get t := fun t => by
      rcases Env.set_upd e d .un t with h | ⟨_, h⟩ | ⟨_, h⟩
      · exact .inl h
      · exact .inr h
      · exact .inl h
    refine ⟨e', k1, fun t => ?_, fun q hq d' val' blk' hf' => ?_⟩
    · rcases k2 t with h | h
      · exact .inl h
      · rw [h]; exact hun t
    · rcases List.mem_cons.1 hq with rfl | hq
      · rw [hf] at hf'
        simp only [Option.some.injEq, Prod.mk.injEq] at hf'
        obtain ⟨rfl, _, _⟩ := hf'
        rcases k2 d with h | h
        · exact h
        · rw [h]
          rcases Env.set_upd e d .un d with h | ⟨h1, h⟩ | ⟨_, h⟩
          · exact h
          · exact absurd rfl h1
          · exact h
      · exact k3 q hq d' val' blk' hf'

/-- The kit of draws: regions that only look, and regions told by a plan. -/
noncomputable def DK : DrawKit where
  chk P n ops l d := match d.p with
    | .flat => DK0.chk P n ops l d
    | _ => chkDraw2 P n ops l d
  vc P l d e m K := match d.p with
    | .flat => DK0.vc P l d e m K
    | _ => killF l d.fs e fun e => resK e d.keep fun keep => flMK keep m fun mS => vcPlan P l keep mS m d.fs K d.p [] e e m
  sound := by
    intro P n ops l d id hm hc C e m a w L K hrel hvc Q hQ
    have main : chkDraw2 P n ops l d = true → (killF l d.fs e fun e => resK e d.keep fun keep => flMK keep m fun mS => vcPlan P l keep mS m d.fs K d.p [] e e m) → (Code.region id ops true).wp P Q a w := by
      intro hc hvc
      simp only [chkDraw2, Bool.and_eq_true, Nat.ble_eq] at hc
      obtain ⟨h1, h2, h3, h4, h5⟩ := hc
      obtain ⟨e', k0, k2, k3⟩ := killF_spec hvc
      obtain ⟨keep, k1⟩ := resK_spec k0
      rw [flMK_eq] at k1
      let w1 : World := { w with drawn := w.drawn + 1 }
      have hrel' : Rel C n e' m a w1 L := ⟨hrel.size, hrel.defers, hrel.mem.drawn _, fun t => by
        rcases k2 t with h | h
        · rw [h]; exact .un _
        · rw [h]; exact hrel.env t⟩
      have hR0 := hrel'.mem.here
      have S0 : St C m w1 L n l keep true d.fs [] [] [] [] [] e' e' m a w1 L := ⟨HRel.start hrel', fun t => hrel'.env t, fun _ => keepR_refl _ _, fun q hq d' val blk hf => ⟨k3 q hq d' val blk hf, k3 q hq d' val blk hf⟩, fun j hj => by simp at hj, fun h hh => by simp at hh, fun q _ hq => by simp at hq, by simp, fun q _ s _ hs => by simp at hs, fun s hs => by simp at hs⟩
      refine Code.wp_mono (Q := fun x a' w' => x = .normal ∧ Q .normal a' w') (by rintro x a' w' ⟨rfl, h⟩; exact h) ?_
      refine wp_region_any hm (wpAny_of_N (S := SP (C.here m w1 L) keep m) (isL := d.p.looks.contains) (nd := ndB1 ops (d.p.loads l)) _ _ _ _ ?_)
      refine plan_sound hR0 h1 (fs0 := d.fs) (Kf := K) (Qf := fun a w => Q .normal a w) (fun e2 m2 a2 w2 L2 hk hr => ?_) d.p true d.fs [] [] [] (.inl rfl) h4 h5 (fun j hj => by simp at hj) (fun j hj => by
        have := List.all_eq_true.1 h3 j hj
        simp only [Bool.and_eq_true, Nat.blt_eq, Bool.not_eq_true'] at this
        exact this) ops.size _ [] [] [] e' e' m a w1 L S0 .nil (by simpa using h2) ⟨fun j k hj => by
        exfalso
        rw [Array.getD_eq_getD_getElem?, Array.getElem?_replicate] at hj
        split at hj <;> simp at hj, by simp, fun j hj => ?_⟩ k1
      · obtain ⟨b1, b2⟩ := hrel'.mem.back hr.mem
        exact hQ e2 m2 a2 w2 L2 hk ⟨hr.size, hr.defers, b1, hr.env⟩
      · simp [Array.getD_eq_getD_getElem?, hj]
    cases hp : d.p with
    | flat =>
      rw [hp] at hc hvc
      exact DK0.sound (P := P) (n := n) (ops := ops) (l := l) (ord := d) hm hc hrel hvc hQ
    | _ =>
      rw [hp] at hc hvc
      exact main hc (by rw [hp]; exact hvc)

end Go.Wit
end

section
/- The told forms of the functions that this seat reaches, each held against the program by a closed test; no condition. -/
set_option maxRecDepth 100000
set_option maxHeartbeats 1000000
namespace Go.Proofs.Ytjflfecdeicccaa
open Go Go.Wit

noncomputable abbrev Pg : Program := Try.prog
def oM (d s : Nat) : AOpr := ⟨some d, .mv (.t s), none⟩
def oK (d f : Nat) (l : List Opn) : AOpr := ⟨some d, .call (.c (.fn f [])) l, none⟩
def oO (d : Nat) (o : AOp) : AOpr := ⟨some d, o, none⟩
def oG (d : Nat) (o : AOp) (t : Nat) (b : Bool) : AOpr := ⟨some d, o, some (t, b)⟩
def oS (z a b : Nat) : AOpr := ⟨none, .store z (.t a) (.t b), none⟩
abbrev F_witanlaw16_BlockReads : Nat := 5
abbrev F_witanlaw16_BlockCut : Nat := 6
abbrev F_witanlaw16_BlockSizes : Nat := 7
abbrev F_witanlaw16_BlockExact : Nat := 8
abbrev F_witankeep_Twin : Nat := 10
abbrev F_sha_Sum : Nat := 11
abbrev F_witanref04_Sum256 : Nat := 12
abbrev F_witankeep_Bytes : Nat := 15
abbrev F_block_Read : Nat := 17
abbrev F_witanref16_Read : Nat := 18
abbrev F_witankeep_Block : Nat := 19
abbrev F_witanlaw16_wakes : Nat := 20
abbrev F_block_Bytes : Nat := 21
abbrev F_witanlaw16_Heavy : Nat := 22
abbrev F_block_Hash : Nat := 23
abbrev F_witankeep_TwinBlock : Nat := 24
abbrev F_witanref16_Check : Nat := 25
abbrev F_block_Check : Nat := 26
abbrev F_witanref16_Bytes : Nat := 27
abbrev F_witanref16_Hash : Nat := 28
abbrev F_sha_rounds : Nat := 32
abbrev F_sha_padded : Nat := 33
abbrev F_sha_high : Nat := 34
abbrev F_bits_RotateLeft32 : Nat := 35
abbrev F_witanref04_k256 : Nat := 36
abbrev F_witanref04_padded : Nat := 37
abbrev F_witanref04_rot32 : Nat := 38
abbrev F_Pblock_reader_num : Nat := 40
abbrev F_Pblock_reader_hash : Nat := 41
abbrev F_Pblock_reader_part : Nat := 42
abbrev F_witanref10_Get : Nat := 43
abbrev F_witanref10_GetPart : Nat := 44
abbrev F_witankeep_Txs : Nat := 45
abbrev F_bin_Put : Nat := 46
abbrev F_bin_PutPart : Nat := 47
abbrev F_witankeep_TwinTxs : Nat := 48
abbrev F_witanref10_Put : Nat := 49
abbrev F_witanref10_PutPart : Nat := 50
abbrev F_bin_Get : Nat := 59
abbrev F_bin_GetPart : Nat := 60
abbrev F_bin_room : Nat := 61
abbrev F_slices_Clone_Sbyte_byte : Nat := 62
theorem mixed : Pg.follows .mixedOrders = true := by kernel_rfl

noncomputable def A_witanlaw16_BlockReads : AFun := ⟨1, 88, [.t 2],
 (.seq (.ops [
 oO 2 (.mv (.c (.bool false)))])
 (.seq (.seq (.ops [
 oM 11 0,
 oO 12 (.len (.t 11)),
 oO 13 (.bin .gtr (.t 12) (.c (.int .i64 4000)))])
 (.cond (.t 13)
 (.seq (.ops [
 oO 2 (.mv (.c (.bool true)))])
 .ret)
 .skip))
 (.seq (.ops [
 oM 14 0,
 oK 15 F_witankeep_Twin [.t 14],
 oM 3 15])
 (.seq (.ops [
 oM 17 3,
 oK 18 F_block_Read [.t 17],
 oM 16 18,
 oO 19 (.ext (.t 16) 0),
 oO 20 (.ext (.t 16) 1),
 oO 21 (.ext (.t 16) 2),
 oO 4 (.alloc 1 32 [.int .u8 0]),
 oO 5 (.alloc 4 1 [.int .i64 0, .int .i64 0, .int .i64 0, .nils]),
 oS 32 4 19,
 ⟨none, .stA 4 1 4 (.t 5) (.t 20), none⟩,
 oM 6 21])
 (.seq (.ops [
 oM 23 0,
 oK 24 F_witanref16_Read [.t 23],
 oM 22 24,
 oO 25 (.ext (.t 22) 0),
 oO 26 (.ext (.t 22) 1),
 oO 27 (.ext (.t 22) 2),
 oO 7 (.alloc 1 32 [.int .u8 0]),
 oO 8 (.alloc 4 1 [.int .i64 0, .int .i64 0, .int .i64 0, .nils]),
 oS 32 7 25,
 ⟨none, .stA 4 1 4 (.t 8) (.t 26), none⟩,
 oM 9 27])
 (.seq (.seq (.ops [
 oM 28 3,
 oM 29 0,
 oK 30 F_witankeep_Bytes [.t 28, .t 29],
 oO 31 (.un .not (.t 30)),
 oM 32 31,
 oG 33 (.mv (.t 9)) 32 false,
 oG 34 (.mv (.t 6)) 32 false,
 oG 35 (.bin .eql (.t 34) (.c (.int .i64 0))) 32 false,
 oG 36 (.eqb true (.t 33) (.t 35)) 32 false,
 oO 37 (.pick (.t 32) (.c (.bool true)) (.t 36)),
 oM 38 37,
 oG 39 (.mv (.t 9)) 38 false,
 oG 40 (.un .not (.t 39)) 38 false,
 oG 41 (.mv (.t 40)) 38 false,
 oG 42 (.mv (.t 6)) 41 true,
 oG 43 (.bin .neq (.t 42) (.c (.int .i64 7))) 41 true,
 oG 44 (.pick (.t 41) (.t 43) (.c (.bool false))) 38 false,
 oO 45 (.pick (.t 38) (.c (.bool true)) (.t 44)),
 oM 46 45,
 oG 47 (.load 4 true (.t 5)) 46 false,
 oG 48 (.load 4 true (.t 8)) 46 false,
 oG 49 (.call (.c (.fn F_witankeep_Block [])) [.t 47, .t 48]) 46 false,
 oG 50 (.un .not (.t 49)) 46 false,
 oO 51 (.pick (.t 46) (.c (.bool true)) (.t 50)),
 oM 52 51,
 oG 53 (.mv (.t 9)) 52 false,
 oG 54 (.mv (.t 53)) 52 false,
 oG 55 (.load 32 true (.t 4)) 54 true,
 oG 56 (.load 32 true (.t 7)) 54 true,
 oG 57 (.eqa (List.replicate 32 (.i)) true (.t 55) (.t 56)) 54 true,
 oG 58 (.pick (.t 54) (.t 57) (.c (.bool false))) 52 false,
 oO 59 (.pick (.t 52) (.c (.bool true)) (.t 58)),
 oM 60 59,
 oG 61 (.mv (.t 9)) 60 false,
 oG 62 (.un .not (.t 61)) 60 false,
 oG 63 (.mv (.t 62)) 60 false,
 oG 64 (.load 32 true (.t 4)) 63 true,
 oG 65 (.build (List.replicate 32 (.int .u8 0)) []) 63 true,
 oG 66 (.eqa (List.replicate 32 (.i)) true (.t 64) (.t 65)) 63 true,
 oG 67 (.pick (.t 63) (.t 66) (.c (.bool false))) 60 false,
 oO 68 (.pick (.t 60) (.c (.bool true)) (.t 67))])
 (.cond (.t 68)
 (.seq (.ops [
 oO 2 (.mv (.c (.bool false)))])
 .ret)
 .skip))
 (.seq (.seq (.ops [
 oM 69 9,
 oO 70 (.un .not (.t 69))])
 (.cond (.t 70)
 (.seq (.ops [
 oK 71 F_witanlaw16_wakes [],
 oM 2 71])
 .ret)
 .skip))
 (.seq (.ops [
 oO 73 (.load 32 true (.t 4)),
 oO 74 (.load 4 true (.t 5)),
 oK 75 F_block_Bytes [.t 73, .t 74],
 oM 72 75,
 oO 76 (.ext (.t 72) 0),
 oO 77 (.ext (.t 72) 1),
 oM 10 76,
 oM 6 77])
 (.seq (.ops [
 oM 78 6,
 oO 79 (.bin .eql (.t 78) (.c (.int .i64 0))),
 oM 80 79,
 oG 81 (.mv (.t 10)) 80 true,
 oG 82 (.mv (.t 0)) 80 true,
 oG 83 (.call (.c (.fn F_witankeep_Bytes [])) [.t 81, .t 82]) 80 true,
 oO 84 (.pick (.t 80) (.t 83) (.c (.bool false))),
 oM 85 84,
 oG 86 (.call (.c (.fn F_witanlaw16_wakes [])) []) 85 true,
 oO 87 (.pick (.t 85) (.t 86) (.c (.bool false))),
 oM 2 87])
 .ret)))))))))⟩
theorem K_witanlaw16_BlockReads : chkFun DK Pg Try.f5 A_witanlaw16_BlockReads = true := by kernel_rfl
theorem B_witanlaw16_BlockReads {args : List AV} {m : Mem} {K : AV → Mem → Prop} (h : vcFun DK Pg A_witanlaw16_BlockReads args m K) : ACall Pg F_witanlaw16_BlockReads args m K := call_body mixed Try.func5 (by kernel_rfl) K_witanlaw16_BlockReads h

noncomputable def A_witanlaw16_BlockCut : AFun := ⟨4, 71, [.t 8],
 (.seq (.ops [
 oO 4 (.box 1 32 (.t 0)),
 oO 5 (.box 4 1 (.t 1)),
 oO 8 (.mv (.c (.bool false)))])
 (.seq (.seq (.ops [
 oO 14 (.load 4 true (.t 5)),
 oK 15 F_witanlaw16_Heavy [.t 14]])
 (.cond (.t 15)
 (.seq (.ops [
 oO 8 (.mv (.c (.bool true)))])
 .ret)
 .skip))
 (.seq (.ops [
 oO 17 (.load 32 true (.t 4)),
 oO 18 (.load 4 true (.t 5)),
 oK 19 F_block_Bytes [.t 17, .t 18],
 oM 16 19,
 oO 20 (.ext (.t 16) 0),
 oO 21 (.ext (.t 16) 1),
 oM 9 20,
 oM 10 21])
 (.seq (.seq (.ops [
 oM 22 10,
 oO 23 (.bin .neq (.t 22) (.c (.int .i64 0)))])
 (.cond (.t 23)
 (.seq (.ops [
 oM 24 9,
 oO 25 (.len (.t 24)),
 oO 26 (.bin .eql (.t 25) (.c (.int .i64 0))),
 oM 27 26,
 oG 28 (.call (.c (.fn F_witanlaw16_wakes [])) []) 27 true,
 oO 29 (.pick (.t 27) (.t 28) (.c (.bool false))),
 oM 8 29])
 .ret)
 .skip))
 (.seq (.seq (.ops [
 oM 30 9,
 oO 31 (.len (.t 30)),
 oO 32 (.bin .eql (.t 31) (.c (.int .i64 0)))])
 (.cond (.t 32)
 (.seq (.ops [
 oO 8 (.mv (.c (.bool false)))])
 .ret)
 .skip))
 (.seq (.ops [
 oM 34 9,
 oK 35 F_witankeep_Twin [.t 34],
 oM 36 3,
 oO 37 (.bsl 1 1 [.int .u8 0] [(0, 1, .t 36)]),
 oO 38 (.app 1 1 (.t 35) (.t 37)),
 oK 39 F_block_Read [.t 38],
 oM 33 39,
 oO 40 (.ext (.t 33) 0),
 oO 41 (.ext (.t 33) 1),
 oO 42 (.ext (.t 33) 2),
 oM 10 42])
 (.seq (.ops [
 oM 44 9,
 oM 45 2,
 oO 46 (.conv .u64 (.t 45)),
 oM 47 9,
 oO 48 (.len (.t 47)),
 oO 49 (.conv .u64 (.t 48)),
 oO 50 (.bin .rem (.t 46) (.t 49)),
 oO 51 (.conv .i64 (.t 50)),
 oO 52 (.slice 1 (.t 44) none (some (.t 51)) none),
 oK 53 F_block_Read [.t 52],
 oM 43 53,
 oO 54 (.ext (.t 43) 0),
 oO 55 (.ext (.t 43) 1),
 oO 56 (.ext (.t 43) 2),
 oO 11 (.alloc 1 32 [.int .u8 0]),
 oO 12 (.alloc 4 1 [.int .i64 0, .int .i64 0, .int .i64 0, .nils]),
 oS 32 11 54,
 ⟨none, .stA 4 1 4 (.t 12) (.t 55), none⟩,
 oM 13 56])
 (.seq (.ops [
 oM 57 10,
 oO 58 (.bin .eql (.t 57) (.c (.int .i64 7))),
 oM 59 58,
 oG 60 (.mv (.t 13)) 59 true,
 oG 61 (.bin .eql (.t 60) (.c (.int .i64 7))) 59 true,
 oO 62 (.pick (.t 59) (.t 61) (.c (.bool false))),
 oM 63 62,
 oG 64 (.load 4 true (.t 12)) 63 true,
 oG 65 (.build [.int .i64 0, .int .i64 0, .int .i64 0, .nils] []) 63 true,
 oG 66 (.call (.c (.fn F_witankeep_Block [])) [.t 64, .t 65]) 63 true,
 oO 67 (.pick (.t 63) (.t 66) (.c (.bool false))),
 oM 68 67,
 oG 69 (.call (.c (.fn F_witanlaw16_wakes [])) []) 68 true,
 oO 70 (.pick (.t 68) (.t 69) (.c (.bool false))),
 oM 8 70])
 .ret))))))))⟩
theorem K_witanlaw16_BlockCut : chkFun DK Pg Try.f6 A_witanlaw16_BlockCut = true := by kernel_rfl
theorem B_witanlaw16_BlockCut {args : List AV} {m : Mem} {K : AV → Mem → Prop} (h : vcFun DK Pg A_witanlaw16_BlockCut args m K) : ACall Pg F_witanlaw16_BlockCut args m K := call_body mixed Try.func6 (by kernel_rfl) K_witanlaw16_BlockCut h

noncomputable def A_witanlaw16_BlockSizes : AFun := ⟨4, 131, [.t 8],
 (.seq (.ops [
 oO 4 (.box 1 32 (.t 0)),
 oO 5 (.box 1 32 (.t 1)),
 oO 6 (.box 4 1 (.t 2)),
 oO 8 (.mv (.c (.bool false)))])
 (.seq (.seq (.ops [
 oO 20 (.load 4 true (.t 6)),
 oK 21 F_witanlaw16_Heavy [.t 20],
 oM 22 21,
 oG 23 (.mv (.t 3)) 22 false,
 oG 24 (.bin .lss (.t 23) (.c (.int .i64 0))) 22 false,
 oO 25 (.pick (.t 22) (.c (.bool true)) (.t 24))])
 (.cond (.t 25)
 (.seq (.ops [
 oO 8 (.mv (.c (.bool true)))])
 .ret)
 .skip))
 (.seq (.ops [
 oO 27 (.load 32 true (.t 4)),
 oO 28 (.load 4 true (.t 6)),
 oK 29 F_block_Bytes [.t 27, .t 28],
 oM 26 29,
 oO 30 (.ext (.t 26) 0),
 oO 31 (.ext (.t 26) 1),
 oM 9 30,
 oM 10 31])
 (.seq (.seq (.ops [
 oM 32 10,
 oO 33 (.bin .neq (.t 32) (.c (.int .i64 0)))])
 (.cond (.t 33)
 (.seq (.ops [
 oM 34 9,
 oO 35 (.len (.t 34)),
 oO 36 (.bin .eql (.t 35) (.c (.int .i64 0))),
 oM 37 36,
 oG 38 (.call (.c (.fn F_witanlaw16_wakes [])) []) 37 true,
 oO 39 (.pick (.t 37) (.t 38) (.c (.bool false))),
 oM 8 39])
 .ret)
 .skip))
 (.seq (.ops [
 oO 11 (.mv (.c (.int .i64 41)))])
 (.seq (.seq (.ops [
 oO 12 (.mv (.c (.int .i64 0)))])
 (.block 0
 (.loop
 (.seq (.seq (.ops [
 oM 40 12,
 oO 41 (.fldA 3 (.t 6)),
 oO 42 (.load 1 false (.t 41)),
 oO 43 (.len (.t 42)),
 oO 44 (.bin .lss (.t 40) (.t 43))])
 (.cond (.t 44)
 .skip
 (.exit 0)))
 (.seq (.block 1
 (.ops [
 oM 47 11,
 oO 48 (.bin .add (.t 47) (.c (.int .i64 5))),
 oO 49 (.fldA 3 (.t 6)),
 oO 50 (.load 1 false (.t 49)),
 oM 51 12,
 oO 52 (.idxA 2 (.t 50) (.t 51)),
 oO 53 (.fldA 1 (.t 52)),
 oO 54 (.load 1 false (.t 53)),
 oO 55 (.len (.t 54)),
 oO 56 (.bin .add (.t 48) (.t 55)),
 oM 11 56]))
 (.ops [
 oM 45 12,
 oO 46 (.bin .add (.t 45) (.c (.int .i64 1))),
 oM 12 46]))))))
 (.seq (.ops [
 oO 58 (.load 32 true (.t 4)),
 oO 59 (.load 4 true (.t 6)),
 oK 60 F_block_Hash [.t 58, .t 59],
 oM 57 60,
 oO 61 (.ext (.t 57) 0),
 oO 62 (.ext (.t 57) 1),
 oO 13 (.alloc 1 32 [.int .u8 0]),
 oS 32 13 61,
 oM 14 62])
 (.seq (.ops [
 oO 63 (.load 4 true (.t 6)),
 oK 64 F_witankeep_TwinBlock [.t 63],
 oO 15 (.alloc 4 1 [.int .i64 0, .int .i64 0, .int .i64 0, .nils]),
 ⟨none, .stA 4 1 4 (.t 15) (.t 64), none⟩])
 (.seq (.ops [
 oM 65 3,
 oO 66 (.fldA 0 (.t 15)),
 ⟨none, .stA 4 1 1 (.t 66) (.t 65), none⟩])
 (.seq (.ops [
 oO 68 (.load 32 true (.t 4)),
 oO 69 (.load 4 true (.t 15)),
 oK 70 F_block_Bytes [.t 68, .t 69],
 oM 67 70,
 oO 71 (.ext (.t 67) 0),
 oO 72 (.ext (.t 67) 1),
 oM 16 71,
 oM 17 72])
 (.seq (.ops [
 oO 74 (.load 32 true (.t 5)),
 oO 75 (.load 4 true (.t 6)),
 oK 76 F_block_Bytes [.t 74, .t 75],
 oM 73 76,
 oO 77 (.ext (.t 73) 0),
 oO 78 (.ext (.t 73) 1),
 oM 18 77,
 oM 19 78])
 (.seq (.seq (.draw [
 oM 79 14,
 oO 80 (.bin .neq (.t 79) (.c (.int .i64 0))),
 oM 81 80,
 oG 82 (.mv (.t 17)) 81 false,
 oG 83 (.bin .neq (.t 82) (.c (.int .i64 0))) 81 false,
 oO 84 (.pick (.t 81) (.c (.bool true)) (.t 83)),
 oM 85 84,
 oG 86 (.mv (.t 19)) 85 false,
 oG 87 (.bin .neq (.t 86) (.c (.int .i64 0))) 85 false,
 oO 88 (.pick (.t 85) (.c (.bool true)) (.t 87)),
 oM 89 88,
 oG 90 (.mv (.t 9)) 89 false,
 oG 91 (.len (.t 90)) 89 false,
 oG 92 (.mv (.t 11)) 89 false,
 oG 93 (.bin .neq (.t 91) (.t 92)) 89 false,
 oO 94 (.pick (.t 89) (.c (.bool true)) (.t 93)),
 oM 95 94,
 oG 96 (.load 32 true (.t 13)) 95 false,
 oG 97 (.mv (.t 9)) 95 false,
 oG 98 (.call (.c (.fn F_sha_Sum [])) [.t 97]) 95 false,
 oG 99 (.eqa (List.replicate 32 (.i)) true (.t 96) (.t 98)) 95 false,
 oO 100 (.pick (.t 95) (.c (.bool true)) (.t 99)),
 oM 101 100,
 oG 102 (.mv (.t 9)) 101 false,
 oG 103 (.mv (.t 16)) 101 false,
 oG 104 (.call (.c (.fn F_witankeep_Bytes [])) [.t 102, .t 103]) 101 false,
 oG 105 (.un .not (.t 104)) 101 false,
 oO 106 (.pick (.t 101) (.c (.bool true)) (.t 105))] ⟨.all, [], .look 0 (.look 1 (.look 2 (.look 3 (.look 4 (.look 5 (.look 6 (.look 7 (.look 8 (.look 9 (.look 10 (.look 11 (.look 12 (.look 13 (.look 14 (.look 15 (.look 16 (.look 17 (.look 18 (.run 19 true (.look 20 (.look 21 (.look 22 (.look 23 (.look 24 (.run 25 true (.look 26 (.look 27 .done)))))))))))))))))))))))))))⟩)
 (.cond (.t 106)
 (.seq (.ops [
 oO 8 (.mv (.c (.bool false)))])
 .ret)
 .skip))
 (.seq (.draw [
 oM 107 9,
 oM 108 18,
 oK 109 F_witankeep_Bytes [.t 107, .t 108],
 oO 110 (.load 32 true (.t 4)),
 oO 111 (.load 32 true (.t 5)),
 oO 112 (.eqa (List.replicate 32 (.i)) false (.t 110) (.t 111)),
 oO 113 (.eqb false (.t 109) (.t 112)),
 oM 114 113,
 oG 115 (.mv (.t 9)) 114 true,
 oG 116 (.slice 1 (.t 115) none (some (.c (.int .i64 8))) none) 114 true,
 oG 117 (.mv (.t 18)) 114 true,
 oG 118 (.slice 1 (.t 117) none (some (.c (.int .i64 8))) none) 114 true,
 oG 119 (.call (.c (.fn F_witankeep_Bytes [])) [.t 116, .t 118]) 114 true,
 oO 120 (.pick (.t 114) (.t 119) (.c (.bool false))),
 oM 121 120,
 oG 122 (.mv (.t 9)) 121 true,
 oG 123 (.slice 1 (.t 122) (some (.c (.int .i64 40))) none none) 121 true,
 oG 124 (.mv (.t 18)) 121 true,
 oG 125 (.slice 1 (.t 124) (some (.c (.int .i64 40))) none none) 121 true,
 oG 126 (.call (.c (.fn F_witankeep_Bytes [])) [.t 123, .t 125]) 121 true,
 oO 127 (.pick (.t 121) (.t 126) (.c (.bool false))),
 oM 128 127,
 oG 129 (.call (.c (.fn F_witanlaw16_wakes [])) []) 128 true,
 oO 130 (.pick (.t 128) (.t 129) (.c (.bool false))),
 oM 8 130] ⟨.all, [], .look 0 (.look 1 (.look 3 (.look 4 (.look 5 (.run 2 true (.look 6 (.look 7 (.look 8 (.look 9 (.look 10 (.look 11 (.run 12 true (.look 13 (.look 14 (.look 15 (.look 16 (.look 17 (.look 18 (.run 19 true (.look 20 (.look 21 (.run 22 true (.look 23 (.look 24 .done))))))))))))))))))))))))⟩)
 .ret)))))))))))))⟩
theorem K_witanlaw16_BlockSizes : chkFun DK Pg Try.f7 A_witanlaw16_BlockSizes = true := by kernel_rfl
theorem B_witanlaw16_BlockSizes {args : List AV} {m : Mem} {K : AV → Mem → Prop} (h : vcFun DK Pg A_witanlaw16_BlockSizes args m K) : ACall Pg F_witanlaw16_BlockSizes args m K := call_body mixed Try.func7 (by kernel_rfl) K_witanlaw16_BlockSizes h

noncomputable def A_witanlaw16_BlockExact : AFun := ⟨2, 99, [.t 4],
 (.seq (.ops [
 oO 2 (.box 1 32 (.t 0)),
 oO 3 (.box 4 1 (.t 1)),
 oO 4 (.mv (.c (.bool false)))])
 (.seq (.seq (.ops [
 oO 13 (.load 4 true (.t 3)),
 oK 14 F_witanlaw16_Heavy [.t 13]])
 (.cond (.t 14)
 (.seq (.ops [
 oO 4 (.mv (.c (.bool true)))])
 .ret)
 .skip))
 (.seq (.ops [
 oO 15 (.load 4 true (.t 3)),
 oK 16 F_witankeep_TwinBlock [.t 15],
 oO 5 (.alloc 4 1 [.int .i64 0, .int .i64 0, .int .i64 0, .nils]),
 ⟨none, .stA 4 1 4 (.t 5) (.t 16), none⟩])
 (.seq (.ops [
 oO 17 (.load 4 true (.t 3)),
 oK 18 F_witanref16_Check [.t 17],
 oM 6 18])
 (.seq (.ops [
 oO 20 (.load 32 true (.t 2)),
 oO 21 (.load 4 true (.t 5)),
 oK 22 F_block_Bytes [.t 20, .t 21],
 oM 19 22,
 oO 23 (.ext (.t 19) 0),
 oO 24 (.ext (.t 19) 1),
 oM 7 23,
 oM 8 24])
 (.seq (.ops [
 oO 26 (.load 32 true (.t 2)),
 oO 27 (.load 4 true (.t 5)),
 oK 28 F_block_Hash [.t 26, .t 27],
 oM 25 28,
 oO 29 (.ext (.t 25) 0),
 oO 30 (.ext (.t 25) 1),
 oO 9 (.alloc 1 32 [.int .u8 0]),
 oS 32 9 29,
 oM 10 30])
 (.seq (.seq (.ops [
 oO 31 (.load 4 true (.t 5)),
 oK 32 F_block_Check [.t 31],
 oM 33 6,
 oO 34 (.bin .neq (.t 32) (.t 33)),
 oM 35 34,
 oG 36 (.mv (.t 8)) 35 false,
 oG 37 (.mv (.t 6)) 35 false,
 oG 38 (.bin .neq (.t 36) (.t 37)) 35 false,
 oO 39 (.pick (.t 35) (.c (.bool true)) (.t 38)),
 oM 40 39,
 oG 41 (.mv (.t 10)) 40 false,
 oG 42 (.mv (.t 6)) 40 false,
 oG 43 (.bin .neq (.t 41) (.t 42)) 40 false,
 oO 44 (.pick (.t 40) (.c (.bool true)) (.t 43)),
 oM 45 44,
 oG 46 (.load 4 true (.t 5)) 45 false,
 oG 47 (.load 4 true (.t 3)) 45 false,
 oG 48 (.call (.c (.fn F_witankeep_Block [])) [.t 46, .t 47]) 45 false,
 oG 49 (.un .not (.t 48)) 45 false,
 oO 50 (.pick (.t 45) (.c (.bool true)) (.t 49))])
 (.cond (.t 50)
 (.seq (.ops [
 oO 4 (.mv (.c (.bool false)))])
 .ret)
 .skip))
 (.seq (.seq (.ops [
 oM 51 6,
 oO 52 (.bin .neq (.t 51) (.c (.int .i64 0)))])
 (.cond (.t 52)
 (.seq (.ops [
 oM 53 7,
 oO 54 (.len (.t 53)),
 oO 55 (.bin .eql (.t 54) (.c (.int .i64 0))),
 oM 56 55,
 oG 57 (.load 32 true (.t 9)) 56 true,
 oG 58 (.build (List.replicate 32 (.int .u8 0)) []) 56 true,
 oG 59 (.eqa (List.replicate 32 (.i)) false (.t 57) (.t 58)) 56 true,
 oO 60 (.pick (.t 56) (.t 59) (.c (.bool false))),
 oM 61 60,
 oG 62 (.call (.c (.fn F_witanlaw16_wakes [])) []) 61 true,
 oO 63 (.pick (.t 61) (.t 62) (.c (.bool false))),
 oM 4 63])
 .ret)
 .skip))
 (.seq (.seq (.draw [
 oM 64 7,
 oO 65 (.load 32 true (.t 2)),
 oO 66 (.load 4 true (.t 3)),
 oK 67 F_witanref16_Bytes [.t 65, .t 66],
 oK 68 F_witankeep_Bytes [.t 64, .t 67],
 oO 69 (.un .not (.t 68)),
 oM 70 69,
 oG 71 (.load 32 true (.t 9)) 70 false,
 oG 72 (.load 32 true (.t 2)) 70 false,
 oG 73 (.load 4 true (.t 3)) 70 false,
 oG 74 (.call (.c (.fn F_witanref16_Hash [])) [.t 72, .t 73]) 70 false,
 oG 75 (.eqa (List.replicate 32 (.i)) true (.t 71) (.t 74)) 70 false,
 oO 76 (.pick (.t 70) (.c (.bool true)) (.t 75))] ⟨.all, [], .look 0 (.look 1 (.run 2 true (.run 3 true (.run 4 true (.look 5 (.look 6 (.look 7 (.look 8 (.run 9 true (.run 10 true (.look 11 (.look 12 .done))))))))))))⟩)
 (.cond (.t 76)
 (.seq (.ops [
 oO 4 (.mv (.c (.bool false)))])
 .ret)
 .skip))
 (.seq (.ops [
 oM 78 7,
 oK 79 F_block_Read [.t 78],
 oM 77 79,
 oO 80 (.ext (.t 77) 0),
 oO 81 (.ext (.t 77) 1),
 oO 82 (.ext (.t 77) 2),
 oO 11 (.alloc 1 32 [.int .u8 0]),
 oO 12 (.alloc 4 1 [.int .i64 0, .int .i64 0, .int .i64 0, .nils]),
 oS 32 11 80,
 ⟨none, .stA 4 1 4 (.t 12) (.t 81), none⟩,
 oM 8 82])
 (.seq (.ops [
 oO 83 (.fldA 0 (.t 3)),
 ⟨none, .stA 4 1 1 (.t 83) (.c (.int .i64 0)), none⟩])
 (.seq (.ops [
 oM 84 8,
 oO 85 (.bin .eql (.t 84) (.c (.int .i64 0))),
 oM 86 85,
 oG 87 (.load 32 true (.t 11)) 86 true,
 oG 88 (.load 32 true (.t 2)) 86 true,
 oG 89 (.eqa (List.replicate 32 (.i)) false (.t 87) (.t 88)) 86 true,
 oO 90 (.pick (.t 86) (.t 89) (.c (.bool false))),
 oM 91 90,
 oG 92 (.load 4 true (.t 12)) 91 true,
 oG 93 (.load 4 true (.t 3)) 91 true,
 oG 94 (.call (.c (.fn F_witankeep_Block [])) [.t 92, .t 93]) 91 true,
 oO 95 (.pick (.t 91) (.t 94) (.c (.bool false))),
 oM 96 95,
 oG 97 (.call (.c (.fn F_witanlaw16_wakes [])) []) 96 true,
 oO 98 (.pick (.t 96) (.t 97) (.c (.bool false))),
 oM 4 98])
 .ret))))))))))))⟩
theorem K_witanlaw16_BlockExact : chkFun DK Pg Try.f8 A_witanlaw16_BlockExact = true := by kernel_rfl
theorem B_witanlaw16_BlockExact {args : List AV} {m : Mem} {K : AV → Mem → Prop} (h : vcFun DK Pg A_witanlaw16_BlockExact args m K) : ACall Pg F_witanlaw16_BlockExact args m K := call_body mixed Try.func8 (by kernel_rfl) K_witanlaw16_BlockExact h

noncomputable def A_witankeep_Twin : AFun := ⟨1, 7, [.t 2],
 (.seq (.ops [
 oO 2 (.mv (.c (.nils)))])
 (.seq (.ops [
 oO 3 (.mv (.c (.nils)))])
 (.seq (.ops [
 oM 4 3,
 oM 5 0,
 oO 6 (.app 1 1 (.t 4) (.t 5)),
 oM 2 6])
 .ret)))⟩
theorem K_witankeep_Twin : chkFun DK Pg Try.f10 A_witankeep_Twin = true := by kernel_rfl
theorem B_witankeep_Twin {args : List AV} {m : Mem} {K : AV → Mem → Prop} (h : vcFun DK Pg A_witankeep_Twin args m K) : ACall Pg F_witankeep_Twin args m K := call_body mixed Try.func10 (by kernel_rfl) K_witankeep_Twin h

noncomputable def A_sha_Sum : AFun := ⟨1, 201, [.cell 2 32 true],
 (.seq (.ops [
 oO 2 (.alloc 1 32 [.int .u8 0])])
 (.seq (.ops [
 oO 23 (.build [.int .u32 0, .int .u32 0, .int .u32 0, .int .u32 0, .int .u32 0, .int .u32 0, .int .u32 0, .int .u32 0] [(0, 1, .c (.int .u32 1779033703)), (1, 1, .c (.int .u32 3144134277)), (2, 1, .c (.int .u32 1013904242)), (3, 1, .c (.int .u32 2773480762)), (4, 1, .c (.int .u32 1359893119)), (5, 1, .c (.int .u32 2600822924)), (6, 1, .c (.int .u32 528734635)), (7, 1, .c (.int .u32 1541459225))]),
 oO 3 (.alloc 1 8 [.int .u32 0]),
 oS 8 3 23])
 (.seq (.ops [
 oK 24 F_sha_rounds [],
 oM 4 24])
 (.seq (.seq (.ops [
 oM 25 0,
 oK 26 F_sha_padded [.t 25],
 oM 5 26])
 (.block 0
 (.loop
 (.seq (.seq (.ops [
 oM 27 5,
 oO 28 (.len (.t 27)),
 oO 29 (.bin .gtr (.t 28) (.c (.int .i64 0)))])
 (.cond (.t 29)
 .skip
 (.exit 0)))
 (.seq (.block 1
 (.seq (.ops [
 oO 6 (.alloc 1 64 [.int .u32 0])])
 (.seq (.seq (.ops [
 oO 32 (.mv (.c (.int .i64 0)))])
 (.block 2
 (.loop
 (.seq (.ops [
 oO 33 (.bin .lss (.t 32) (.c (.int .i64 64)))])
 (.seq (.cond (.t 33)
 .skip
 (.exit 2))
 (.seq (.block 3
 (.seq (.ops [
 oM 34 32,
 oM 7 34])
 (.seq (.seq (.ops [
 oM 35 7,
 oO 36 (.bin .lss (.t 35) (.c (.int .i64 16)))])
 (.cond (.t 36)
 (.seq (.ops [
 oM 37 7,
 oM 38 5,
 oM 39 7,
 oO 40 (.bin .mul (.c (.int .i64 4)) (.t 39)),
 oM 41 7,
 oO 42 (.bin .mul (.c (.int .i64 4)) (.t 41)),
 oO 43 (.bin .add (.t 42) (.c (.int .i64 4))),
 oO 44 (.slice 1 (.t 38) (some (.t 40)) (some (.t 43)) none),
 oK 45 F_sha_high [.t 44],
 oO 46 (.conv .u32 (.t 45)),
 oO 47 (.idxP 64 1 (.t 6) (.t 37)),
 oS 1 47 46])
 (.exit 3))
 .skip))
 (.seq (.draw [
 oM 48 7,
 oO 49 (.bin .sub (.t 48) (.c (.int .i64 15))),
 oO 50 (.idxP 64 1 (.t 6) (.t 49)),
 oO 51 (.load 1 false (.t 50)),
 oM 52 7,
 oO 53 (.bin .sub (.t 52) (.c (.int .i64 2))),
 oO 54 (.idxP 64 1 (.t 6) (.t 53)),
 oO 55 (.load 1 false (.t 54)),
 oM 8 51,
 oM 9 55] ⟨.no, [], .flat⟩)
 (.seq (.ops [
 oM 56 8,
 oK 57 F_bits_RotateLeft32 [.t 56, .c (.int .i64 (-7))],
 oM 58 8,
 oK 59 F_bits_RotateLeft32 [.t 58, .c (.int .i64 (-18))],
 oO 60 (.bin .xor (.t 57) (.t 59)),
 oM 61 8,
 oO 62 (.bin .shr (.t 61) (.c (.int .u64 3))),
 oO 63 (.bin .xor (.t 60) (.t 62)),
 oM 10 63])
 (.seq (.ops [
 oM 64 9,
 oK 65 F_bits_RotateLeft32 [.t 64, .c (.int .i64 (-17))],
 oM 66 9,
 oK 67 F_bits_RotateLeft32 [.t 66, .c (.int .i64 (-19))],
 oO 68 (.bin .xor (.t 65) (.t 67)),
 oM 69 9,
 oO 70 (.bin .shr (.t 69) (.c (.int .u64 10))),
 oO 71 (.bin .xor (.t 68) (.t 70)),
 oM 11 71])
 (.draw [
 oM 72 7,
 oM 73 7,
 oO 74 (.bin .sub (.t 73) (.c (.int .i64 16))),
 oO 75 (.idxP 64 1 (.t 6) (.t 74)),
 oO 76 (.load 1 false (.t 75)),
 oM 77 10,
 oO 78 (.bin .add (.t 76) (.t 77)),
 oM 79 7,
 oO 80 (.bin .sub (.t 79) (.c (.int .i64 7))),
 oO 81 (.idxP 64 1 (.t 6) (.t 80)),
 oO 82 (.load 1 false (.t 81)),
 oO 83 (.bin .add (.t 78) (.t 82)),
 oM 84 11,
 oO 85 (.bin .add (.t 83) (.t 84)),
 oO 86 (.idxP 64 1 (.t 6) (.t 72)),
 oS 1 86 85] ⟨.all, [], .look 0 (.look 1 (.look 2 (.look 3 (.look 4 (.look 5 (.look 6 (.look 7 (.look 8 (.look 9 (.look 10 (.look 11 (.look 12 (.look 13 (.look 14 (.run 15 false .done)))))))))))))))⟩)))))))
 (.ops [
 oO 87 (.bin .add (.t 32) (.c (.int .i64 1))),
 oM 32 87])))))))
 (.seq (.ops [
 oO 88 (.load 8 true (.t 3)),
 oO 12 (.alloc 1 8 [.int .u32 0]),
 oS 8 12 88])
 (.seq (.seq (.ops [
 oO 89 (.mv (.c (.int .i64 0)))])
 (.block 4
 (.loop
 (.seq (.ops [
 oO 90 (.bin .lss (.t 89) (.c (.int .i64 64)))])
 (.seq (.cond (.t 90)
 .skip
 (.exit 4))
 (.seq (.block 5
 (.seq (.ops [
 oM 91 89,
 oM 13 91])
 (.seq (.draw [
 oO 92 (.idxP 8 1 (.t 12) (.c (.int .i64 4))),
 oO 93 (.load 1 false (.t 92)),
 oO 94 (.idxP 8 1 (.t 12) (.c (.int .i64 0))),
 oO 95 (.load 1 false (.t 94)),
 oM 14 93,
 oM 15 95] ⟨.no, [], .flat⟩)
 (.seq (.ops [
 oM 96 14,
 oK 97 F_bits_RotateLeft32 [.t 96, .c (.int .i64 (-6))],
 oM 98 14,
 oK 99 F_bits_RotateLeft32 [.t 98, .c (.int .i64 (-11))],
 oO 100 (.bin .xor (.t 97) (.t 99)),
 oM 101 14,
 oK 102 F_bits_RotateLeft32 [.t 101, .c (.int .i64 (-25))],
 oO 103 (.bin .xor (.t 100) (.t 102)),
 oM 16 103])
 (.seq (.draw [
 oO 104 (.idxP 8 1 (.t 12) (.c (.int .i64 7))),
 oO 105 (.load 1 false (.t 104)),
 oM 106 16,
 oO 107 (.bin .add (.t 105) (.t 106)),
 oM 108 14,
 oO 109 (.idxP 8 1 (.t 12) (.c (.int .i64 5))),
 oO 110 (.load 1 false (.t 109)),
 oO 111 (.bin .and (.t 108) (.t 110)),
 oM 112 14,
 oO 113 (.un .xor (.t 112)),
 oO 114 (.idxP 8 1 (.t 12) (.c (.int .i64 6))),
 oO 115 (.load 1 false (.t 114)),
 oO 116 (.bin .and (.t 113) (.t 115)),
 oO 117 (.bin .xor (.t 111) (.t 116)),
 oO 118 (.bin .add (.t 107) (.t 117)),
 oM 119 4,
 oM 120 13,
 oO 121 (.idxA 1 (.t 119) (.t 120)),
 oO 122 (.load 1 false (.t 121)),
 oO 123 (.bin .add (.t 118) (.t 122)),
 oM 124 13,
 oO 125 (.idxP 64 1 (.t 6) (.t 124)),
 oO 126 (.load 1 false (.t 125)),
 oO 127 (.bin .add (.t 123) (.t 126)),
 oM 17 127] ⟨.no, [], .flat⟩)
 (.seq (.ops [
 oM 128 15,
 oK 129 F_bits_RotateLeft32 [.t 128, .c (.int .i64 (-2))],
 oM 130 15,
 oK 131 F_bits_RotateLeft32 [.t 130, .c (.int .i64 (-13))],
 oO 132 (.bin .xor (.t 129) (.t 131)),
 oM 133 15,
 oK 134 F_bits_RotateLeft32 [.t 133, .c (.int .i64 (-22))],
 oO 135 (.bin .xor (.t 132) (.t 134)),
 oM 18 135])
 (.seq (.ops [
 oM 136 18,
 oM 137 15,
 oO 138 (.idxP 8 1 (.t 12) (.c (.int .i64 1))),
 oO 139 (.load 1 false (.t 138)),
 oO 140 (.bin .and (.t 137) (.t 139)),
 oM 141 15,
 oO 142 (.idxP 8 1 (.t 12) (.c (.int .i64 2))),
 oO 143 (.load 1 false (.t 142)),
 oO 144 (.bin .and (.t 141) (.t 143)),
 oO 145 (.bin .xor (.t 140) (.t 144)),
 oO 146 (.idxP 8 1 (.t 12) (.c (.int .i64 1))),
 oO 147 (.load 1 false (.t 146)),
 oO 148 (.idxP 8 1 (.t 12) (.c (.int .i64 2))),
 oO 149 (.load 1 false (.t 148)),
 oO 150 (.bin .and (.t 147) (.t 149)),
 oO 151 (.bin .xor (.t 145) (.t 150)),
 oO 152 (.bin .add (.t 136) (.t 151)),
 oM 19 152])
 (.ops [
 oM 153 17,
 oM 154 19,
 oO 155 (.bin .add (.t 153) (.t 154)),
 oM 156 15,
 oO 157 (.idxP 8 1 (.t 12) (.c (.int .i64 1))),
 oO 158 (.load 1 false (.t 157)),
 oO 159 (.idxP 8 1 (.t 12) (.c (.int .i64 2))),
 oO 160 (.load 1 false (.t 159)),
 oO 161 (.idxP 8 1 (.t 12) (.c (.int .i64 3))),
 oO 162 (.load 1 false (.t 161)),
 oM 163 17,
 oO 164 (.bin .add (.t 162) (.t 163)),
 oM 165 14,
 oO 166 (.idxP 8 1 (.t 12) (.c (.int .i64 5))),
 oO 167 (.load 1 false (.t 166)),
 oO 168 (.idxP 8 1 (.t 12) (.c (.int .i64 6))),
 oO 169 (.load 1 false (.t 168)),
 oO 170 (.build [.int .u32 0, .int .u32 0, .int .u32 0, .int .u32 0, .int .u32 0, .int .u32 0, .int .u32 0, .int .u32 0] [(0, 1, .t 155), (1, 1, .t 156), (2, 1, .t 158), (3, 1, .t 160), (4, 1, .t 164), (5, 1, .t 165), (6, 1, .t 167), (7, 1, .t 169)]),
 oS 8 12 170]))))))))
 (.ops [
 oO 171 (.bin .add (.t 89) (.c (.int .i64 1))),
 oM 89 171])))))))
 (.seq (.ops [
 oO 172 (.mv (.c (.int .i64 0)))])
 (.block 6
 (.loop
 (.seq (.ops [
 oO 173 (.bin .lss (.t 172) (.c (.int .i64 8)))])
 (.seq (.cond (.t 173)
 .skip
 (.exit 6))
 (.seq (.block 7
 (.seq (.ops [
 oM 174 172,
 oM 20 174])
 (.draw [
 oM 175 20,
 oO 176 (.idxP 8 1 (.t 3) (.t 175)),
 oO 177 (.load 1 false (.t 176)),
 oM 178 20,
 oO 179 (.idxP 8 1 (.t 12) (.t 178)),
 oO 180 (.load 1 false (.t 179)),
 oO 181 (.bin .add (.t 177) (.t 180)),
 oO 182 (.idxP 8 1 (.t 3) (.t 175)),
 oS 1 182 181] ⟨.all, [], .look 0 (.look 1 (.look 2 (.look 3 (.look 4 (.look 5 (.look 6 (.look 7 (.run 8 false .done))))))))⟩)))
 (.ops [
 oO 183 (.bin .add (.t 172) (.c (.int .i64 1))),
 oM 172 183]))))))))))))
 (.ops [
 oM 30 5,
 oO 31 (.slice 1 (.t 30) (some (.c (.int .i64 64))) none none),
 oM 5 31]))))))
 (.seq (.ops [
 oO 21 (.alloc 1 32 [.int .u8 0])])
 (.seq (.seq (.ops [
 oO 184 (.mv (.c (.int .i64 0)))])
 (.block 8
 (.loop
 (.seq (.ops [
 oO 185 (.bin .lss (.t 184) (.c (.int .i64 32)))])
 (.seq (.cond (.t 185)
 .skip
 (.exit 8))
 (.seq (.block 9
 (.seq (.ops [
 oM 186 184,
 oM 22 186])
 (.ops [
 oM 187 22,
 oM 188 22,
 oO 189 (.bin .quo (.t 188) (.c (.int .i64 4))),
 oO 190 (.idxP 8 1 (.t 3) (.t 189)),
 oO 191 (.load 1 false (.t 190)),
 oM 192 22,
 oO 193 (.bin .rem (.t 192) (.c (.int .i64 4))),
 oO 194 (.bin .mul (.c (.int .i64 8)) (.t 193)),
 oO 195 (.bin .sub (.c (.int .i64 24)) (.t 194)),
 oO 196 (.bin .shr (.t 191) (.t 195)),
 oO 197 (.conv .u8 (.t 196)),
 oO 198 (.idxP 32 1 (.t 21) (.t 187)),
 oS 1 198 197])))
 (.ops [
 oO 199 (.bin .add (.t 184) (.c (.int .i64 1))),
 oM 184 199])))))))
 (.seq (.ops [
 oO 200 (.load 32 true (.t 21)),
 oS 32 2 200])
 .ret)))))))⟩
theorem K_sha_Sum : chkFun DK Pg Try.f11 A_sha_Sum = true := by kernel_rfl
theorem B_sha_Sum {args : List AV} {m : Mem} {K : AV → Mem → Prop} (h : vcFun DK Pg A_sha_Sum args m K) : ACall Pg F_sha_Sum args m K := call_body mixed Try.func11 (by kernel_rfl) K_sha_Sum h

noncomputable def A_witanref04_Sum256 : AFun := ⟨1, 208, [.cell 2 32 true],
 (.seq (.ops [
 oO 2 (.alloc 1 32 [.int .u8 0])])
 (.seq (.ops [
 oK 21 F_witanref04_k256 [],
 oO 3 (.alloc 1 64 [.int .u32 0]),
 oS 64 3 21])
 (.seq (.ops [
 oO 22 (.build [.int .u32 0, .int .u32 0, .int .u32 0, .int .u32 0, .int .u32 0, .int .u32 0, .int .u32 0, .int .u32 0] [(0, 1, .c (.int .u32 1779033703)), (1, 1, .c (.int .u32 3144134277)), (2, 1, .c (.int .u32 1013904242)), (3, 1, .c (.int .u32 2773480762)), (4, 1, .c (.int .u32 1359893119)), (5, 1, .c (.int .u32 2600822924)), (6, 1, .c (.int .u32 528734635)), (7, 1, .c (.int .u32 1541459225))]),
 oO 4 (.alloc 1 8 [.int .u32 0]),
 oS 8 4 22])
 (.seq (.ops [
 oM 23 0,
 oK 24 F_witanref04_padded [.t 23],
 oM 5 24])
 (.seq (.seq (.ops [
 oO 6 (.mv (.c (.int .i64 0)))])
 (.block 0
 (.loop
 (.seq (.seq (.ops [
 oM 25 6,
 oM 26 5,
 oO 27 (.len (.t 26)),
 oO 28 (.bin .lss (.t 25) (.t 27))])
 (.cond (.t 28)
 .skip
 (.exit 0)))
 (.seq (.block 1
 (.seq (.ops [
 oO 7 (.alloc 1 64 [.int .u32 0])])
 (.seq (.seq (.ops [
 oO 8 (.mv (.c (.int .i64 0)))])
 (.block 2
 (.loop
 (.seq (.seq (.ops [
 oM 31 8,
 oO 32 (.bin .lss (.t 31) (.c (.int .i64 64)))])
 (.cond (.t 32)
 .skip
 (.exit 2)))
 (.seq (.block 3
 (.seq (.seq (.ops [
 oM 35 8,
 oO 36 (.bin .lss (.t 35) (.c (.int .i64 16)))])
 (.cond (.t 36)
 (.seq (.seq (.ops [
 oO 9 (.mv (.c (.int .i64 0)))])
 (.block 4
 (.loop
 (.seq (.seq (.ops [
 oM 37 9,
 oO 38 (.bin .lss (.t 37) (.c (.int .i64 4)))])
 (.cond (.t 38)
 .skip
 (.exit 4)))
 (.seq (.block 5
 (.draw [
 oM 41 8,
 oM 42 8,
 oO 43 (.idxP 64 1 (.t 7) (.t 42)),
 oO 44 (.load 1 false (.t 43)),
 oO 45 (.bin .shl (.t 44) (.c (.int .u64 8))),
 oM 46 5,
 oM 47 6,
 oM 48 8,
 oO 49 (.bin .mul (.c (.int .i64 4)) (.t 48)),
 oO 50 (.bin .add (.t 47) (.t 49)),
 oM 51 9,
 oO 52 (.bin .add (.t 50) (.t 51)),
 oO 53 (.idxA 1 (.t 46) (.t 52)),
 oO 54 (.load 1 false (.t 53)),
 oO 55 (.conv .u32 (.t 54)),
 oO 56 (.bin .or (.t 45) (.t 55)),
 oO 57 (.idxP 64 1 (.t 7) (.t 41)),
 oS 1 57 56] ⟨.all, [], .look 0 (.look 1 (.look 2 (.look 3 (.look 4 (.look 5 (.look 6 (.look 7 (.look 8 (.look 9 (.look 10 (.look 11 (.look 12 (.look 13 (.look 14 (.look 15 (.look 16 (.run 17 false .done)))))))))))))))))⟩))
 (.ops [
 oM 39 9,
 oO 40 (.bin .add (.t 39) (.c (.int .i64 1))),
 oM 9 40]))))))
 (.exit 3))
 .skip))
 (.seq (.draw [
 oM 58 8,
 oO 59 (.bin .sub (.t 58) (.c (.int .i64 15))),
 oO 60 (.idxP 64 1 (.t 7) (.t 59)),
 oO 61 (.load 1 false (.t 60)),
 oM 62 8,
 oO 63 (.bin .sub (.t 62) (.c (.int .i64 2))),
 oO 64 (.idxP 64 1 (.t 7) (.t 63)),
 oO 65 (.load 1 false (.t 64)),
 oM 10 61,
 oM 11 65] ⟨.no, [], .flat⟩)
 (.draw [
 oM 66 8,
 oM 67 8,
 oO 68 (.bin .sub (.t 67) (.c (.int .i64 16))),
 oO 69 (.idxP 64 1 (.t 7) (.t 68)),
 oO 70 (.load 1 false (.t 69)),
 oM 71 8,
 oO 72 (.bin .sub (.t 71) (.c (.int .i64 7))),
 oO 73 (.idxP 64 1 (.t 7) (.t 72)),
 oO 74 (.load 1 false (.t 73)),
 oO 75 (.bin .add (.t 70) (.t 74)),
 oM 76 10,
 oK 77 F_witanref04_rot32 [.t 76, .c (.int .i64 7)],
 oM 78 10,
 oK 79 F_witanref04_rot32 [.t 78, .c (.int .i64 18)],
 oO 80 (.bin .xor (.t 77) (.t 79)),
 oM 81 10,
 oO 82 (.bin .shr (.t 81) (.c (.int .u64 3))),
 oO 83 (.bin .xor (.t 80) (.t 82)),
 oO 84 (.bin .add (.t 75) (.t 83)),
 oM 85 11,
 oK 86 F_witanref04_rot32 [.t 85, .c (.int .i64 17)],
 oM 87 11,
 oK 88 F_witanref04_rot32 [.t 87, .c (.int .i64 19)],
 oO 89 (.bin .xor (.t 86) (.t 88)),
 oM 90 11,
 oO 91 (.bin .shr (.t 90) (.c (.int .u64 10))),
 oO 92 (.bin .xor (.t 89) (.t 91)),
 oO 93 (.bin .add (.t 84) (.t 92)),
 oO 94 (.idxP 64 1 (.t 7) (.t 66)),
 oS 1 94 93] ⟨.all, [], .look 0 (.look 1 (.look 2 (.look 3 (.look 4 (.look 5 (.look 6 (.look 7 (.look 8 (.look 9 (.look 10 (.look 12 (.look 15 (.look 16 (.look 19 (.look 21 (.look 24 (.look 25 (.run 11 true (.run 13 true (.look 14 (.look 17 (.look 18 (.run 20 true (.run 22 true (.look 23 (.look 26 (.look 27 (.look 28 (.run 29 false .done)))))))))))))))))))))))))))))⟩))))
 (.ops [
 oM 33 8,
 oO 34 (.bin .add (.t 33) (.c (.int .i64 1))),
 oM 8 34]))))))
 (.seq (.ops [
 oO 95 (.load 8 true (.t 4)),
 oO 12 (.alloc 1 8 [.int .u32 0]),
 oS 8 12 95])
 (.seq (.seq (.ops [
 oO 13 (.mv (.c (.int .i64 0)))])
 (.block 6
 (.loop
 (.seq (.seq (.ops [
 oM 96 13,
 oO 97 (.bin .lss (.t 96) (.c (.int .i64 64)))])
 (.cond (.t 97)
 .skip
 (.exit 6)))
 (.seq (.block 7
 (.seq (.draw [
 oO 100 (.idxP 8 1 (.t 12) (.c (.int .i64 0))),
 oO 101 (.load 1 false (.t 100)),
 oO 102 (.idxP 8 1 (.t 12) (.c (.int .i64 4))),
 oO 103 (.load 1 false (.t 102)),
 oM 14 101,
 oM 15 103] ⟨.no, [], .flat⟩)
 (.seq (.draw [
 oO 104 (.idxP 8 1 (.t 12) (.c (.int .i64 7))),
 oO 105 (.load 1 false (.t 104)),
 oM 106 15,
 oK 107 F_witanref04_rot32 [.t 106, .c (.int .i64 6)],
 oM 108 15,
 oK 109 F_witanref04_rot32 [.t 108, .c (.int .i64 11)],
 oO 110 (.bin .xor (.t 107) (.t 109)),
 oM 111 15,
 oK 112 F_witanref04_rot32 [.t 111, .c (.int .i64 25)],
 oO 113 (.bin .xor (.t 110) (.t 112)),
 oO 114 (.bin .add (.t 105) (.t 113)),
 oM 115 15,
 oO 116 (.idxP 8 1 (.t 12) (.c (.int .i64 5))),
 oO 117 (.load 1 false (.t 116)),
 oO 118 (.bin .and (.t 115) (.t 117)),
 oM 119 15,
 oO 120 (.un .xor (.t 119)),
 oO 121 (.idxP 8 1 (.t 12) (.c (.int .i64 6))),
 oO 122 (.load 1 false (.t 121)),
 oO 123 (.bin .and (.t 120) (.t 122)),
 oO 124 (.bin .xor (.t 118) (.t 123)),
 oO 125 (.bin .add (.t 114) (.t 124)),
 oM 126 13,
 oO 127 (.idxP 64 1 (.t 3) (.t 126)),
 oO 128 (.load 1 false (.t 127)),
 oO 129 (.bin .add (.t 125) (.t 128)),
 oM 130 13,
 oO 131 (.idxP 64 1 (.t 7) (.t 130)),
 oO 132 (.load 1 false (.t 131)),
 oO 133 (.bin .add (.t 129) (.t 132)),
 oM 16 133] ⟨.all, [], .look 0 (.look 1 (.look 2 (.look 4 (.look 7 (.look 11 (.look 12 (.look 13 (.look 14 (.look 15 (.look 16 (.look 17 (.look 18 (.look 19 (.look 20 (.look 22 (.look 23 (.look 24 (.look 26 (.look 27 (.look 28 (.run 3 true (.run 5 true (.look 6 (.run 8 true (.look 9 (.look 10 (.look 21 (.look 25 (.look 29 (.look 30 .done))))))))))))))))))))))))))))))⟩)
 (.seq (.draw [
 oM 134 14,
 oK 135 F_witanref04_rot32 [.t 134, .c (.int .i64 2)],
 oM 136 14,
 oK 137 F_witanref04_rot32 [.t 136, .c (.int .i64 13)],
 oO 138 (.bin .xor (.t 135) (.t 137)),
 oM 139 14,
 oK 140 F_witanref04_rot32 [.t 139, .c (.int .i64 22)],
 oO 141 (.bin .xor (.t 138) (.t 140)),
 oM 142 14,
 oO 143 (.idxP 8 1 (.t 12) (.c (.int .i64 1))),
 oO 144 (.load 1 false (.t 143)),
 oO 145 (.bin .and (.t 142) (.t 144)),
 oM 146 14,
 oO 147 (.idxP 8 1 (.t 12) (.c (.int .i64 2))),
 oO 148 (.load 1 false (.t 147)),
 oO 149 (.bin .and (.t 146) (.t 148)),
 oO 150 (.bin .xor (.t 145) (.t 149)),
 oO 151 (.idxP 8 1 (.t 12) (.c (.int .i64 1))),
 oO 152 (.load 1 false (.t 151)),
 oO 153 (.idxP 8 1 (.t 12) (.c (.int .i64 2))),
 oO 154 (.load 1 false (.t 153)),
 oO 155 (.bin .and (.t 152) (.t 154)),
 oO 156 (.bin .xor (.t 150) (.t 155)),
 oO 157 (.bin .add (.t 141) (.t 156)),
 oM 17 157] ⟨.all, [], .look 0 (.look 2 (.look 5 (.look 8 (.look 9 (.look 10 (.look 11 (.look 12 (.look 13 (.look 14 (.look 15 (.look 16 (.look 17 (.look 18 (.look 19 (.look 20 (.look 21 (.look 22 (.run 1 true (.run 3 true (.look 4 (.run 6 true (.look 7 (.look 23 (.look 24 .done))))))))))))))))))))))))⟩)
 (.ops [
 oM 158 16,
 oM 159 17,
 oO 160 (.bin .add (.t 158) (.t 159)),
 oO 161 (.idxP 8 1 (.t 12) (.c (.int .i64 0))),
 oO 162 (.load 1 false (.t 161)),
 oO 163 (.idxP 8 1 (.t 12) (.c (.int .i64 1))),
 oO 164 (.load 1 false (.t 163)),
 oO 165 (.idxP 8 1 (.t 12) (.c (.int .i64 2))),
 oO 166 (.load 1 false (.t 165)),
 oO 167 (.idxP 8 1 (.t 12) (.c (.int .i64 3))),
 oO 168 (.load 1 false (.t 167)),
 oM 169 16,
 oO 170 (.bin .add (.t 168) (.t 169)),
 oO 171 (.idxP 8 1 (.t 12) (.c (.int .i64 4))),
 oO 172 (.load 1 false (.t 171)),
 oO 173 (.idxP 8 1 (.t 12) (.c (.int .i64 5))),
 oO 174 (.load 1 false (.t 173)),
 oO 175 (.idxP 8 1 (.t 12) (.c (.int .i64 6))),
 oO 176 (.load 1 false (.t 175)),
 oO 177 (.build [.int .u32 0, .int .u32 0, .int .u32 0, .int .u32 0, .int .u32 0, .int .u32 0, .int .u32 0, .int .u32 0] [(0, 1, .t 160), (1, 1, .t 162), (2, 1, .t 164), (3, 1, .t 166), (4, 1, .t 170), (5, 1, .t 172), (6, 1, .t 174), (7, 1, .t 176)]),
 oS 8 12 177])))))
 (.ops [
 oM 98 13,
 oO 99 (.bin .add (.t 98) (.c (.int .i64 1))),
 oM 13 99]))))))
 (.seq (.ops [
 oO 18 (.mv (.c (.int .i64 0)))])
 (.block 8
 (.loop
 (.seq (.seq (.ops [
 oM 178 18,
 oO 179 (.bin .lss (.t 178) (.c (.int .i64 8)))])
 (.cond (.t 179)
 .skip
 (.exit 8)))
 (.seq (.block 9
 (.draw [
 oM 182 18,
 oO 183 (.idxP 8 1 (.t 4) (.t 182)),
 oO 184 (.load 1 false (.t 183)),
 oM 185 18,
 oO 186 (.idxP 8 1 (.t 12) (.t 185)),
 oO 187 (.load 1 false (.t 186)),
 oO 188 (.bin .add (.t 184) (.t 187)),
 oO 189 (.idxP 8 1 (.t 4) (.t 182)),
 oS 1 189 188] ⟨.all, [], .look 0 (.look 1 (.look 2 (.look 3 (.look 4 (.look 5 (.look 6 (.look 7 (.run 8 false .done))))))))⟩))
 (.ops [
 oM 180 18,
 oO 181 (.bin .add (.t 180) (.c (.int .i64 1))),
 oM 18 181])))))))))))
 (.ops [
 oM 29 6,
 oO 30 (.bin .add (.t 29) (.c (.int .i64 64))),
 oM 6 30]))))))
 (.seq (.ops [
 oO 19 (.alloc 1 32 [.int .u8 0])])
 (.seq (.seq (.ops [
 oO 20 (.mv (.c (.int .i64 0)))])
 (.block 10
 (.loop
 (.seq (.seq (.ops [
 oM 190 20,
 oO 191 (.bin .lss (.t 190) (.c (.int .i64 32)))])
 (.cond (.t 191)
 .skip
 (.exit 10)))
 (.seq (.block 11
 (.ops [
 oM 194 20,
 oM 195 20,
 oO 196 (.bin .quo (.t 195) (.c (.int .i64 4))),
 oO 197 (.idxP 8 1 (.t 4) (.t 196)),
 oO 198 (.load 1 false (.t 197)),
 oM 199 20,
 oO 200 (.bin .rem (.t 199) (.c (.int .i64 4))),
 oO 201 (.bin .mul (.c (.int .i64 8)) (.t 200)),
 oO 202 (.bin .sub (.c (.int .i64 24)) (.t 201)),
 oO 203 (.conv .u64 (.t 202)),
 oO 204 (.bin .shr (.t 198) (.t 203)),
 oO 205 (.conv .u8 (.t 204)),
 oO 206 (.idxP 32 1 (.t 19) (.t 194)),
 oS 1 206 205]))
 (.ops [
 oM 192 20,
 oO 193 (.bin .add (.t 192) (.c (.int .i64 1))),
 oM 20 193]))))))
 (.seq (.ops [
 oO 207 (.load 32 true (.t 19)),
 oS 32 2 207])
 .ret))))))))⟩
theorem K_witanref04_Sum256 : chkFun DK Pg Try.f12 A_witanref04_Sum256 = true := by kernel_rfl
theorem B_witanref04_Sum256 {args : List AV} {m : Mem} {K : AV → Mem → Prop} (h : vcFun DK Pg A_witanref04_Sum256 args m K) : ACall Pg F_witanref04_Sum256 args m K := call_body mixed Try.func12 (by kernel_rfl) K_witanref04_Sum256 h

noncomputable def A_witankeep_Bytes : AFun := ⟨2, 26, [.t 4],
 (.seq (.ops [
 oO 4 (.mv (.c (.bool false)))])
 (.seq (.seq (.ops [
 oM 6 0,
 oO 7 (.len (.t 6)),
 oM 8 1,
 oO 9 (.len (.t 8)),
 oO 10 (.bin .neq (.t 7) (.t 9))])
 (.cond (.t 10)
 (.seq (.ops [
 oO 4 (.mv (.c (.bool false)))])
 .ret)
 .skip))
 (.seq (.seq (.ops [
 oO 5 (.mv (.c (.int .i64 0)))])
 (.block 0
 (.loop
 (.seq (.seq (.ops [
 oM 11 5,
 oM 12 0,
 oO 13 (.len (.t 12)),
 oO 14 (.bin .lss (.t 11) (.t 13))])
 (.cond (.t 14)
 .skip
 (.exit 0)))
 (.seq (.block 1
 (.seq (.draw [
 oM 17 0,
 oM 18 5,
 oO 19 (.idxA 1 (.t 17) (.t 18)),
 oO 20 (.load 1 false (.t 19)),
 oM 21 1,
 oM 22 5,
 oO 23 (.idxA 1 (.t 21) (.t 22)),
 oO 24 (.load 1 false (.t 23)),
 oO 25 (.bin .neq (.t 20) (.t 24))] ⟨.no, [], .flat⟩)
 (.cond (.t 25)
 (.seq (.ops [
 oO 4 (.mv (.c (.bool false)))])
 .ret)
 .skip)))
 (.ops [
 oM 15 5,
 oO 16 (.bin .add (.t 15) (.c (.int .i64 1))),
 oM 5 16]))))))
 (.seq (.ops [
 oO 4 (.mv (.c (.bool true)))])
 .ret))))⟩
theorem K_witankeep_Bytes : chkFun DK Pg Try.f15 A_witankeep_Bytes = true := by kernel_rfl
theorem B_witankeep_Bytes {args : List AV} {m : Mem} {K : AV → Mem → Prop} (h : vcFun DK Pg A_witankeep_Bytes args m K) : ACall Pg F_witankeep_Bytes args m K := call_body mixed Try.func15 (by kernel_rfl) K_witankeep_Bytes h

noncomputable def A_block_Read : AFun := ⟨1, 58, [.cell 2 32 true, .cell 3 4 true, .t 4],
 (.seq (.ops [
 oO 2 (.alloc 1 32 [.int .u8 0]),
 oO 3 (.alloc 4 1 [.int .i64 0, .int .i64 0, .int .i64 0, .nils]),
 oO 4 (.mv (.c (.int .i64 0)))])
 (.seq (.ops [
 oM 6 0,
 oO 7 (.build [.nils, .int .i64 0, .bool false] [(0, 1, .t 6)]),
 oO 8 (.box 3 1 (.t 7)),
 oM 5 8])
 (.seq (.ops [
 oM 9 5,
 oK 10 F_Pblock_reader_num [.t 9, .c (.int .i64 4)],
 oM 11 5,
 oK 12 F_Pblock_reader_num [.t 11, .c (.int .i64 4)],
 oO 13 (.fldA 1 (.t 3)),
 ⟨none, .stA 4 1 1 (.t 13) (.t 10), none⟩,
 oO 14 (.fldA 2 (.t 3)),
 ⟨none, .stA 4 1 1 (.t 14) (.t 12), none⟩])
 (.seq (.ops [
 oM 15 5,
 oK 16 F_Pblock_reader_hash [.t 15],
 oS 32 2 16])
 (.seq (.seq (.ops [
 oM 17 5,
 oK 18 F_Pblock_reader_num [.t 17, .c (.int .i64 1)],
 oO 19 (.mv (.c (.int .i64 0)))])
 (.block 0
 (.loop
 (.seq (.ops [
 oO 20 (.bin .lss (.t 19) (.t 18))])
 (.seq (.cond (.t 20)
 .skip
 (.exit 0))
 (.seq (.block 1
 (.seq (.seq (.ops [
 oM 21 5,
 oO 22 (.nck (.t 21)),
 oO 23 (.fldA 2 (.t 22)),
 oO 24 (.load 1 false (.t 23))])
 (.cond (.t 24)
 (.exit 0)
 .skip))
 (.draw [
 oO 25 (.fldA 3 (.t 3)),
 oO 26 (.load 1 false (.t 25)),
 oM 27 5,
 oK 28 F_Pblock_reader_num [.t 27, .c (.int .i64 1)],
 oM 29 5,
 oK 30 F_Pblock_reader_part [.t 29],
 oO 31 (.build [.int .i64 0, .nils] [(0, 1, .t 28), (1, 1, .t 30)]),
 oO 32 (.bsl 2 1 [.int .i64 0, .nils] [(0, 2, .t 31)]),
 oO 33 (.app 2 32 (.t 26) (.t 32)),
 oO 34 (.fldA 3 (.t 3)),
 ⟨none, .stA 4 1 1 (.t 34) (.t 33), none⟩] ⟨(.but [5]), [], .look 0 (.look 1 (.look 2 (.look 4 (.run 3 true (.run 5 true (.run 6 true (.run 7 true (.run 8 false (.look 9 (.run 10 false .done))))))))))⟩)))
 (.ops [
 oO 35 (.bin .add (.t 19) (.c (.int .i64 1))),
 oM 19 35])))))))
 (.seq (.seq (.ops [
 oM 36 5,
 oO 37 (.nck (.t 36)),
 oO 38 (.fldA 2 (.t 37)),
 oO 39 (.load 1 false (.t 38)),
 oM 40 39,
 oG 41 (.mv (.t 5)) 40 false,
 oG 42 (.nck (.t 41)) 40 false,
 oG 43 (.fldA 1 (.t 42)) 40 false,
 oG 44 (.load 1 false (.t 43)) 40 false,
 oG 45 (.mv (.t 0)) 40 false,
 oG 46 (.len (.t 45)) 40 false,
 oG 47 (.bin .neq (.t 44) (.t 46)) 40 false,
 oO 48 (.pick (.t 40) (.c (.bool true)) (.t 47)),
 oM 49 48,
 oG 50 (.load 4 true (.t 3)) 49 false,
 oG 51 (.call (.c (.fn F_block_Check [])) [.t 50]) 49 false,
 oG 52 (.bin .neq (.t 51) (.c (.int .i64 0))) 49 false,
 oO 53 (.pick (.t 49) (.c (.bool true)) (.t 52))])
 (.cond (.t 53)
 (.seq (.ops [
 oO 54 (.build (List.replicate 32 (.int .u8 0)) []),
 oO 55 (.build [.int .i64 0, .int .i64 0, .int .i64 0, .nils] []),
 oS 32 2 54,
 ⟨none, .stA 4 1 4 (.t 3) (.t 55), none⟩,
 oO 4 (.mv (.c (.int .i64 7)))])
 .ret)
 .skip))
 (.seq (.draw [
 oO 56 (.load 32 true (.t 2)),
 oO 57 (.load 4 true (.t 3)),
 oS 32 2 56,
 ⟨none, .stA 4 1 4 (.t 3) (.t 57), none⟩,
 oO 4 (.mv (.c (.int .i64 0)))] ⟨(.but [2]), [], .look 1 (.run 0 true (.run 2 true (.run 3 false (.look 4 .done))))⟩)
 .ret)))))))⟩
theorem K_block_Read : chkFun DK Pg Try.f17 A_block_Read = true := by kernel_rfl
theorem B_block_Read {args : List AV} {m : Mem} {K : AV → Mem → Prop} (h : vcFun DK Pg A_block_Read args m K) : ACall Pg F_block_Read args m K := call_body mixed Try.func17 (by kernel_rfl) K_block_Read h

noncomputable def A_witanref16_Read : AFun := ⟨1, 87, [.cell 2 32 true, .cell 3 4 true, .t 4],
 (.seq (.ops [
 oO 2 (.alloc 1 32 [.int .u8 0]),
 oO 3 (.alloc 4 1 [.int .i64 0, .int .i64 0, .int .i64 0, .nils]),
 oO 4 (.mv (.c (.bool false)))])
 (.seq (.ops [
 oO 5 (.alloc 1 32 [.int .u8 0])])
 (.seq (.ops [
 oO 6 (.alloc 4 1 [.int .i64 0, .int .i64 0, .int .i64 0, .nils])])
 (.seq (.seq (.ops [
 oM 12 0,
 oO 13 (.len (.t 12)),
 oO 14 (.bin .lss (.t 13) (.c (.int .i64 41)))])
 (.cond (.t 14)
 (.seq (.ops [
 oO 15 (.load 32 true (.t 5)),
 oO 16 (.build [.int .i64 0, .int .i64 0, .int .i64 0, .nils] []),
 oS 32 2 15,
 ⟨none, .stA 4 1 4 (.t 3) (.t 16), none⟩,
 oO 4 (.mv (.c (.bool false)))])
 .ret)
 .skip))
 (.seq (.ops [
 oM 18 0,
 oK 19 F_witanref10_Get [.t 18, .c (.int .i64 0), .c (.int .i64 4)],
 oM 17 19,
 oO 20 (.ext (.t 17) 0),
 oO 21 (.ext (.t 17) 1),
 oO 22 (.ext (.t 17) 2),
 oO 23 (.fldA 1 (.t 6)),
 ⟨none, .stA 4 1 1 (.t 23) (.t 20), none⟩])
 (.seq (.ops [
 oM 25 0,
 oK 26 F_witanref10_Get [.t 25, .c (.int .i64 4), .c (.int .i64 4)],
 oM 24 26,
 oO 27 (.ext (.t 24) 0),
 oO 28 (.ext (.t 24) 1),
 oO 29 (.ext (.t 24) 2),
 oO 30 (.fldA 2 (.t 6)),
 ⟨none, .stA 4 1 1 (.t 30) (.t 27), none⟩])
 (.seq (.draw [
 oO 31 (.slarr 32 1 (.t 5) none none none),
 oM 32 0,
 oO 33 (.slice 1 (.t 32) (some (.c (.int .i64 8))) (some (.c (.int .i64 40))) none),
 oO 34 (.copy 1 (.t 31) (.t 33))] ⟨.all, [], .look 0 (.look 1 (.look 2 (.run 3 false .done)))⟩)
 (.seq (.ops [
 oO 7 (.mv (.c (.int .i64 41)))])
 (.seq (.seq (.ops [
 oO 8 (.mv (.c (.int .i64 0)))])
 (.block 0
 (.loop
 (.seq (.seq (.ops [
 oM 35 8,
 oM 36 0,
 oO 37 (.idxA 1 (.t 36) (.c (.int .i64 40))),
 oO 38 (.load 1 false (.t 37)),
 oO 39 (.conv .i64 (.t 38)),
 oO 40 (.bin .lss (.t 35) (.t 39))])
 (.cond (.t 40)
 .skip
 (.exit 0)))
 (.seq (.block 1
 (.seq (.seq (.ops [
 oM 43 7,
 oM 44 0,
 oO 45 (.len (.t 44)),
 oO 46 (.bin .geq (.t 43) (.t 45))])
 (.cond (.t 46)
 (.seq (.ops [
 oO 47 (.build (List.replicate 32 (.int .u8 0)) []),
 oO 48 (.build [.int .i64 0, .int .i64 0, .int .i64 0, .nils] []),
 oS 32 2 47,
 ⟨none, .stA 4 1 4 (.t 3) (.t 48), none⟩,
 oO 4 (.mv (.c (.bool false)))])
 .ret)
 .skip))
 (.seq (.ops [
 oM 50 0,
 oM 51 7,
 oO 52 (.bin .add (.t 51) (.c (.int .i64 1))),
 oK 53 F_witanref10_GetPart [.t 50, .t 52],
 oM 49 53,
 oO 54 (.ext (.t 49) 0),
 oO 55 (.ext (.t 49) 1),
 oO 56 (.ext (.t 49) 2),
 oM 9 54,
 oM 10 55,
 oM 11 56])
 (.seq (.seq (.ops [
 oM 57 11,
 oO 58 (.bin .neq (.t 57) (.c (.int .i64 0)))])
 (.cond (.t 58)
 (.seq (.ops [
 oO 59 (.build (List.replicate 32 (.int .u8 0)) []),
 oO 60 (.build [.int .i64 0, .int .i64 0, .int .i64 0, .nils] []),
 oS 32 2 59,
 ⟨none, .stA 4 1 4 (.t 3) (.t 60), none⟩,
 oO 4 (.mv (.c (.bool false)))])
 .ret)
 .skip))
 (.seq (.draw [
 oO 61 (.fldA 3 (.t 6)),
 oO 62 (.load 1 false (.t 61)),
 oM 63 0,
 oM 64 7,
 oO 65 (.idxA 1 (.t 63) (.t 64)),
 oO 66 (.load 1 false (.t 65)),
 oO 67 (.conv .i64 (.t 66)),
 oM 68 9,
 oO 69 (.build [.int .i64 0, .nils] [(0, 1, .t 67), (1, 1, .t 68)]),
 oO 70 (.bsl 2 1 [.int .i64 0, .nils] [(0, 2, .t 69)]),
 oO 71 (.app 2 32 (.t 62) (.t 70)),
 oO 72 (.fldA 3 (.t 6)),
 ⟨none, .stA 4 1 1 (.t 72) (.t 71), none⟩] ⟨.all, [], .look 0 (.look 1 (.look 2 (.look 3 (.look 4 (.look 5 (.look 6 (.look 7 (.run 8 true (.run 9 true (.run 10 false (.look 11 (.run 12 false .done))))))))))))⟩)
 (.ops [
 oM 73 10,
 oM 7 73]))))))
 (.ops [
 oM 41 8,
 oO 42 (.bin .add (.t 41) (.c (.int .i64 1))),
 oM 8 42]))))))
 (.seq (.seq (.ops [
 oM 74 7,
 oM 75 0,
 oO 76 (.len (.t 75)),
 oO 77 (.bin .neq (.t 74) (.t 76)),
 oM 78 77,
 oG 79 (.load 4 true (.t 6)) 78 false,
 oG 80 (.call (.c (.fn F_witanref16_Check [])) [.t 79]) 78 false,
 oG 81 (.bin .neq (.t 80) (.c (.int .i64 0))) 78 false,
 oO 82 (.pick (.t 78) (.c (.bool true)) (.t 81))])
 (.cond (.t 82)
 (.seq (.ops [
 oO 83 (.build (List.replicate 32 (.int .u8 0)) []),
 oO 84 (.build [.int .i64 0, .int .i64 0, .int .i64 0, .nils] []),
 oS 32 2 83,
 ⟨none, .stA 4 1 4 (.t 3) (.t 84), none⟩,
 oO 4 (.mv (.c (.bool false)))])
 .ret)
 .skip))
 (.seq (.draw [
 oO 85 (.load 32 true (.t 5)),
 oO 86 (.load 4 true (.t 6)),
 oS 32 2 85,
 ⟨none, .stA 4 1 4 (.t 3) (.t 86), none⟩,
 oO 4 (.mv (.c (.bool true)))] ⟨(.but [2]), [], .look 0 (.look 1 (.run 2 true (.run 3 false (.look 4 .done))))⟩)
 .ret)))))))))))⟩
theorem K_witanref16_Read : chkFun DK Pg Try.f18 A_witanref16_Read = true := by kernel_rfl
theorem B_witanref16_Read {args : List AV} {m : Mem} {K : AV → Mem → Prop} (h : vcFun DK Pg A_witanref16_Read args m K) : ACall Pg F_witanref16_Read args m K := call_body mixed Try.func18 (by kernel_rfl) K_witanref16_Read h

noncomputable def A_witankeep_Block : AFun := ⟨2, 31, [.t 4],
 (.seq (.ops [
 oO 2 (.box 4 1 (.t 0)),
 oO 3 (.box 4 1 (.t 1)),
 oO 4 (.mv (.c (.bool false)))])
 (.seq (.ops [
 oO 5 (.fldA 0 (.t 2)),
 oO 6 (.load 1 false (.t 5)),
 oO 7 (.fldA 0 (.t 3)),
 oO 8 (.load 1 false (.t 7)),
 oO 9 (.bin .eql (.t 6) (.t 8)),
 oM 10 9,
 oG 11 (.fldA 1 (.t 2)) 10 true,
 oG 12 (.load 1 false (.t 11)) 10 true,
 oG 13 (.fldA 1 (.t 3)) 10 true,
 oG 14 (.load 1 false (.t 13)) 10 true,
 oG 15 (.bin .eql (.t 12) (.t 14)) 10 true,
 oO 16 (.pick (.t 10) (.t 15) (.c (.bool false))),
 oM 17 16,
 oG 18 (.fldA 2 (.t 2)) 17 true,
 oG 19 (.load 1 false (.t 18)) 17 true,
 oG 20 (.fldA 2 (.t 3)) 17 true,
 oG 21 (.load 1 false (.t 20)) 17 true,
 oG 22 (.bin .eql (.t 19) (.t 21)) 17 true,
 oO 23 (.pick (.t 17) (.t 22) (.c (.bool false))),
 oM 24 23,
 oG 25 (.fldA 3 (.t 2)) 24 true,
 oG 26 (.load 1 false (.t 25)) 24 true,
 oG 27 (.fldA 3 (.t 3)) 24 true,
 oG 28 (.load 1 false (.t 27)) 24 true,
 oG 29 (.call (.c (.fn F_witankeep_Txs [])) [.t 26, .t 28]) 24 true,
 oO 30 (.pick (.t 24) (.t 29) (.c (.bool false))),
 oM 4 30])
 .ret))⟩
theorem K_witankeep_Block : chkFun DK Pg Try.f19 A_witankeep_Block = true := by kernel_rfl
theorem B_witankeep_Block {args : List AV} {m : Mem} {K : AV → Mem → Prop} (h : vcFun DK Pg A_witankeep_Block args m K) : ACall Pg F_witankeep_Block args m K := call_body mixed Try.func19 (by kernel_rfl) K_witankeep_Block h

noncomputable def A_witanlaw16_wakes : AFun := ⟨0, 28, [.t 0],
 (.seq (.ops [
 oO 0 (.mv (.c (.bool false)))])
 (.seq (.ops [
 oO 4 (.build (List.replicate 32 (.int .u8 0)) [(0, 1, .c (.int .u8 1))]),
 oO 5 (.build [.int .i64 0, .int .i64 0, .int .i64 0, .nils] [(0, 1, .c (.int .i64 (-1))), (1, 1, .c (.int .i64 1))]),
 oK 6 F_block_Bytes [.t 4, .t 5],
 oM 3 6,
 oO 7 (.ext (.t 3) 0),
 oO 8 (.ext (.t 3) 1),
 oM 1 7,
 oM 2 8])
 (.seq (.ops [
 oM 9 2,
 oO 10 (.bin .eql (.t 9) (.c (.int .i64 0))),
 oM 11 10,
 oG 12 (.mv (.t 1)) 11 true,
 oG 13 (.len (.t 12)) 11 true,
 oG 14 (.bin .eql (.t 13) (.c (.int .i64 41))) 11 true,
 oO 15 (.pick (.t 11) (.t 14) (.c (.bool false))),
 oM 16 15,
 oG 17 (.mv (.t 1)) 16 true,
 oG 18 (.idxA 1 (.t 17) (.c (.int .i64 3))) 16 true,
 oG 19 (.load 1 false (.t 18)) 16 true,
 oG 20 (.bin .eql (.t 19) (.c (.int .u8 1))) 16 true,
 oO 21 (.pick (.t 16) (.t 20) (.c (.bool false))),
 oM 22 21,
 oG 23 (.mv (.t 1)) 22 true,
 oG 24 (.idxA 1 (.t 23) (.c (.int .i64 8))) 22 true,
 oG 25 (.load 1 false (.t 24)) 22 true,
 oG 26 (.bin .eql (.t 25) (.c (.int .u8 1))) 22 true,
 oO 27 (.pick (.t 22) (.t 26) (.c (.bool false))),
 oM 0 27])
 .ret)))⟩
theorem K_witanlaw16_wakes : chkFun DK Pg Try.f20 A_witanlaw16_wakes = true := by kernel_rfl
theorem B_witanlaw16_wakes {args : List AV} {m : Mem} {K : AV → Mem → Prop} (h : vcFun DK Pg A_witanlaw16_wakes args m K) : ACall Pg F_witanlaw16_wakes args m K := call_body mixed Try.func20 (by kernel_rfl) K_witanlaw16_wakes h

noncomputable def A_block_Bytes : AFun := ⟨2, 63, [.t 4, .t 5],
 (.seq (.ops [
 oO 2 (.box 1 32 (.t 0)),
 oO 3 (.box 4 1 (.t 1)),
 oO 4 (.mv (.c (.nils))),
 oO 5 (.mv (.c (.int .i64 0)))])
 (.seq (.ops [
 oO 11 (.load 4 true (.t 3)),
 oK 12 F_block_Check [.t 11],
 oM 6 12])
 (.seq (.seq (.ops [
 oM 13 6,
 oO 14 (.bin .neq (.t 13) (.c (.int .i64 0)))])
 (.cond (.t 14)
 (.seq (.ops [
 oM 15 6,
 oO 4 (.mv (.c (.nils))),
 oM 5 15])
 .ret)
 .skip))
 (.seq (.ops [
 oO 17 (.fldA 1 (.t 3)),
 oO 18 (.load 1 false (.t 17)),
 oK 19 F_bin_Put [.c (.nils), .t 18, .c (.int .i64 4)],
 oM 16 19,
 oO 20 (.ext (.t 16) 0),
 oO 21 (.ext (.t 16) 1),
 oM 7 20,
 oM 8 21])
 (.seq (.ops [
 oM 23 7,
 oO 24 (.fldA 2 (.t 3)),
 oO 25 (.load 1 false (.t 24)),
 oK 26 F_bin_Put [.t 23, .t 25, .c (.int .i64 4)],
 oM 22 26,
 oO 27 (.ext (.t 22) 0),
 oO 28 (.ext (.t 22) 1),
 oM 7 27])
 (.seq (.ops [
 oM 29 7,
 oO 30 (.slarr 32 1 (.t 2) none none none),
 oO 31 (.app 1 1 (.t 29) (.t 30)),
 oM 7 31])
 (.seq (.ops [
 oM 33 7,
 oO 34 (.fldA 3 (.t 3)),
 oO 35 (.load 1 false (.t 34)),
 oO 36 (.len (.t 35)),
 oK 37 F_bin_Put [.t 33, .t 36, .c (.int .i64 1)],
 oM 32 37,
 oO 38 (.ext (.t 32) 0),
 oO 39 (.ext (.t 32) 1),
 oM 7 38])
 (.seq (.seq (.ops [
 oO 40 (.fldA 3 (.t 3)),
 oO 41 (.load 1 false (.t 40)),
 oO 42 (.len (.t 41)),
 oO 43 (.mv (.c (.int .i64 0)))])
 (.block 0
 (.loop
 (.seq (.ops [
 oO 44 (.bin .lss (.t 43) (.t 42))])
 (.seq (.cond (.t 44)
 .skip
 (.exit 0))
 (.seq (.block 1
 (.seq (.ops [
 oO 45 (.idxA 2 (.t 41) (.t 43)),
 oO 46 (.load 2 true (.t 45)),
 oO 10 (.alloc 2 1 [.int .i64 0, .nils]),
 ⟨none, .stA 2 1 2 (.t 10) (.t 46), none⟩])
 (.seq (.ops [
 oM 48 7,
 oO 49 (.fldA 0 (.t 10)),
 oO 50 (.load 1 false (.t 49)),
 oK 51 F_bin_Put [.t 48, .t 50, .c (.int .i64 1)],
 oM 47 51,
 oO 52 (.ext (.t 47) 0),
 oO 53 (.ext (.t 47) 1),
 oM 7 52])
 (.ops [
 oM 55 7,
 oO 56 (.fldA 1 (.t 10)),
 oO 57 (.load 1 false (.t 56)),
 oK 58 F_bin_PutPart [.t 55, .t 57],
 oM 54 58,
 oO 59 (.ext (.t 54) 0),
 oO 60 (.ext (.t 54) 1),
 oM 7 59]))))
 (.ops [
 oO 61 (.bin .add (.t 43) (.c (.int .i64 1))),
 oM 43 61])))))))
 (.seq (.ops [
 oM 62 7,
 oM 4 62,
 oO 5 (.mv (.c (.int .i64 0)))])
 .ret)))))))))⟩
theorem K_block_Bytes : chkFun DK Pg Try.f21 A_block_Bytes = true := by kernel_rfl
theorem B_block_Bytes {args : List AV} {m : Mem} {K : AV → Mem → Prop} (h : vcFun DK Pg A_block_Bytes args m K) : ACall Pg F_block_Bytes args m K := call_body mixed Try.func21 (by kernel_rfl) K_block_Bytes h

noncomputable def A_witanlaw16_Heavy : AFun := ⟨1, 23, [.t 2],
 (.seq (.ops [
 oO 1 (.box 4 1 (.t 0)),
 oO 2 (.mv (.c (.bool false)))])
 (.seq (.seq (.ops [
 oO 4 (.fldA 3 (.t 1)),
 oO 5 (.load 1 false (.t 4)),
 oO 6 (.len (.t 5)),
 oO 7 (.bin .gtr (.t 6) (.c (.int .i64 40)))])
 (.cond (.t 7)
 (.seq (.ops [
 oO 2 (.mv (.c (.bool true)))])
 .ret)
 .skip))
 (.seq (.seq (.ops [
 oO 3 (.mv (.c (.int .i64 0)))])
 (.block 0
 (.loop
 (.seq (.seq (.ops [
 oM 8 3,
 oO 9 (.fldA 3 (.t 1)),
 oO 10 (.load 1 false (.t 9)),
 oO 11 (.len (.t 10)),
 oO 12 (.bin .lss (.t 8) (.t 11))])
 (.cond (.t 12)
 .skip
 (.exit 0)))
 (.seq (.block 1
 (.seq (.ops [
 oO 15 (.fldA 3 (.t 1)),
 oO 16 (.load 1 false (.t 15)),
 oM 17 3,
 oO 18 (.idxA 2 (.t 16) (.t 17)),
 oO 19 (.fldA 1 (.t 18)),
 oO 20 (.load 1 false (.t 19)),
 oO 21 (.len (.t 20)),
 oO 22 (.bin .gtr (.t 21) (.c (.int .i64 1000)))])
 (.cond (.t 22)
 (.seq (.ops [
 oO 2 (.mv (.c (.bool true)))])
 .ret)
 .skip)))
 (.ops [
 oM 13 3,
 oO 14 (.bin .add (.t 13) (.c (.int .i64 1))),
 oM 3 14]))))))
 (.seq (.ops [
 oO 2 (.mv (.c (.bool false)))])
 .ret))))⟩
theorem K_witanlaw16_Heavy : chkFun DK Pg Try.f22 A_witanlaw16_Heavy = true := by kernel_rfl
theorem B_witanlaw16_Heavy {args : List AV} {m : Mem} {K : AV → Mem → Prop} (h : vcFun DK Pg A_witanlaw16_Heavy args m K) : ACall Pg F_witanlaw16_Heavy args m K := call_body mixed Try.func22 (by kernel_rfl) K_witanlaw16_Heavy h

noncomputable def A_block_Hash : AFun := ⟨2, 20, [.cell 4 32 true, .t 5],
 (.seq (.ops [
 oO 2 (.box 1 32 (.t 0)),
 oO 3 (.box 4 1 (.t 1)),
 oO 4 (.alloc 1 32 [.int .u8 0]),
 oO 5 (.mv (.c (.int .i64 0)))])
 (.seq (.ops [
 oO 9 (.load 32 true (.t 2)),
 oO 10 (.load 4 true (.t 3)),
 oK 11 F_block_Bytes [.t 9, .t 10],
 oM 8 11,
 oO 12 (.ext (.t 8) 0),
 oO 13 (.ext (.t 8) 1),
 oM 6 12,
 oM 7 13])
 (.seq (.seq (.ops [
 oM 14 7,
 oO 15 (.bin .neq (.t 14) (.c (.int .i64 0)))])
 (.cond (.t 15)
 (.seq (.ops [
 oO 16 (.build (List.replicate 32 (.int .u8 0)) []),
 oM 17 7,
 oS 32 4 16,
 oM 5 17])
 .ret)
 .skip))
 (.seq (.ops [
 oM 18 6,
 oK 19 F_sha_Sum [.t 18],
 oS 32 4 19,
 oO 5 (.mv (.c (.int .i64 0)))])
 .ret))))⟩
theorem K_block_Hash : chkFun DK Pg Try.f23 A_block_Hash = true := by kernel_rfl
theorem B_block_Hash {args : List AV} {m : Mem} {K : AV → Mem → Prop} (h : vcFun DK Pg A_block_Hash args m K) : ACall Pg F_block_Hash args m K := call_body mixed Try.func23 (by kernel_rfl) K_block_Hash h

noncomputable def A_witankeep_TwinBlock : AFun := ⟨1, 8, [.cell 2 4 true],
 (.seq (.ops [
 oO 1 (.box 4 1 (.t 0)),
 oO 2 (.alloc 4 1 [.int .i64 0, .int .i64 0, .int .i64 0, .nils])])
 (.seq (.ops [
 oO 3 (.fldA 3 (.t 1)),
 oO 4 (.load 1 false (.t 3)),
 oK 5 F_witankeep_TwinTxs [.t 4],
 oO 6 (.fldA 3 (.t 1)),
 ⟨none, .stA 4 1 1 (.t 6) (.t 5), none⟩])
 (.seq (.ops [
 oO 7 (.load 4 true (.t 1)),
 ⟨none, .stA 4 1 4 (.t 2) (.t 7), none⟩])
 .ret)))⟩
theorem K_witankeep_TwinBlock : chkFun DK Pg Try.f24 A_witankeep_TwinBlock = true := by kernel_rfl
theorem B_witankeep_TwinBlock {args : List AV} {m : Mem} {K : AV → Mem → Prop} (h : vcFun DK Pg A_witankeep_TwinBlock args m K) : ACall Pg F_witankeep_TwinBlock args m K := call_body mixed Try.func24 (by kernel_rfl) K_witankeep_TwinBlock h

noncomputable def A_witanref16_Check : AFun := ⟨1, 73, [.t 2],
 (.seq (.ops [
 oO 1 (.box 4 1 (.t 0)),
 oO 2 (.mv (.c (.int .i64 0)))])
 (.seq (.ops [
 oO 6 (.fldA 0 (.t 1)),
 oO 7 (.load 1 false (.t 6)),
 oO 8 (.bin .geq (.t 7) (.c (.int .i64 (-1)))),
 oM 9 8,
 oG 10 (.fldA 1 (.t 1)) 9 true,
 oG 11 (.load 1 false (.t 10)) 9 true,
 oG 12 (.bin .geq (.t 11) (.c (.int .i64 1))) 9 true,
 oO 13 (.pick (.t 9) (.t 12) (.c (.bool false))),
 oM 14 13,
 oG 15 (.fldA 1 (.t 1)) 14 true,
 oG 16 (.load 1 false (.t 15)) 14 true,
 oG 17 (.bin .leq (.t 16) (.c (.int .i64 1048576))) 14 true,
 oO 18 (.pick (.t 14) (.t 17) (.c (.bool false))),
 oM 19 18,
 oG 20 (.fldA 2 (.t 1)) 19 true,
 oG 21 (.load 1 false (.t 20)) 19 true,
 oG 22 (.bin .geq (.t 21) (.c (.int .i64 0))) 19 true,
 oO 23 (.pick (.t 19) (.t 22) (.c (.bool false))),
 oM 24 23,
 oG 25 (.fldA 2 (.t 1)) 24 true,
 oG 26 (.load 1 false (.t 25)) 24 true,
 oG 27 (.bin .leq (.t 26) (.c (.int .i64 1073741824))) 24 true,
 oO 28 (.pick (.t 24) (.t 27) (.c (.bool false))),
 oM 3 28])
 (.seq (.ops [
 oO 29 (.fldA 3 (.t 1)),
 oO 30 (.load 1 false (.t 29)),
 oO 31 (.len (.t 30)),
 oO 32 (.bin .gtr (.t 31) (.c (.int .i64 32))),
 oM 4 32])
 (.seq (.seq (.ops [
 oO 5 (.mv (.c (.int .i64 0)))])
 (.block 0
 (.loop
 (.seq (.seq (.ops [
 oM 33 5,
 oO 34 (.fldA 3 (.t 1)),
 oO 35 (.load 1 false (.t 34)),
 oO 36 (.len (.t 35)),
 oO 37 (.bin .lss (.t 33) (.t 36))])
 (.cond (.t 37)
 .skip
 (.exit 0)))
 (.seq (.block 1
 (.seq (.ops [
 oM 40 3,
 oM 41 40,
 oG 42 (.fldA 3 (.t 1)) 41 true,
 oG 43 (.load 1 false (.t 42)) 41 true,
 oG 44 (.mv (.t 5)) 41 true,
 oG 45 (.idxA 2 (.t 43) (.t 44)) 41 true,
 oG 46 (.fldA 0 (.t 45)) 41 true,
 oG 47 (.load 1 false (.t 46)) 41 true,
 oG 48 (.bin .geq (.t 47) (.c (.int .i64 0))) 41 true,
 oO 49 (.pick (.t 41) (.t 48) (.c (.bool false))),
 oM 50 49,
 oG 51 (.fldA 3 (.t 1)) 50 true,
 oG 52 (.load 1 false (.t 51)) 50 true,
 oG 53 (.mv (.t 5)) 50 true,
 oG 54 (.idxA 2 (.t 52) (.t 53)) 50 true,
 oG 55 (.fldA 0 (.t 54)) 50 true,
 oG 56 (.load 1 false (.t 55)) 50 true,
 oG 57 (.bin .lss (.t 56) (.c (.int .i64 16))) 50 true,
 oO 58 (.pick (.t 50) (.t 57) (.c (.bool false))),
 oM 3 58])
 (.ops [
 oM 59 4,
 oM 60 59,
 oG 61 (.fldA 3 (.t 1)) 60 false,
 oG 62 (.load 1 false (.t 61)) 60 false,
 oG 63 (.mv (.t 5)) 60 false,
 oG 64 (.idxA 2 (.t 62) (.t 63)) 60 false,
 oG 65 (.fldA 1 (.t 64)) 60 false,
 oG 66 (.load 1 false (.t 65)) 60 false,
 oG 67 (.len (.t 66)) 60 false,
 oG 68 (.bin .gtr (.t 67) (.c (.int .i64 16384))) 60 false,
 oO 69 (.pick (.t 60) (.c (.bool true)) (.t 68)),
 oM 4 69])))
 (.ops [
 oM 38 5,
 oO 39 (.bin .add (.t 38) (.c (.int .i64 1))),
 oM 5 39]))))))
 (.seq (.seq (.ops [
 oM 70 3,
 oO 71 (.un .not (.t 70))])
 (.cond (.t 71)
 (.seq (.ops [
 oO 2 (.mv (.c (.int .i64 1)))])
 .ret)
 .skip))
 (.seq (.seq (.ops [
 oM 72 4])
 (.cond (.t 72)
 (.seq (.ops [
 oO 2 (.mv (.c (.int .i64 4)))])
 .ret)
 .skip))
 (.seq (.ops [
 oO 2 (.mv (.c (.int .i64 0)))])
 .ret)))))))⟩
theorem K_witanref16_Check : chkFun DK Pg Try.f25 A_witanref16_Check = true := by kernel_rfl
theorem B_witanref16_Check {args : List AV} {m : Mem} {K : AV → Mem → Prop} (h : vcFun DK Pg A_witanref16_Check args m K) : ACall Pg F_witanref16_Check args m K := call_body mixed Try.func25 (by kernel_rfl) K_witanref16_Check h

noncomputable def A_block_Check : AFun := ⟨1, 57, [.t 2],
 (.seq (.ops [
 oO 1 (.box 4 1 (.t 0)),
 oO 2 (.mv (.c (.int .i64 0)))])
 (.seq (.seq (.ops [
 oO 6 (.fldA 0 (.t 1)),
 oO 7 (.load 1 false (.t 6)),
 oO 8 (.bin .lss (.t 7) (.c (.int .i64 (-1)))),
 oM 9 8,
 oG 10 (.fldA 1 (.t 1)) 9 false,
 oG 11 (.load 1 false (.t 10)) 9 false,
 oG 12 (.bin .lss (.t 11) (.c (.int .i64 1))) 9 false,
 oO 13 (.pick (.t 9) (.c (.bool true)) (.t 12)),
 oM 14 13,
 oG 15 (.fldA 1 (.t 1)) 14 false,
 oG 16 (.load 1 false (.t 15)) 14 false,
 oG 17 (.bin .gtr (.t 16) (.c (.int .i64 1048576))) 14 false,
 oO 18 (.pick (.t 14) (.c (.bool true)) (.t 17)),
 oM 19 18,
 oG 20 (.fldA 2 (.t 1)) 19 false,
 oG 21 (.load 1 false (.t 20)) 19 false,
 oG 22 (.bin .lss (.t 21) (.c (.int .i64 0))) 19 false,
 oO 23 (.pick (.t 19) (.c (.bool true)) (.t 22)),
 oM 24 23,
 oG 25 (.fldA 2 (.t 1)) 24 false,
 oG 26 (.load 1 false (.t 25)) 24 false,
 oG 27 (.bin .gtr (.t 26) (.c (.int .i64 1073741824))) 24 false,
 oO 28 (.pick (.t 24) (.c (.bool true)) (.t 27))])
 (.cond (.t 28)
 (.seq (.ops [
 oO 2 (.mv (.c (.int .i64 1)))])
 .ret)
 .skip))
 (.seq (.ops [
 oO 29 (.fldA 3 (.t 1)),
 oO 30 (.load 1 false (.t 29)),
 oO 31 (.len (.t 30)),
 oO 32 (.bin .gtr (.t 31) (.c (.int .i64 32))),
 oM 3 32])
 (.seq (.seq (.ops [
 oO 33 (.fldA 3 (.t 1)),
 oO 34 (.load 1 false (.t 33)),
 oO 35 (.len (.t 34)),
 oO 36 (.mv (.c (.int .i64 0)))])
 (.block 0
 (.loop
 (.seq (.ops [
 oO 37 (.bin .lss (.t 36) (.t 35))])
 (.seq (.cond (.t 37)
 .skip
 (.exit 0))
 (.seq (.block 1
 (.seq (.ops [
 oO 38 (.idxA 2 (.t 34) (.t 36)),
 oO 39 (.load 2 true (.t 38)),
 oO 5 (.alloc 2 1 [.int .i64 0, .nils]),
 ⟨none, .stA 2 1 2 (.t 5) (.t 39), none⟩])
 (.seq (.seq (.ops [
 oO 40 (.fldA 0 (.t 5)),
 oO 41 (.load 1 false (.t 40)),
 oO 42 (.bin .lss (.t 41) (.c (.int .i64 0))),
 oM 43 42,
 oG 44 (.fldA 0 (.t 5)) 43 false,
 oG 45 (.load 1 false (.t 44)) 43 false,
 oG 46 (.bin .geq (.t 45) (.c (.int .i64 16))) 43 false,
 oO 47 (.pick (.t 43) (.c (.bool true)) (.t 46))])
 (.cond (.t 47)
 (.seq (.ops [
 oO 2 (.mv (.c (.int .i64 1)))])
 .ret)
 .skip))
 (.ops [
 oM 48 3,
 oM 49 48,
 oG 50 (.fldA 1 (.t 5)) 49 false,
 oG 51 (.load 1 false (.t 50)) 49 false,
 oG 52 (.len (.t 51)) 49 false,
 oG 53 (.bin .gtr (.t 52) (.c (.int .i64 16384))) 49 false,
 oO 54 (.pick (.t 49) (.c (.bool true)) (.t 53)),
 oM 3 54]))))
 (.ops [
 oO 55 (.bin .add (.t 36) (.c (.int .i64 1))),
 oM 36 55])))))))
 (.seq (.seq (.ops [
 oM 56 3])
 (.cond (.t 56)
 (.seq (.ops [
 oO 2 (.mv (.c (.int .i64 4)))])
 .ret)
 .skip))
 (.seq (.ops [
 oO 2 (.mv (.c (.int .i64 0)))])
 .ret))))))⟩
theorem K_block_Check : chkFun DK Pg Try.f26 A_block_Check = true := by kernel_rfl
theorem B_block_Check {args : List AV} {m : Mem} {K : AV → Mem → Prop} (h : vcFun DK Pg A_block_Check args m K) : ACall Pg F_block_Check args m K := call_body mixed Try.func26 (by kernel_rfl) K_block_Check h

noncomputable def A_witanref16_Bytes : AFun := ⟨2, 60, [.t 4],
 (.seq (.ops [
 oO 2 (.box 1 32 (.t 0)),
 oO 3 (.box 4 1 (.t 1)),
 oO 4 (.mv (.c (.nils)))])
 (.seq (.ops [
 oO 9 (.fldA 1 (.t 3)),
 oO 10 (.load 1 false (.t 9)),
 oK 11 F_witanref10_Put [.c (.nils), .t 10, .c (.int .i64 4)],
 oM 8 11,
 oO 12 (.ext (.t 8) 0),
 oO 13 (.ext (.t 8) 1),
 oM 5 12,
 oM 6 13])
 (.seq (.ops [
 oM 15 5,
 oO 16 (.fldA 2 (.t 3)),
 oO 17 (.load 1 false (.t 16)),
 oK 18 F_witanref10_Put [.t 15, .t 17, .c (.int .i64 4)],
 oM 14 18,
 oO 19 (.ext (.t 14) 0),
 oO 20 (.ext (.t 14) 1),
 oM 5 19])
 (.seq (.ops [
 oM 21 5,
 oO 22 (.slarr 32 1 (.t 2) none none none),
 oO 23 (.app 1 1 (.t 21) (.t 22)),
 oM 5 23])
 (.seq (.ops [
 oM 24 5,
 oO 25 (.fldA 3 (.t 3)),
 oO 26 (.load 1 false (.t 25)),
 oO 27 (.len (.t 26)),
 oO 28 (.conv .u8 (.t 27)),
 oO 29 (.bsl 1 1 [.int .u8 0] [(0, 1, .t 28)]),
 oO 30 (.app 1 1 (.t 24) (.t 29)),
 oM 5 30])
 (.seq (.seq (.ops [
 oO 7 (.mv (.c (.int .i64 0)))])
 (.block 0
 (.loop
 (.seq (.seq (.ops [
 oM 31 7,
 oO 32 (.fldA 3 (.t 3)),
 oO 33 (.load 1 false (.t 32)),
 oO 34 (.len (.t 33)),
 oO 35 (.bin .lss (.t 31) (.t 34))])
 (.cond (.t 35)
 .skip
 (.exit 0)))
 (.seq (.block 1
 (.seq (.ops [
 oM 38 5,
 oO 39 (.fldA 3 (.t 3)),
 oO 40 (.load 1 false (.t 39)),
 oM 41 7,
 oO 42 (.idxA 2 (.t 40) (.t 41)),
 oO 43 (.fldA 0 (.t 42)),
 oO 44 (.load 1 false (.t 43)),
 oO 45 (.conv .u8 (.t 44)),
 oO 46 (.bsl 1 1 [.int .u8 0] [(0, 1, .t 45)]),
 oO 47 (.app 1 1 (.t 38) (.t 46)),
 oM 5 47])
 (.ops [
 oM 49 5,
 oO 50 (.fldA 3 (.t 3)),
 oO 51 (.load 1 false (.t 50)),
 oM 52 7,
 oO 53 (.idxA 2 (.t 51) (.t 52)),
 oO 54 (.fldA 1 (.t 53)),
 oO 55 (.load 1 false (.t 54)),
 oK 56 F_witanref10_PutPart [.t 49, .t 55],
 oM 48 56,
 oO 57 (.ext (.t 48) 0),
 oO 58 (.ext (.t 48) 1),
 oM 5 57])))
 (.ops [
 oM 36 7,
 oO 37 (.bin .add (.t 36) (.c (.int .i64 1))),
 oM 7 37]))))))
 (.seq (.ops [
 oM 59 5,
 oM 4 59])
 .ret)))))))⟩
theorem K_witanref16_Bytes : chkFun DK Pg Try.f27 A_witanref16_Bytes = true := by kernel_rfl
theorem B_witanref16_Bytes {args : List AV} {m : Mem} {K : AV → Mem → Prop} (h : vcFun DK Pg A_witanref16_Bytes args m K) : ACall Pg F_witanref16_Bytes args m K := call_body mixed Try.func27 (by kernel_rfl) K_witanref16_Bytes h

noncomputable def A_witanref16_Hash : AFun := ⟨2, 9, [.cell 4 32 true],
 (.seq (.ops [
 oO 2 (.box 1 32 (.t 0)),
 oO 3 (.box 4 1 (.t 1)),
 oO 4 (.alloc 1 32 [.int .u8 0])])
 (.seq (.ops [
 oO 5 (.load 32 true (.t 2)),
 oO 6 (.load 4 true (.t 3)),
 oK 7 F_witanref16_Bytes [.t 5, .t 6],
 oK 8 F_witanref04_Sum256 [.t 7],
 oS 32 4 8])
 .ret))⟩
theorem K_witanref16_Hash : chkFun DK Pg Try.f28 A_witanref16_Hash = true := by kernel_rfl
theorem B_witanref16_Hash {args : List AV} {m : Mem} {K : AV → Mem → Prop} (h : vcFun DK Pg A_witanref16_Hash args m K) : ACall Pg F_witanref16_Hash args m K := call_body mixed Try.func28 (by kernel_rfl) K_witanref16_Hash h

noncomputable def A_sha_rounds : AFun := ⟨0, 2, [.t 0],
 (.seq (.ops [
 oO 0 (.mv (.c (.nils)))])
 (.seq (.ops [
 oO 1 (.bsl 1 64 [.int .u32 0] [(0, 1, .c (.int .u32 1116352408)), (1, 1, .c (.int .u32 1899447441)), (2, 1, .c (.int .u32 3049323471)), (3, 1, .c (.int .u32 3921009573)), (4, 1, .c (.int .u32 961987163)), (5, 1, .c (.int .u32 1508970993)), (6, 1, .c (.int .u32 2453635748)), (7, 1, .c (.int .u32 2870763221)), (8, 1, .c (.int .u32 3624381080)), (9, 1, .c (.int .u32 310598401)), (10, 1, .c (.int .u32 607225278)), (11, 1, .c (.int .u32 1426881987)), (12, 1, .c (.int .u32 1925078388)), (13, 1, .c (.int .u32 2162078206)), (14, 1, .c (.int .u32 2614888103)), (15, 1, .c (.int .u32 3248222580)), (16, 1, .c (.int .u32 3835390401)), (17, 1, .c (.int .u32 4022224774)), (18, 1, .c (.int .u32 264347078)), (19, 1, .c (.int .u32 604807628)), (20, 1, .c (.int .u32 770255983)), (21, 1, .c (.int .u32 1249150122)), (22, 1, .c (.int .u32 1555081692)), (23, 1, .c (.int .u32 1996064986)), (24, 1, .c (.int .u32 2554220882)), (25, 1, .c (.int .u32 2821834349)), (26, 1, .c (.int .u32 2952996808)), (27, 1, .c (.int .u32 3210313671)), (28, 1, .c (.int .u32 3336571891)), (29, 1, .c (.int .u32 3584528711)), (30, 1, .c (.int .u32 113926993)), (31, 1, .c (.int .u32 338241895)), (32, 1, .c (.int .u32 666307205)), (33, 1, .c (.int .u32 773529912)), (34, 1, .c (.int .u32 1294757372)), (35, 1, .c (.int .u32 1396182291)), (36, 1, .c (.int .u32 1695183700)), (37, 1, .c (.int .u32 1986661051)), (38, 1, .c (.int .u32 2177026350)), (39, 1, .c (.int .u32 2456956037)), (40, 1, .c (.int .u32 2730485921)), (41, 1, .c (.int .u32 2820302411)), (42, 1, .c (.int .u32 3259730800)), (43, 1, .c (.int .u32 3345764771)), (44, 1, .c (.int .u32 3516065817)), (45, 1, .c (.int .u32 3600352804)), (46, 1, .c (.int .u32 4094571909)), (47, 1, .c (.int .u32 275423344)), (48, 1, .c (.int .u32 430227734)), (49, 1, .c (.int .u32 506948616)), (50, 1, .c (.int .u32 659060556)), (51, 1, .c (.int .u32 883997877)), (52, 1, .c (.int .u32 958139571)), (53, 1, .c (.int .u32 1322822218)), (54, 1, .c (.int .u32 1537002063)), (55, 1, .c (.int .u32 1747873779)), (56, 1, .c (.int .u32 1955562222)), (57, 1, .c (.int .u32 2024104815)), (58, 1, .c (.int .u32 2227730452)), (59, 1, .c (.int .u32 2361852424)), (60, 1, .c (.int .u32 2428436474)), (61, 1, .c (.int .u32 2756734187)), (62, 1, .c (.int .u32 3204031479)), (63, 1, .c (.int .u32 3329325298))]),
 oM 0 1])
 .ret))⟩
theorem K_sha_rounds : chkFun DK Pg Try.f32 A_sha_rounds = true := by kernel_rfl
theorem B_sha_rounds {args : List AV} {m : Mem} {K : AV → Mem → Prop} (h : vcFun DK Pg A_sha_rounds args m K) : ACall Pg F_sha_rounds args m K := call_body mixed Try.func32 (by kernel_rfl) K_sha_rounds h

noncomputable def A_sha_padded : AFun := ⟨1, 35, [.t 2],
 (.seq (.ops [
 oO 2 (.mv (.c (.nils)))])
 (.seq (.ops [
 oO 6 (.bsl 1 0 [.int .u8 0] []),
 oM 7 0,
 oO 8 (.app 1 1 (.t 6) (.t 7)),
 oO 9 (.bsl 1 1 [.int .u8 0] [(0, 1, .c (.int .u8 128))]),
 oO 10 (.app 1 1 (.t 8) (.t 9)),
 oM 3 10])
 (.seq (.block 0
 (.loop
 (.seq (.seq (.ops [
 oM 11 3,
 oO 12 (.len (.t 11)),
 oO 13 (.bin .rem (.t 12) (.c (.int .i64 64))),
 oO 14 (.bin .neq (.t 13) (.c (.int .i64 56)))])
 (.cond (.t 14)
 .skip
 (.exit 0)))
 (.block 1
 (.ops [
 oM 15 3,
 oO 16 (.bsl 1 1 [.int .u8 0] [(0, 1, .c (.int .u8 0))]),
 oO 17 (.app 1 1 (.t 15) (.t 16)),
 oM 3 17])))))
 (.seq (.ops [
 oM 18 0,
 oO 19 (.len (.t 18)),
 oO 20 (.conv .u64 (.t 19)),
 oO 21 (.bin .shl (.t 20) (.c (.int .u64 3))),
 oM 4 21])
 (.seq (.seq (.ops [
 oO 5 (.mv (.c (.int .i64 7)))])
 (.block 2
 (.loop
 (.seq (.seq (.ops [
 oM 22 5,
 oO 23 (.bin .geq (.t 22) (.c (.int .i64 0)))])
 (.cond (.t 23)
 .skip
 (.exit 2)))
 (.seq (.block 3
 (.ops [
 oM 26 3,
 oM 27 4,
 oM 28 5,
 oO 29 (.bin .mul (.c (.int .i64 8)) (.t 28)),
 oO 30 (.bin .shr (.t 27) (.t 29)),
 oO 31 (.conv .u8 (.t 30)),
 oO 32 (.bsl 1 1 [.int .u8 0] [(0, 1, .t 31)]),
 oO 33 (.app 1 1 (.t 26) (.t 32)),
 oM 3 33]))
 (.ops [
 oM 24 5,
 oO 25 (.bin .sub (.t 24) (.c (.int .i64 1))),
 oM 5 25]))))))
 (.seq (.ops [
 oM 34 3,
 oM 2 34])
 .ret))))))⟩
theorem K_sha_padded : chkFun DK Pg Try.f33 A_sha_padded = true := by kernel_rfl
theorem B_sha_padded {args : List AV} {m : Mem} {K : AV → Mem → Prop} (h : vcFun DK Pg A_sha_padded args m K) : ACall Pg F_sha_padded args m K := call_body mixed Try.func33 (by kernel_rfl) K_sha_padded h

noncomputable def A_sha_high : AFun := ⟨1, 19, [.t 2],
 (.seq (.ops [
 oO 2 (.mv (.c (.int .u64 0)))])
 (.seq (.ops [
 oO 3 (.mv (.c (.int .u64 0)))])
 (.seq (.seq (.ops [
 oM 6 0,
 oO 7 (.len (.t 6)),
 oO 8 (.mv (.c (.int .i64 0)))])
 (.block 0
 (.loop
 (.seq (.ops [
 oO 9 (.bin .lss (.t 8) (.t 7))])
 (.seq (.cond (.t 9)
 .skip
 (.exit 0))
 (.seq (.block 1
 (.seq (.ops [
 oO 10 (.idxA 1 (.t 6) (.t 8)),
 oO 11 (.load 1 false (.t 10)),
 oM 5 11])
 (.ops [
 oM 12 3,
 oO 13 (.bin .shl (.t 12) (.c (.int .u64 8))),
 oM 14 5,
 oO 15 (.conv .u64 (.t 14)),
 oO 16 (.bin .or (.t 13) (.t 15)),
 oM 3 16])))
 (.ops [
 oO 17 (.bin .add (.t 8) (.c (.int .i64 1))),
 oM 8 17])))))))
 (.seq (.ops [
 oM 18 3,
 oM 2 18])
 .ret))))⟩
theorem K_sha_high : chkFun DK Pg Try.f34 A_sha_high = true := by kernel_rfl
theorem B_sha_high {args : List AV} {m : Mem} {K : AV → Mem → Prop} (h : vcFun DK Pg A_sha_high args m K) : ACall Pg F_sha_high args m K := call_body mixed Try.func34 (by kernel_rfl) K_sha_high h

noncomputable def A_bits_RotateLeft32 : AFun := ⟨2, 17, [.t 4],
 (.seq (.ops [
 oO 4 (.mv (.c (.int .u32 0)))])
 (.seq (.ops [
 oM 6 1,
 oO 7 (.conv .u64 (.t 6)),
 oO 8 (.bin .and (.t 7) (.c (.int .u64 31))),
 oM 5 8])
 (.seq (.ops [
 oM 9 0,
 oM 10 5,
 oO 11 (.bin .shl (.t 9) (.t 10)),
 oM 12 0,
 oM 13 5,
 oO 14 (.bin .sub (.c (.int .u64 32)) (.t 13)),
 oO 15 (.bin .shr (.t 12) (.t 14)),
 oO 16 (.bin .or (.t 11) (.t 15)),
 oM 4 16])
 .ret)))⟩
theorem K_bits_RotateLeft32 : chkFun DK Pg Try.f35 A_bits_RotateLeft32 = true := by kernel_rfl
theorem B_bits_RotateLeft32 {args : List AV} {m : Mem} {K : AV → Mem → Prop} (h : vcFun DK Pg A_bits_RotateLeft32 args m K) : ACall Pg F_bits_RotateLeft32 args m K := call_body mixed Try.func35 (by kernel_rfl) K_bits_RotateLeft32 h

noncomputable def A_witanref04_k256 : AFun := ⟨0, 2, [.cell 0 64 true],
 (.seq (.ops [
 oO 0 (.alloc 1 64 [.int .u32 0])])
 (.seq (.ops [
 oO 1 (.build (List.replicate 64 (.int .u32 0)) [(0, 1, .c (.int .u32 1116352408)), (1, 1, .c (.int .u32 1899447441)), (2, 1, .c (.int .u32 3049323471)), (3, 1, .c (.int .u32 3921009573)), (4, 1, .c (.int .u32 961987163)), (5, 1, .c (.int .u32 1508970993)), (6, 1, .c (.int .u32 2453635748)), (7, 1, .c (.int .u32 2870763221)), (8, 1, .c (.int .u32 3624381080)), (9, 1, .c (.int .u32 310598401)), (10, 1, .c (.int .u32 607225278)), (11, 1, .c (.int .u32 1426881987)), (12, 1, .c (.int .u32 1925078388)), (13, 1, .c (.int .u32 2162078206)), (14, 1, .c (.int .u32 2614888103)), (15, 1, .c (.int .u32 3248222580)), (16, 1, .c (.int .u32 3835390401)), (17, 1, .c (.int .u32 4022224774)), (18, 1, .c (.int .u32 264347078)), (19, 1, .c (.int .u32 604807628)), (20, 1, .c (.int .u32 770255983)), (21, 1, .c (.int .u32 1249150122)), (22, 1, .c (.int .u32 1555081692)), (23, 1, .c (.int .u32 1996064986)), (24, 1, .c (.int .u32 2554220882)), (25, 1, .c (.int .u32 2821834349)), (26, 1, .c (.int .u32 2952996808)), (27, 1, .c (.int .u32 3210313671)), (28, 1, .c (.int .u32 3336571891)), (29, 1, .c (.int .u32 3584528711)), (30, 1, .c (.int .u32 113926993)), (31, 1, .c (.int .u32 338241895)), (32, 1, .c (.int .u32 666307205)), (33, 1, .c (.int .u32 773529912)), (34, 1, .c (.int .u32 1294757372)), (35, 1, .c (.int .u32 1396182291)), (36, 1, .c (.int .u32 1695183700)), (37, 1, .c (.int .u32 1986661051)), (38, 1, .c (.int .u32 2177026350)), (39, 1, .c (.int .u32 2456956037)), (40, 1, .c (.int .u32 2730485921)), (41, 1, .c (.int .u32 2820302411)), (42, 1, .c (.int .u32 3259730800)), (43, 1, .c (.int .u32 3345764771)), (44, 1, .c (.int .u32 3516065817)), (45, 1, .c (.int .u32 3600352804)), (46, 1, .c (.int .u32 4094571909)), (47, 1, .c (.int .u32 275423344)), (48, 1, .c (.int .u32 430227734)), (49, 1, .c (.int .u32 506948616)), (50, 1, .c (.int .u32 659060556)), (51, 1, .c (.int .u32 883997877)), (52, 1, .c (.int .u32 958139571)), (53, 1, .c (.int .u32 1322822218)), (54, 1, .c (.int .u32 1537002063)), (55, 1, .c (.int .u32 1747873779)), (56, 1, .c (.int .u32 1955562222)), (57, 1, .c (.int .u32 2024104815)), (58, 1, .c (.int .u32 2227730452)), (59, 1, .c (.int .u32 2361852424)), (60, 1, .c (.int .u32 2428436474)), (61, 1, .c (.int .u32 2756734187)), (62, 1, .c (.int .u32 3204031479)), (63, 1, .c (.int .u32 3329325298))]),
 oS 64 0 1])
 .ret))⟩
theorem K_witanref04_k256 : chkFun DK Pg Try.f36 A_witanref04_k256 = true := by kernel_rfl
theorem B_witanref04_k256 {args : List AV} {m : Mem} {K : AV → Mem → Prop} (h : vcFun DK Pg A_witanref04_k256 args m K) : ACall Pg F_witanref04_k256 args m K := call_body mixed Try.func36 (by kernel_rfl) K_witanref04_k256 h

noncomputable def A_witanref04_padded : AFun := ⟨1, 37, [.t 2],
 (.seq (.ops [
 oO 2 (.mv (.c (.nils)))])
 (.seq (.ops [
 oO 3 (.mv (.c (.nils)))])
 (.seq (.ops [
 oM 6 3,
 oM 7 0,
 oO 8 (.app 1 1 (.t 6) (.t 7)),
 oO 9 (.bsl 1 1 [.int .u8 0] [(0, 1, .c (.int .u8 128))]),
 oO 10 (.app 1 1 (.t 8) (.t 9)),
 oM 3 10])
 (.seq (.block 0
 (.loop
 (.seq (.seq (.ops [
 oM 11 3,
 oO 12 (.len (.t 11)),
 oO 13 (.bin .add (.t 12) (.c (.int .i64 8))),
 oO 14 (.bin .rem (.t 13) (.c (.int .i64 64))),
 oO 15 (.bin .neq (.t 14) (.c (.int .i64 0)))])
 (.cond (.t 15)
 .skip
 (.exit 0)))
 (.block 1
 (.ops [
 oM 16 3,
 oO 17 (.bsl 1 1 [.int .u8 0] [(0, 1, .c (.int .u8 0))]),
 oO 18 (.app 1 1 (.t 16) (.t 17)),
 oM 3 18])))))
 (.seq (.ops [
 oM 19 0,
 oO 20 (.len (.t 19)),
 oO 21 (.conv .u64 (.t 20)),
 oO 22 (.bin .mul (.t 21) (.c (.int .u64 8))),
 oM 4 22])
 (.seq (.seq (.ops [
 oO 5 (.mv (.c (.int .i64 7)))])
 (.block 2
 (.loop
 (.seq (.seq (.ops [
 oM 23 5,
 oO 24 (.bin .geq (.t 23) (.c (.int .i64 0)))])
 (.cond (.t 24)
 .skip
 (.exit 2)))
 (.seq (.block 3
 (.ops [
 oM 27 3,
 oM 28 4,
 oM 29 5,
 oO 30 (.conv .u64 (.t 29)),
 oO 31 (.bin .mul (.c (.int .u64 8)) (.t 30)),
 oO 32 (.bin .shr (.t 28) (.t 31)),
 oO 33 (.conv .u8 (.t 32)),
 oO 34 (.bsl 1 1 [.int .u8 0] [(0, 1, .t 33)]),
 oO 35 (.app 1 1 (.t 27) (.t 34)),
 oM 3 35]))
 (.ops [
 oM 25 5,
 oO 26 (.bin .sub (.t 25) (.c (.int .i64 1))),
 oM 5 26]))))))
 (.seq (.ops [
 oM 36 3,
 oM 2 36])
 .ret)))))))⟩
theorem K_witanref04_padded : chkFun DK Pg Try.f37 A_witanref04_padded = true := by kernel_rfl
theorem B_witanref04_padded {args : List AV} {m : Mem} {K : AV → Mem → Prop} (h : vcFun DK Pg A_witanref04_padded args m K) : ACall Pg F_witanref04_padded args m K := call_body mixed Try.func37 (by kernel_rfl) K_witanref04_padded h

noncomputable def A_witanref04_rot32 : AFun := ⟨2, 9, [.t 4],
 (.seq (.ops [
 oO 4 (.mv (.c (.int .u32 0)))])
 (.seq (.ops [
 oM 5 0,
 oM 6 1,
 oO 7 (.un .neg (.t 6)),
 oK 8 F_bits_RotateLeft32 [.t 5, .t 7],
 oM 4 8])
 .ret))⟩
theorem K_witanref04_rot32 : chkFun DK Pg Try.f38 A_witanref04_rot32 = true := by kernel_rfl
theorem B_witanref04_rot32 {args : List AV} {m : Mem} {K : AV → Mem → Prop} (h : vcFun DK Pg A_witanref04_rot32 args m K) : ACall Pg F_witanref04_rot32 args m K := call_body mixed Try.func38 (by kernel_rfl) K_witanref04_rot32 h

noncomputable def A_Pblock_reader_num : AFun := ⟨2, 38, [.t 4],
 (.seq (.ops [
 oO 4 (.mv (.c (.int .i64 0)))])
 (.seq (.draw [
 oM 9 0,
 oO 10 (.nck (.t 9)),
 oO 11 (.fldA 0 (.t 10)),
 oO 12 (.load 1 false (.t 11)),
 oM 13 0,
 oO 14 (.nck (.t 13)),
 oO 15 (.fldA 1 (.t 14)),
 oO 16 (.load 1 false (.t 15)),
 oM 17 1,
 oK 18 F_bin_Get [.t 12, .t 16, .t 17],
 oM 8 18,
 oO 19 (.ext (.t 8) 0),
 oO 20 (.ext (.t 8) 1),
 oO 21 (.ext (.t 8) 2),
 oM 5 19,
 oM 6 20,
 oM 7 21] ⟨.all, [], .look 0 (.look 1 (.look 2 (.look 4 (.look 5 (.look 6 (.look 7 (.look 8 (.run 3 true (.run 9 false (.look 10 (.look 11 (.look 12 (.look 13 (.look 14 (.look 15 (.look 16 .done))))))))))))))))⟩)
 (.seq (.seq (.ops [
 oM 22 0,
 oO 23 (.nck (.t 22)),
 oO 24 (.fldA 2 (.t 23)),
 oO 25 (.load 1 false (.t 24)),
 oM 26 25,
 oG 27 (.mv (.t 7)) 26 false,
 oG 28 (.bin .neq (.t 27) (.c (.int .i64 0))) 26 false,
 oO 29 (.pick (.t 26) (.c (.bool true)) (.t 28))])
 (.cond (.t 29)
 (.seq (.ops [
 oM 30 0,
 oO 31 (.nck (.t 30)),
 oO 32 (.fldA 2 (.t 31)),
 ⟨none, .store 1 (.t 32) (.c (.bool true)), none⟩])
 (.seq (.ops [
 oO 4 (.mv (.c (.int .i64 0)))])
 .ret))
 .skip))
 (.seq (.ops [
 oM 33 0,
 oM 34 6,
 oO 35 (.nck (.t 33)),
 oO 36 (.fldA 1 (.t 35)),
 oS 1 36 34])
 (.seq (.ops [
 oM 37 5,
 oM 4 37])
 .ret)))))⟩
theorem K_Pblock_reader_num : chkFun DK Pg Try.f40 A_Pblock_reader_num = true := by kernel_rfl
theorem B_Pblock_reader_num {args : List AV} {m : Mem} {K : AV → Mem → Prop} (h : vcFun DK Pg A_Pblock_reader_num args m K) : ACall Pg F_Pblock_reader_num args m K := call_body mixed Try.func40 (by kernel_rfl) K_Pblock_reader_num h

noncomputable def A_Pblock_reader_hash : AFun := ⟨1, 43, [.cell 2 32 true],
 (.seq (.ops [
 oO 2 (.alloc 1 32 [.int .u8 0])])
 (.seq (.seq (.draw [
 oM 3 0,
 oO 4 (.nck (.t 3)),
 oO 5 (.fldA 2 (.t 4)),
 oO 6 (.load 1 false (.t 5)),
 oM 7 6,
 oG 8 (.mv (.t 0)) 7 false,
 oG 9 (.nck (.t 8)) 7 false,
 oG 10 (.fldA 0 (.t 9)) 7 false,
 oG 11 (.load 1 false (.t 10)) 7 false,
 oG 12 (.len (.t 11)) 7 false,
 oG 13 (.mv (.t 0)) 7 false,
 oG 14 (.nck (.t 13)) 7 false,
 oG 15 (.fldA 1 (.t 14)) 7 false,
 oG 16 (.load 1 false (.t 15)) 7 false,
 oG 17 (.bin .sub (.t 12) (.t 16)) 7 false,
 oG 18 (.bin .lss (.t 17) (.c (.int .i64 32))) 7 false,
 oO 19 (.pick (.t 7) (.c (.bool true)) (.t 18))] ⟨.no, [], .flat⟩)
 (.cond (.t 19)
 (.seq (.ops [
 oM 20 0,
 oO 21 (.nck (.t 20)),
 oO 22 (.fldA 2 (.t 21)),
 ⟨none, .store 1 (.t 22) (.c (.bool true)), none⟩])
 (.seq (.ops [
 oO 23 (.build (List.replicate 32 (.int .u8 0)) []),
 oS 32 2 23])
 .ret))
 .skip))
 (.seq (.ops [
 oM 24 0,
 oO 25 (.nck (.t 24)),
 oO 26 (.fldA 1 (.t 25)),
 oO 27 (.load 1 false (.t 26)),
 oO 28 (.bin .add (.t 27) (.c (.int .i64 32))),
 oO 29 (.nck (.t 24)),
 oO 30 (.fldA 1 (.t 29)),
 oS 1 30 28])
 (.seq (.draw [
 oM 31 0,
 oO 32 (.nck (.t 31)),
 oO 33 (.fldA 0 (.t 32)),
 oO 34 (.load 1 false (.t 33)),
 oM 35 0,
 oO 36 (.nck (.t 35)),
 oO 37 (.fldA 1 (.t 36)),
 oO 38 (.load 1 false (.t 37)),
 oO 39 (.bin .sub (.t 38) (.c (.int .i64 32))),
 oO 40 (.slice 1 (.t 34) (some (.t 39)) none none),
 oO 41 (.arrp 32 1 (.t 40)),
 oO 42 (.load 32 true (.t 41)),
 oS 32 2 42] ⟨.all, [], .look 0 (.look 1 (.look 2 (.look 4 (.look 5 (.look 6 (.look 7 (.look 8 (.run 3 true (.run 9 false (.run 10 false (.run 11 false (.run 12 false .done))))))))))))⟩)
 .ret))))⟩
theorem K_Pblock_reader_hash : chkFun DK Pg Try.f41 A_Pblock_reader_hash = true := by kernel_rfl
theorem B_Pblock_reader_hash {args : List AV} {m : Mem} {K : AV → Mem → Prop} (h : vcFun DK Pg A_Pblock_reader_hash args m K) : ACall Pg F_Pblock_reader_hash args m K := call_body mixed Try.func41 (by kernel_rfl) K_Pblock_reader_hash h

noncomputable def A_Pblock_reader_part : AFun := ⟨1, 35, [.t 2],
 (.seq (.ops [
 oO 2 (.mv (.c (.nils)))])
 (.seq (.draw [
 oM 7 0,
 oO 8 (.nck (.t 7)),
 oO 9 (.fldA 0 (.t 8)),
 oO 10 (.load 1 false (.t 9)),
 oM 11 0,
 oO 12 (.nck (.t 11)),
 oO 13 (.fldA 1 (.t 12)),
 oO 14 (.load 1 false (.t 13)),
 oK 15 F_bin_GetPart [.t 10, .t 14],
 oM 6 15,
 oO 16 (.ext (.t 6) 0),
 oO 17 (.ext (.t 6) 1),
 oO 18 (.ext (.t 6) 2),
 oM 3 16,
 oM 4 17,
 oM 5 18] ⟨.all, [], .look 0 (.look 1 (.look 2 (.look 4 (.look 5 (.look 6 (.look 7 (.run 3 true (.run 8 false (.look 9 (.look 10 (.look 11 (.look 12 (.look 13 (.look 14 (.look 15 .done)))))))))))))))⟩)
 (.seq (.seq (.ops [
 oM 19 0,
 oO 20 (.nck (.t 19)),
 oO 21 (.fldA 2 (.t 20)),
 oO 22 (.load 1 false (.t 21)),
 oM 23 22,
 oG 24 (.mv (.t 5)) 23 false,
 oG 25 (.bin .neq (.t 24) (.c (.int .i64 0))) 23 false,
 oO 26 (.pick (.t 23) (.c (.bool true)) (.t 25))])
 (.cond (.t 26)
 (.seq (.ops [
 oM 27 0,
 oO 28 (.nck (.t 27)),
 oO 29 (.fldA 2 (.t 28)),
 ⟨none, .store 1 (.t 29) (.c (.bool true)), none⟩])
 (.seq (.ops [
 oO 2 (.mv (.c (.nils)))])
 .ret))
 .skip))
 (.seq (.ops [
 oM 30 0,
 oM 31 4,
 oO 32 (.nck (.t 30)),
 oO 33 (.fldA 1 (.t 32)),
 oS 1 33 31])
 (.seq (.ops [
 oM 34 3,
 oM 2 34])
 .ret)))))⟩
theorem K_Pblock_reader_part : chkFun DK Pg Try.f42 A_Pblock_reader_part = true := by kernel_rfl
theorem B_Pblock_reader_part {args : List AV} {m : Mem} {K : AV → Mem → Prop} (h : vcFun DK Pg A_Pblock_reader_part args m K) : ACall Pg F_Pblock_reader_part args m K := call_body mixed Try.func42 (by kernel_rfl) K_Pblock_reader_part h

noncomputable def A_witanref10_Get : AFun := ⟨3, 52, [.t 6, .t 7, .t 8],
 (.seq (.ops [
 oO 6 (.mv (.c (.int .i64 0))),
 oO 7 (.mv (.c (.int .i64 0))),
 oO 8 (.mv (.c (.int .i64 0)))])
 (.seq (.seq (.ops [
 oM 11 2,
 oO 12 (.bin .lss (.t 11) (.c (.int .i64 1))),
 oM 13 12,
 oG 14 (.mv (.t 2)) 13 false,
 oG 15 (.bin .gtr (.t 14) (.c (.int .i64 7))) 13 false,
 oO 16 (.pick (.t 13) (.c (.bool true)) (.t 15)),
 oM 17 16,
 oG 18 (.mv (.t 1)) 17 false,
 oG 19 (.bin .lss (.t 18) (.c (.int .i64 0))) 17 false,
 oO 20 (.pick (.t 17) (.c (.bool true)) (.t 19)),
 oM 21 20,
 oG 22 (.mv (.t 1)) 21 false,
 oG 23 (.mv (.t 0)) 21 false,
 oG 24 (.len (.t 23)) 21 false,
 oG 25 (.bin .gtr (.t 22) (.t 24)) 21 false,
 oO 26 (.pick (.t 21) (.c (.bool true)) (.t 25))])
 (.cond (.t 26)
 (.seq (.ops [
 oO 6 (.mv (.c (.int .i64 0))),
 oO 7 (.mv (.c (.int .i64 0))),
 oO 8 (.mv (.c (.int .i64 1)))])
 .ret)
 .skip))
 (.seq (.seq (.ops [
 oM 27 0,
 oO 28 (.len (.t 27)),
 oM 29 1,
 oO 30 (.bin .sub (.t 28) (.t 29)),
 oM 31 2,
 oO 32 (.bin .lss (.t 30) (.t 31))])
 (.cond (.t 32)
 (.seq (.ops [
 oO 6 (.mv (.c (.int .i64 0))),
 oO 7 (.mv (.c (.int .i64 0))),
 oO 8 (.mv (.c (.int .i64 7)))])
 .ret)
 .skip))
 (.seq (.ops [
 oO 9 (.mv (.c (.int .i64 0)))])
 (.seq (.seq (.ops [
 oO 10 (.mv (.c (.int .i64 0)))])
 (.block 0
 (.loop
 (.seq (.seq (.ops [
 oM 33 10,
 oM 34 2,
 oO 35 (.bin .lss (.t 33) (.t 34))])
 (.cond (.t 35)
 .skip
 (.exit 0)))
 (.seq (.block 1
 (.ops [
 oM 38 9,
 oO 39 (.bin .shl (.t 38) (.c (.int .u64 8))),
 oM 40 0,
 oM 41 1,
 oM 42 10,
 oO 43 (.bin .add (.t 41) (.t 42)),
 oO 44 (.idxA 1 (.t 40) (.t 43)),
 oO 45 (.load 1 false (.t 44)),
 oO 46 (.conv .i64 (.t 45)),
 oO 47 (.bin .or (.t 39) (.t 46)),
 oM 9 47]))
 (.ops [
 oM 36 10,
 oO 37 (.bin .add (.t 36) (.c (.int .i64 1))),
 oM 10 37]))))))
 (.seq (.ops [
 oM 48 9,
 oM 49 1,
 oM 50 2,
 oO 51 (.bin .add (.t 49) (.t 50)),
 oM 6 48,
 oM 7 51,
 oO 8 (.mv (.c (.int .i64 0)))])
 .ret))))))⟩
theorem K_witanref10_Get : chkFun DK Pg Try.f43 A_witanref10_Get = true := by kernel_rfl
theorem B_witanref10_Get {args : List AV} {m : Mem} {K : AV → Mem → Prop} (h : vcFun DK Pg A_witanref10_Get args m K) : ACall Pg F_witanref10_Get args m K := call_body mixed Try.func43 (by kernel_rfl) K_witanref10_Get h

noncomputable def A_witanref10_GetPart : AFun := ⟨2, 40, [.t 4, .t 5, .t 6],
 (.seq (.ops [
 oO 4 (.mv (.c (.nils))),
 oO 5 (.mv (.c (.int .i64 0))),
 oO 6 (.mv (.c (.int .i64 0)))])
 (.seq (.ops [
 oM 11 0,
 oM 12 1,
 oK 13 F_witanref10_Get [.t 11, .t 12, .c (.int .i64 4)],
 oM 10 13,
 oO 14 (.ext (.t 10) 0),
 oO 15 (.ext (.t 10) 1),
 oO 16 (.ext (.t 10) 2),
 oM 7 14,
 oM 8 15,
 oM 9 16])
 (.seq (.seq (.ops [
 oM 17 9,
 oO 18 (.bin .neq (.t 17) (.c (.int .i64 0)))])
 (.cond (.t 18)
 (.seq (.ops [
 oM 19 9,
 oO 4 (.mv (.c (.nils))),
 oO 5 (.mv (.c (.int .i64 0))),
 oM 6 19])
 .ret)
 .skip))
 (.seq (.seq (.ops [
 oM 20 7,
 oO 21 (.bin .gtr (.t 20) (.c (.int .i64 16384))),
 oM 22 21,
 oG 23 (.mv (.t 7)) 22 false,
 oG 24 (.mv (.t 0)) 22 false,
 oG 25 (.len (.t 24)) 22 false,
 oG 26 (.mv (.t 8)) 22 false,
 oG 27 (.bin .sub (.t 25) (.t 26)) 22 false,
 oG 28 (.bin .gtr (.t 23) (.t 27)) 22 false,
 oO 29 (.pick (.t 22) (.c (.bool true)) (.t 28))])
 (.cond (.t 29)
 (.seq (.ops [
 oO 4 (.mv (.c (.nils))),
 oO 5 (.mv (.c (.int .i64 0))),
 oO 6 (.mv (.c (.int .i64 7)))])
 .ret)
 .skip))
 (.seq (.ops [
 oM 30 0,
 oM 31 8,
 oM 32 8,
 oM 33 7,
 oO 34 (.bin .add (.t 32) (.t 33)),
 oO 35 (.slice 1 (.t 30) (some (.t 31)) (some (.t 34)) none),
 oK 36 F_witankeep_Twin [.t 35],
 oM 37 8,
 oM 38 7,
 oO 39 (.bin .add (.t 37) (.t 38)),
 oM 4 36,
 oM 5 39,
 oO 6 (.mv (.c (.int .i64 0)))])
 .ret)))))⟩
theorem K_witanref10_GetPart : chkFun DK Pg Try.f44 A_witanref10_GetPart = true := by kernel_rfl
theorem B_witanref10_GetPart {args : List AV} {m : Mem} {K : AV → Mem → Prop} (h : vcFun DK Pg A_witanref10_GetPart args m K) : ACall Pg F_witanref10_GetPart args m K := call_body mixed Try.func44 (by kernel_rfl) K_witanref10_GetPart h

noncomputable def A_witankeep_Txs : AFun := ⟨2, 42, [.t 4],
 (.seq (.ops [
 oO 4 (.mv (.c (.bool false)))])
 (.seq (.seq (.ops [
 oM 6 0,
 oO 7 (.len (.t 6)),
 oM 8 1,
 oO 9 (.len (.t 8)),
 oO 10 (.bin .neq (.t 7) (.t 9))])
 (.cond (.t 10)
 (.seq (.ops [
 oO 4 (.mv (.c (.bool false)))])
 .ret)
 .skip))
 (.seq (.seq (.ops [
 oO 5 (.mv (.c (.int .i64 0)))])
 (.block 0
 (.loop
 (.seq (.seq (.ops [
 oM 11 5,
 oM 12 0,
 oO 13 (.len (.t 12)),
 oO 14 (.bin .lss (.t 11) (.t 13))])
 (.cond (.t 14)
 .skip
 (.exit 0)))
 (.seq (.block 1
 (.seq (.draw [
 oM 17 0,
 oM 18 5,
 oO 19 (.idxA 2 (.t 17) (.t 18)),
 oO 20 (.fldA 0 (.t 19)),
 oO 21 (.load 1 false (.t 20)),
 oM 22 1,
 oM 23 5,
 oO 24 (.idxA 2 (.t 22) (.t 23)),
 oO 25 (.fldA 0 (.t 24)),
 oO 26 (.load 1 false (.t 25)),
 oO 27 (.bin .neq (.t 21) (.t 26)),
 oM 28 27,
 oG 29 (.mv (.t 0)) 28 false,
 oG 30 (.mv (.t 5)) 28 false,
 oG 31 (.idxA 2 (.t 29) (.t 30)) 28 false,
 oG 32 (.fldA 1 (.t 31)) 28 false,
 oG 33 (.load 1 false (.t 32)) 28 false,
 oG 34 (.mv (.t 1)) 28 false,
 oG 35 (.mv (.t 5)) 28 false,
 oG 36 (.idxA 2 (.t 34) (.t 35)) 28 false,
 oG 37 (.fldA 1 (.t 36)) 28 false,
 oG 38 (.load 1 false (.t 37)) 28 false,
 oG 39 (.call (.c (.fn F_witankeep_Bytes [])) [.t 33, .t 38]) 28 false,
 oG 40 (.un .not (.t 39)) 28 false,
 oO 41 (.pick (.t 28) (.c (.bool true)) (.t 40))] ⟨.all, [], .look 0 (.look 1 (.look 2 (.look 3 (.look 4 (.look 5 (.look 6 (.look 7 (.look 8 (.look 9 (.look 10 (.look 11 (.look 12 (.look 13 (.look 14 (.look 15 (.look 16 (.look 17 (.look 18 (.look 19 (.look 20 (.look 21 (.run 22 true (.look 23 (.look 24 .done))))))))))))))))))))))))⟩)
 (.cond (.t 41)
 (.seq (.ops [
 oO 4 (.mv (.c (.bool false)))])
 .ret)
 .skip)))
 (.ops [
 oM 15 5,
 oO 16 (.bin .add (.t 15) (.c (.int .i64 1))),
 oM 5 16]))))))
 (.seq (.ops [
 oO 4 (.mv (.c (.bool true)))])
 .ret))))⟩
theorem K_witankeep_Txs : chkFun DK Pg Try.f45 A_witankeep_Txs = true := by kernel_rfl
theorem B_witankeep_Txs {args : List AV} {m : Mem} {K : AV → Mem → Prop} (h : vcFun DK Pg A_witankeep_Txs args m K) : ACall Pg F_witankeep_Txs args m K := call_body mixed Try.func45 (by kernel_rfl) K_witankeep_Txs h

noncomputable def A_bin_Put : AFun := ⟨3, 43, [.t 6, .t 7],
 (.seq (.ops [
 oO 6 (.mv (.c (.nils))),
 oO 7 (.mv (.c (.int .i64 0)))])
 (.seq (.seq (.ops [
 oM 10 2,
 oO 11 (.bin .lss (.t 10) (.c (.int .i64 1))),
 oM 12 11,
 oG 13 (.mv (.t 2)) 12 false,
 oG 14 (.bin .gtr (.t 13) (.c (.int .i64 7))) 12 false,
 oO 15 (.pick (.t 12) (.c (.bool true)) (.t 14)),
 oM 16 15,
 oG 17 (.mv (.t 1)) 16 false,
 oG 18 (.bin .lss (.t 17) (.c (.int .i64 0))) 16 false,
 oO 19 (.pick (.t 16) (.c (.bool true)) (.t 18)),
 oM 20 19,
 oG 21 (.mv (.t 1)) 20 false,
 oG 22 (.mv (.t 2)) 20 false,
 oG 23 (.call (.c (.fn F_bin_room [])) [.t 22]) 20 false,
 oG 24 (.bin .geq (.t 21) (.t 23)) 20 false,
 oO 25 (.pick (.t 20) (.c (.bool true)) (.t 24))])
 (.cond (.t 25)
 (.seq (.ops [
 oO 6 (.mv (.c (.nils))),
 oO 7 (.mv (.c (.int .i64 1)))])
 .ret)
 .skip))
 (.seq (.ops [
 oM 26 0,
 oK 27 F_slices_Clone_Sbyte_byte [.t 26],
 oM 8 27])
 (.seq (.seq (.ops [
 oM 28 2,
 oO 29 (.bin .sub (.t 28) (.c (.int .i64 1))),
 oM 9 29])
 (.block 0
 (.loop
 (.seq (.seq (.ops [
 oM 30 9,
 oO 31 (.bin .geq (.t 30) (.c (.int .i64 0)))])
 (.cond (.t 31)
 .skip
 (.exit 0)))
 (.seq (.block 1
 (.ops [
 oM 34 8,
 oM 35 1,
 oM 36 9,
 oO 37 (.bin .mul (.c (.int .i64 8)) (.t 36)),
 oO 38 (.bin .shr (.t 35) (.t 37)),
 oO 39 (.conv .u8 (.t 38)),
 oO 40 (.bsl 1 1 [.int .u8 0] [(0, 1, .t 39)]),
 oO 41 (.app 1 1 (.t 34) (.t 40)),
 oM 8 41]))
 (.ops [
 oM 32 9,
 oO 33 (.bin .sub (.t 32) (.c (.int .i64 1))),
 oM 9 33]))))))
 (.seq (.ops [
 oM 42 8,
 oM 6 42,
 oO 7 (.mv (.c (.int .i64 0)))])
 .ret)))))⟩
theorem K_bin_Put : chkFun DK Pg Try.f46 A_bin_Put = true := by kernel_rfl
theorem B_bin_Put {args : List AV} {m : Mem} {K : AV → Mem → Prop} (h : vcFun DK Pg A_bin_Put args m K) : ACall Pg F_bin_Put args m K := call_body mixed Try.func46 (by kernel_rfl) K_bin_Put h

noncomputable def A_bin_PutPart : AFun := ⟨2, 22, [.t 4, .t 5],
 (.seq (.ops [
 oO 4 (.mv (.c (.nils))),
 oO 5 (.mv (.c (.int .i64 0)))])
 (.seq (.seq (.ops [
 oM 8 1,
 oO 9 (.len (.t 8)),
 oO 10 (.bin .gtr (.t 9) (.c (.int .i64 16384)))])
 (.cond (.t 10)
 (.seq (.ops [
 oO 4 (.mv (.c (.nils))),
 oO 5 (.mv (.c (.int .i64 4)))])
 .ret)
 .skip))
 (.seq (.ops [
 oM 12 0,
 oM 13 1,
 oO 14 (.len (.t 13)),
 oK 15 F_bin_Put [.t 12, .t 14, .c (.int .i64 4)],
 oM 11 15,
 oO 16 (.ext (.t 11) 0),
 oO 17 (.ext (.t 11) 1),
 oM 6 16,
 oM 7 17])
 (.seq (.ops [
 oM 18 6,
 oM 19 1,
 oO 20 (.app 1 1 (.t 18) (.t 19)),
 oM 21 7,
 oM 4 20,
 oM 5 21])
 .ret))))⟩
theorem K_bin_PutPart : chkFun DK Pg Try.f47 A_bin_PutPart = true := by kernel_rfl
theorem B_bin_PutPart {args : List AV} {m : Mem} {K : AV → Mem → Prop} (h : vcFun DK Pg A_bin_PutPart args m K) : ACall Pg F_bin_PutPart args m K := call_body mixed Try.func47 (by kernel_rfl) K_bin_PutPart h

noncomputable def A_witankeep_TwinTxs : AFun := ⟨1, 27, [.t 2],
 (.seq (.ops [
 oO 2 (.mv (.c (.nils)))])
 (.seq (.ops [
 oO 3 (.mv (.c (.nils)))])
 (.seq (.seq (.ops [
 oO 4 (.mv (.c (.int .i64 0)))])
 (.block 0
 (.loop
 (.seq (.seq (.ops [
 oM 5 4,
 oM 6 0,
 oO 7 (.len (.t 6)),
 oO 8 (.bin .lss (.t 5) (.t 7))])
 (.cond (.t 8)
 .skip
 (.exit 0)))
 (.seq (.block 1
 (.draw [
 oM 11 3,
 oM 12 0,
 oM 13 4,
 oO 14 (.idxA 2 (.t 12) (.t 13)),
 oO 15 (.fldA 0 (.t 14)),
 oO 16 (.load 1 false (.t 15)),
 oM 17 0,
 oM 18 4,
 oO 19 (.idxA 2 (.t 17) (.t 18)),
 oO 20 (.fldA 1 (.t 19)),
 oO 21 (.load 1 false (.t 20)),
 oK 22 F_witankeep_Twin [.t 21],
 oO 23 (.build [.int .i64 0, .nils] [(0, 1, .t 16), (1, 1, .t 22)]),
 oO 24 (.bsl 2 1 [.int .i64 0, .nils] [(0, 2, .t 23)]),
 oO 25 (.app 2 32 (.t 11) (.t 24)),
 oM 3 25] ⟨.all, [], .look 0 (.look 1 (.look 2 (.look 3 (.look 4 (.look 5 (.look 6 (.look 7 (.look 8 (.look 9 (.look 10 (.run 11 true (.run 12 false (.run 13 false (.run 14 false (.look 15 .done)))))))))))))))⟩))
 (.ops [
 oM 9 4,
 oO 10 (.bin .add (.t 9) (.c (.int .i64 1))),
 oM 4 10]))))))
 (.seq (.ops [
 oM 26 3,
 oM 2 26])
 .ret))))⟩
theorem K_witankeep_TwinTxs : chkFun DK Pg Try.f48 A_witankeep_TwinTxs = true := by kernel_rfl
theorem B_witankeep_TwinTxs {args : List AV} {m : Mem} {K : AV → Mem → Prop} (h : vcFun DK Pg A_witankeep_TwinTxs args m K) : ACall Pg F_witankeep_TwinTxs args m K := call_body mixed Try.func48 (by kernel_rfl) K_witankeep_TwinTxs h

noncomputable def A_witanref10_Put : AFun := ⟨3, 46, [.t 6, .t 7],
 (.seq (.ops [
 oO 6 (.mv (.c (.nils))),
 oO 7 (.mv (.c (.int .i64 0)))])
 (.seq (.seq (.ops [
 oM 10 2,
 oO 11 (.bin .lss (.t 10) (.c (.int .i64 1))),
 oM 12 11,
 oG 13 (.mv (.t 2)) 12 false,
 oG 14 (.bin .gtr (.t 13) (.c (.int .i64 7))) 12 false,
 oO 15 (.pick (.t 12) (.c (.bool true)) (.t 14)),
 oM 16 15,
 oG 17 (.mv (.t 1)) 16 false,
 oG 18 (.bin .lss (.t 17) (.c (.int .i64 0))) 16 false,
 oO 19 (.pick (.t 16) (.c (.bool true)) (.t 18)),
 oM 20 19,
 oG 21 (.mv (.t 1)) 20 false,
 oG 22 (.mv (.t 2)) 20 false,
 oG 23 (.bin .mul (.c (.int .i64 8)) (.t 22)) 20 false,
 oG 24 (.conv .u64 (.t 23)) 20 false,
 oG 25 (.bin .shr (.t 21) (.t 24)) 20 false,
 oG 26 (.bin .neq (.t 25) (.c (.int .i64 0))) 20 false,
 oO 27 (.pick (.t 20) (.c (.bool true)) (.t 26))])
 (.cond (.t 27)
 (.seq (.ops [
 oO 6 (.mv (.c (.nils))),
 oO 7 (.mv (.c (.int .i64 1)))])
 .ret)
 .skip))
 (.seq (.ops [
 oM 28 0,
 oK 29 F_witankeep_Twin [.t 28],
 oM 8 29])
 (.seq (.seq (.ops [
 oM 30 2,
 oO 31 (.bin .sub (.t 30) (.c (.int .i64 1))),
 oM 9 31])
 (.block 0
 (.loop
 (.seq (.seq (.ops [
 oM 32 9,
 oO 33 (.bin .geq (.t 32) (.c (.int .i64 0)))])
 (.cond (.t 33)
 .skip
 (.exit 0)))
 (.seq (.block 1
 (.ops [
 oM 36 8,
 oM 37 1,
 oM 38 9,
 oO 39 (.bin .mul (.c (.int .i64 8)) (.t 38)),
 oO 40 (.conv .u64 (.t 39)),
 oO 41 (.bin .shr (.t 37) (.t 40)),
 oO 42 (.conv .u8 (.t 41)),
 oO 43 (.bsl 1 1 [.int .u8 0] [(0, 1, .t 42)]),
 oO 44 (.app 1 1 (.t 36) (.t 43)),
 oM 8 44]))
 (.ops [
 oM 34 9,
 oO 35 (.bin .sub (.t 34) (.c (.int .i64 1))),
 oM 9 35]))))))
 (.seq (.ops [
 oM 45 8,
 oM 6 45,
 oO 7 (.mv (.c (.int .i64 0)))])
 .ret)))))⟩
theorem K_witanref10_Put : chkFun DK Pg Try.f49 A_witanref10_Put = true := by kernel_rfl
theorem B_witanref10_Put {args : List AV} {m : Mem} {K : AV → Mem → Prop} (h : vcFun DK Pg A_witanref10_Put args m K) : ACall Pg F_witanref10_Put args m K := call_body mixed Try.func49 (by kernel_rfl) K_witanref10_Put h

noncomputable def A_witanref10_PutPart : AFun := ⟨2, 21, [.t 4, .t 5],
 (.seq (.ops [
 oO 4 (.mv (.c (.nils))),
 oO 5 (.mv (.c (.int .i64 0)))])
 (.seq (.seq (.ops [
 oM 8 1,
 oO 9 (.len (.t 8)),
 oO 10 (.bin .gtr (.t 9) (.c (.int .i64 16384)))])
 (.cond (.t 10)
 (.seq (.ops [
 oO 4 (.mv (.c (.nils))),
 oO 5 (.mv (.c (.int .i64 4)))])
 .ret)
 .skip))
 (.seq (.ops [
 oM 12 0,
 oM 13 1,
 oO 14 (.len (.t 13)),
 oK 15 F_witanref10_Put [.t 12, .t 14, .c (.int .i64 4)],
 oM 11 15,
 oO 16 (.ext (.t 11) 0),
 oO 17 (.ext (.t 11) 1),
 oM 6 16,
 oM 7 17])
 (.seq (.ops [
 oM 18 6,
 oM 19 1,
 oO 20 (.app 1 1 (.t 18) (.t 19)),
 oM 4 20,
 oO 5 (.mv (.c (.int .i64 0)))])
 .ret))))⟩
theorem K_witanref10_PutPart : chkFun DK Pg Try.f50 A_witanref10_PutPart = true := by kernel_rfl
theorem B_witanref10_PutPart {args : List AV} {m : Mem} {K : AV → Mem → Prop} (h : vcFun DK Pg A_witanref10_PutPart args m K) : ACall Pg F_witanref10_PutPart args m K := call_body mixed Try.func50 (by kernel_rfl) K_witanref10_PutPart h

noncomputable def A_bin_Get : AFun := ⟨3, 56, [.t 6, .t 7, .t 8],
 (.seq (.ops [
 oO 6 (.mv (.c (.int .i64 0))),
 oO 7 (.mv (.c (.int .i64 0))),
 oO 8 (.mv (.c (.int .i64 0)))])
 (.seq (.block 0
 (.seq (.ops [
 oM 12 2,
 oO 13 (.bin .lss (.t 12) (.c (.int .i64 1))),
 oM 14 13,
 oG 15 (.mv (.t 2)) 14 false,
 oG 16 (.bin .gtr (.t 15) (.c (.int .i64 7))) 14 false,
 oO 17 (.pick (.t 14) (.c (.bool true)) (.t 16)),
 oM 18 17,
 oG 19 (.mv (.t 1)) 18 false,
 oG 20 (.bin .lss (.t 19) (.c (.int .i64 0))) 18 false,
 oO 21 (.pick (.t 18) (.c (.bool true)) (.t 20)),
 oM 22 21,
 oG 23 (.mv (.t 1)) 22 false,
 oG 24 (.mv (.t 0)) 22 false,
 oG 25 (.len (.t 24)) 22 false,
 oG 26 (.bin .gtr (.t 23) (.t 25)) 22 false,
 oO 27 (.pick (.t 22) (.c (.bool true)) (.t 26)),
 oM 11 27])
 (.cond (.t 11)
 (.seq (.ops [
 oO 6 (.mv (.c (.int .i64 0))),
 oO 7 (.mv (.c (.int .i64 0))),
 oO 8 (.mv (.c (.int .i64 1)))])
 .ret)
 (.seq (.ops [
 oM 29 0,
 oO 30 (.len (.t 29)),
 oM 31 1,
 oO 32 (.bin .sub (.t 30) (.t 31)),
 oM 33 2,
 oO 34 (.bin .lss (.t 32) (.t 33)),
 oM 28 34])
 (.cond (.t 28)
 (.seq (.ops [
 oO 6 (.mv (.c (.int .i64 0))),
 oO 7 (.mv (.c (.int .i64 0))),
 oO 8 (.mv (.c (.int .i64 7)))])
 .ret)
 .skip)))))
 (.seq (.seq (.ops [
 oM 35 0,
 oM 36 1,
 oM 37 1,
 oM 38 2,
 oO 39 (.bin .add (.t 37) (.t 38)),
 oO 40 (.slice 1 (.t 35) (some (.t 36)) (some (.t 39)) none),
 oO 41 (.len (.t 40)),
 oO 42 (.mv (.c (.int .i64 0)))])
 (.block 1
 (.loop
 (.seq (.ops [
 oO 43 (.bin .lss (.t 42) (.t 41))])
 (.seq (.cond (.t 43)
 .skip
 (.exit 1))
 (.seq (.block 2
 (.seq (.ops [
 oO 44 (.idxA 1 (.t 40) (.t 42)),
 oO 45 (.load 1 false (.t 44)),
 oM 10 45])
 (.ops [
 oM 46 6,
 oO 47 (.bin .shl (.t 46) (.c (.int .u64 8))),
 oM 48 10,
 oO 49 (.conv .i64 (.t 48)),
 oO 50 (.bin .or (.t 47) (.t 49)),
 oM 6 50])))
 (.ops [
 oO 51 (.bin .add (.t 42) (.c (.int .i64 1))),
 oM 42 51])))))))
 (.seq (.ops [
 oM 52 6,
 oM 53 1,
 oM 54 2,
 oO 55 (.bin .add (.t 53) (.t 54)),
 oM 6 52,
 oM 7 55,
 oO 8 (.mv (.c (.int .i64 0)))])
 .ret))))⟩
theorem K_bin_Get : chkFun DK Pg Try.f59 A_bin_Get = true := by kernel_rfl
theorem B_bin_Get {args : List AV} {m : Mem} {K : AV → Mem → Prop} (h : vcFun DK Pg A_bin_Get args m K) : ACall Pg F_bin_Get args m K := call_body mixed Try.func59 (by kernel_rfl) K_bin_Get h

noncomputable def A_bin_GetPart : AFun := ⟨2, 40, [.t 4, .t 5, .t 6],
 (.seq (.ops [
 oO 4 (.mv (.c (.nils))),
 oO 5 (.mv (.c (.int .i64 0))),
 oO 6 (.mv (.c (.int .i64 0)))])
 (.seq (.ops [
 oM 9 0,
 oM 10 1,
 oK 11 F_bin_Get [.t 9, .t 10, .c (.int .i64 4)],
 oM 8 11,
 oO 12 (.ext (.t 8) 0),
 oO 13 (.ext (.t 8) 1),
 oO 14 (.ext (.t 8) 2),
 oM 7 12,
 oM 5 13,
 oM 6 14])
 (.seq (.block 0
 (.seq (.ops [
 oM 16 6,
 oO 17 (.bin .neq (.t 16) (.c (.int .i64 0))),
 oM 15 17])
 (.cond (.t 15)
 (.seq (.ops [
 oM 18 6,
 oO 4 (.mv (.c (.nils))),
 oO 5 (.mv (.c (.int .i64 0))),
 oM 6 18])
 .ret)
 (.seq (.ops [
 oM 20 7,
 oO 21 (.bin .gtr (.t 20) (.c (.int .i64 16384))),
 oM 22 21,
 oG 23 (.mv (.t 0)) 22 false,
 oG 24 (.len (.t 23)) 22 false,
 oG 25 (.mv (.t 5)) 22 false,
 oG 26 (.bin .sub (.t 24) (.t 25)) 22 false,
 oG 27 (.mv (.t 7)) 22 false,
 oG 28 (.bin .lss (.t 26) (.t 27)) 22 false,
 oO 29 (.pick (.t 22) (.c (.bool true)) (.t 28)),
 oM 19 29])
 (.cond (.t 19)
 (.seq (.ops [
 oO 4 (.mv (.c (.nils))),
 oO 5 (.mv (.c (.int .i64 0))),
 oO 6 (.mv (.c (.int .i64 7)))])
 .ret)
 .skip)))))
 (.seq (.ops [
 oM 30 0,
 oM 31 5,
 oM 32 5,
 oM 33 7,
 oO 34 (.bin .add (.t 32) (.t 33)),
 oO 35 (.slice 1 (.t 30) (some (.t 31)) (some (.t 34)) none),
 oK 36 F_slices_Clone_Sbyte_byte [.t 35],
 oM 37 5,
 oM 38 7,
 oO 39 (.bin .add (.t 37) (.t 38)),
 oM 4 36,
 oM 5 39,
 oO 6 (.mv (.c (.int .i64 0)))])
 .ret))))⟩
theorem K_bin_GetPart : chkFun DK Pg Try.f60 A_bin_GetPart = true := by kernel_rfl
theorem B_bin_GetPart {args : List AV} {m : Mem} {K : AV → Mem → Prop} (h : vcFun DK Pg A_bin_GetPart args m K) : ACall Pg F_bin_GetPart args m K := call_body mixed Try.func60 (by kernel_rfl) K_bin_GetPart h

noncomputable def A_bin_room : AFun := ⟨1, 6, [.t 2],
 (.seq (.ops [
 oO 2 (.mv (.c (.int .i64 0)))])
 (.seq (.ops [
 oM 3 0,
 oO 4 (.bin .mul (.c (.int .i64 8)) (.t 3)),
 oO 5 (.bin .shl (.c (.int .i64 1)) (.t 4)),
 oM 2 5])
 .ret))⟩
theorem K_bin_room : chkFun DK Pg Try.f61 A_bin_room = true := by kernel_rfl
theorem B_bin_room {args : List AV} {m : Mem} {K : AV → Mem → Prop} (h : vcFun DK Pg A_bin_room args m K) : ACall Pg F_bin_room args m K := call_body mixed Try.func61 (by kernel_rfl) K_bin_room h

noncomputable def A_slices_Clone_Sbyte_byte : AFun := ⟨1, 8, [.t 2],
 (.seq (.ops [
 oO 2 (.mv (.c (.nils)))])
 (.seq (.seq (.ops [
 oM 3 0,
 oO 4 (.eqnS false (.t 3))])
 (.cond (.t 4)
 (.seq (.ops [
 oO 2 (.mv (.c (.nils)))])
 .ret)
 .skip))
 (.seq (.ops [
 oO 5 (.bsl 1 0 [.int .u8 0] []),
 oM 6 0,
 oO 7 (.app 1 1 (.t 5) (.t 6)),
 oM 2 7])
 .ret)))⟩
theorem K_slices_Clone_Sbyte_byte : chkFun DK Pg Try.f62 A_slices_Clone_Sbyte_byte = true := by kernel_rfl
theorem B_slices_Clone_Sbyte_byte {args : List AV} {m : Mem} {K : AV → Mem → Prop} (h : vcFun DK Pg A_slices_Clone_Sbyte_byte args m K) : ACall Pg F_slices_Clone_Sbyte_byte args m K := call_body mixed Try.func62 (by kernel_rfl) K_slices_Clone_Sbyte_byte h

end Go.Proofs.Ytjflfecdeicccaa
end

section
/- What the small calls make; no condition. -/
set_option linter.unusedVariables false
set_option maxRecDepth 100000
set_option pp.maxSteps 300
set_option linter.unusedSimpArgs false
namespace Go.Proofs.Ytjflfecdeicccaa
open Go Go.Wit

theorem w64 {n : Int} (h0 : -9223372036854775808 ≤ n) (h1 : n ≤ 9223372036854775807) : IntKind.i64.wrap n = n := by rw [IntKind.wrap_i64]; omega

theorem wu64 (n : Int) : IntKind.u64.wrap n = n % 18446744073709551616 := by simp [IntKind.wrap, IntKind.bits, IntKind.signed]

end Go.Proofs.Ytjflfecdeicccaa
end

section
/- What the calls of bin make; no condition. -/
set_option linter.unusedVariables false
set_option linter.unusedSimpArgs false
set_option maxRecDepth 100000
set_option pp.maxSteps 300
namespace Go.Proofs.Ytjflfecdeicccaa
open Go Go.Wit

theorem S_clone0 (n cap : Nat) (f : Nat → Int) (hn : n ≤ 140737488355328) : ACall Pg F_slices_Clone_Sbyte_byte [.vsl 1 n cap (bytesG f)] [] (fun v m' => ∃ n' f', (n' = n ∧ f' = f) ∧ RetB n' f' v m') := by
  refine B_slices_Clone_Sbyte_byte ⟨rfl, ?_⟩
  conv => whnf
  refine condB_mk (fun hc => ?_) (fun hc h0 => ⟨?_, ?_⟩)
  · conv => whnf
    refine condB_ok (app_ok rfl rfl rfl (by omega) (by omega)) (fun cap' hcap => ?_)
    conv => whnf
    refine ⟨n, f, ⟨rfl, rfl⟩, .inr ⟨1, cap', _, _, by first | rfl | (rw [Nat.zero_add]; rfl) | rw [Nat.zero_add], rfl, by omega, fun i hi => ?_⟩⟩
    rw [catG_ge (by omega)]; rfl
  · conv => whnf
    refine condB_ok (app_ok rfl rfl rfl (by omega) (by omega)) (fun cap' hcap => ?_)
    conv => whnf
    refine ⟨n, f, ⟨rfl, rfl⟩, .inr ⟨1, cap', _, _, by first | rfl | (rw [Nat.zero_add]; rfl) | rw [Nat.zero_add], rfl, by omega, fun i hi => ?_⟩⟩
    rw [catG_ge (by omega)]; rfl
  · conv => whnf
    exact ⟨n, f, ⟨rfl, rfl⟩, .inl ⟨rfl, h0⟩⟩

theorem S_clone {m : Mem} {x : AV} {n : Nat} {f : Nat → Int} {K : AV → Mem → Prop} (hx : Shows m x n f) (hn : n ≤ 140737488355328) (hK : ∀ cap, memK (m ++ [some ⟨1, n, bytesG f⟩]) (K (.sl m.length 0 n cap))) : ACall Pg F_slices_Clone_Sbyte_byte [x] m K := by
  simp only [memK_eq] at hK
  obtain ⟨cap, hl⟩ := hx
  refine lift_bytes (S_clone0 n cap f hn) (.cons _ _ _ _ hl .nil) ?_
  rintro n' f' cap' ⟨rfl, rfl⟩
  exact hK cap'

theorem S_Twin0 (n cap : Nat) (f : Nat → Int) (hn : n ≤ 140737488355328) : ACall Pg F_witankeep_Twin [.vsl 1 n cap (bytesG f)] [] (fun v m' => ∃ n' f', (n' = n ∧ f' = f) ∧ RetB n' f' v m') := by
  refine B_witankeep_Twin ⟨rfl, ?_⟩
  conv => whnf
  refine condB_ok (app_ok rfl rfl rfl (by omega) (by omega)) (fun cap' hcap => ?_)
  conv => whnf
  refine ⟨n, f, ⟨rfl, rfl⟩, .inr ⟨0, cap', _, _, by first | rfl | (rw [Nat.zero_add]; rfl) | rw [Nat.zero_add], rfl, by omega, fun i hi => ?_⟩⟩
  rw [catG_ge (by omega)]; rfl

theorem S_Twin {m : Mem} {x : AV} {n : Nat} {f : Nat → Int} {K : AV → Mem → Prop} (hx : Shows m x n f) (hn : n ≤ 140737488355328) (hK : ∀ cap, memK (m ++ [some ⟨1, n, bytesG f⟩]) (K (.sl m.length 0 n cap))) : ACall Pg F_witankeep_Twin [x] m K := by
  simp only [memK_eq] at hK
  obtain ⟨cap, hl⟩ := hx
  refine lift_bytes (S_Twin0 n cap f hn) (.cons _ _ _ _ hl .nil) ?_
  rintro n' f' cap' ⟨rfl, rfl⟩
  exact hK cap'

/-- Room for numbers of s bytes. -/
theorem S_room (s : Nat) (hs : 1 ≤ s ∧ s ≤ 7) {m : Mem} {K : AV → Mem → Prop} (h : K (.int .i64 (2 ^ (8 * s))) m) : ACall Pg F_bin_room [.int .i64 s] m K := by
  refine B_bin_room ⟨rfl, ?_⟩
  conv => whnf
  rw [w64 (n := 8 * (s : Int)) (by omega) (by omega)]
  conv => whnf
  have e : IntKind.i64.wrap (1 * 2 ^ min ((8 : Int) * (s : Int)).toNat IntKind.i64.bits) = 2 ^ (8 * s) := by
    obtain ⟨h1, h2⟩ := hs
    have : s = 1 ∨ s = 2 ∨ s = 3 ∨ s = 4 ∨ s = 5 ∨ s = 6 ∨ s = 7 := by omega
    rcases this with rfl | rfl | rfl | rfl | rfl | rfl | rfl <;> rfl
  rw [e]
  exact h

def putOk (v s : Int) : Bool := decide (1 ≤ s) && (decide (s ≤ 7) && (decide (0 ≤ v) && decide (v < 2 ^ (8 * s).toNat)))
/-- The bytes of a number behind others. -/
def putB (n : Nat) (f : Nat → Int) (v s : Int) (i : Nat) : Int := if i < n then f i else (v / 2 ^ (8 * (s.toNat - 1 - (i - n)))) % 256

theorem S_Put0 (n cap : Nat) (f : Nat → Int) (v s : Int) (hn : n ≤ 140737488355000) : ACall Pg F_bin_Put [.vsl 1 n cap (bytesG f), .int .i64 v, .int .i64 s] []
    (fun r m' => ∃ n' f' x vs, r = .tup (x :: vs) ∧ (if putOk v s then n' = n + s.toNat ∧ f' = putB n f v s ∧ vs = [.int .i64 0] else n' = 0 ∧ vs = [.int .i64 1]) ∧ RetB n' f' x m' ∧ Flats true vs) := by
  refine B_bin_Put ⟨rfl, ?_⟩
  have hbad : putOk v s = false → ∀ m', ∃ n' f' x vs, AV.tup [.nils, .int .i64 1] = .tup (x :: vs) ∧ (if putOk v s then n' = n + s.toNat ∧ f' = putB n f v s ∧ vs = [.int .i64 0] else n' = 0 ∧ vs = [.int .i64 1]) ∧ RetB n' f' x m' ∧ Flats true vs := by
    intro h m'
    exact ⟨0, fun _ => 0, .nils, _, rfl, by simp [h], .inl ⟨rfl, rfl⟩, .cons _ _ (.int _ _) .nil⟩
  conv => whnf
  refine condB_mk (fun h1 => ?_) (fun h1 => ?_)
  rotate_left
  · conv => whnf
    exact hbad (by simp at h1; simp [putOk]; omega) []
  have h1 : 1 ≤ s := by simpa using h1
  conv => whnf
  refine condB_mk (fun h2 => ?_) (fun h2 => ?_)
  rotate_left
  · conv => whnf
    exact hbad (by simp at h2; simp [putOk]; omega) []
  have h2 : s ≤ 7 := by simpa using h2
  conv => whnf
  refine condB_mk (fun h3 => ?_) (fun h3 => ?_)
  rotate_left
  · conv => whnf
    exact hbad (by simp at h3; simp [putOk]; omega) []
  have h3 : 0 ≤ v := by simpa using h3
  obtain ⟨s, rfl⟩ : ∃ s' : Nat, s = s' := ⟨s.toNat, by omega⟩
  conv => whnf
  refine S_room s (by omega) ?_
  conv => whnf
  refine condB_mk (fun h4 => ?_) (fun h4 => ?_)
  · conv => whnf
    exact hbad (by
      simp at h4
      simp only [putOk, Bool.and_eq_false_iff, decide_eq_false_iff_not]
      right; right; right
      rw [show ((8 : Int) * (s : Int)).toNat = 8 * s by omega]; omega) []
  have h4 : v < 2 ^ (8 * s) := by simpa using h4
  conv => whnf
  refine S_clone (f := f) Shows.vsl (by omega) (fun cap1 => ?_)
  conv => whnf
  rw [w64 (n := (s : Int) - 1) (by omega) (by omega)]
  refine loop_wk mixed (I := fun q l m => ∃ (i : Int) (N c : Nat) (g : Nat → Int), l = [(1, .int .i64 v), (8, .sl 0 0 N c), (9, .int .i64 i)] ∧ m = [some ⟨1, N, bytesG g⟩] ∧ (q : Int) = i + 1 ∧ -1 ≤ i ∧ i ≤ s - 1 ∧ (N : Int) = n + s - 1 - i ∧ ∀ j, j < N → g j = putB n f v s j) s
    (l0 := [(1, .int .i64 v), (8, .sl 0 0 n cap1), (9, .int .i64 (s - 1))]) (m0 := [some ⟨1, n, bytesG f⟩]) [some 0] ⟨s - 1, n, cap1, f, rfl, rfl, by omega, by omega, by omega, by omega, fun j hj => ?_⟩ ?_ ?_
  · simp [putB, hj]
  · refine .mk0 ⟨Flat.i rfl, .sl _ _ _ _ _ rfl, Flat.i rfl, trivial⟩ ⟨.old 0 0 _ _ rfl rfl ⟨rfl, Nat.le_refl _, fun i j hi hj => .eq _ _ rfl (.int _ _)⟩, trivial⟩ rfl rfl
  · rintro q l m ⟨i, N, c, g, rfl, rfl, hq, hi1, hi2, hN, hg⟩
    conv => whnf
    refine condB_mk (fun hb => ?_) (fun hb => ?_)
    · have hb : 0 ≤ i := by simpa using hb
      conv => whnf
      rw [w64 (n := 8 * i) (by omega) (by omega)]
      refine condB_ok (decide_eq_true (by omega)) ?_
      conv => whnf
      refine condB_ok (app_ok (decide_eq_true (Nat.le_refl _)) rfl rfl (by omega) (by omega)) (fun cap' hcap => ?_)
      conv => whnf
      rw [w64 (n := i - 1) (by omega) (by omega)]
      refine ⟨q - 1, [(1, .int .i64 v), (8, .sl 0 0 (N + 1) cap'), (9, .int .i64 (i - 1))], [some ⟨1, N + 1, bytesG (fun j => if j < N then g j else (v / 2 ^ (8 * (s - 1 - (N - n)))) % 256)⟩], [some 2], by omega,
        ⟨i - 1, N + 1, cap', _, rfl, rfl, by omega, by omega, by omega, by omega, fun j hj => ?_⟩, ?_⟩
      · by_cases hjN : j < N
        · simp only [if_pos hjN]; exact hg j hjN
        · obtain rfl : j = N := by omega
          simp only [if_neg hjN]
          rw [putB, if_neg (by omega), Int.toNat_natCast]
      · refine .mk0 ⟨Flat.i rfl, .sl _ _ _ _ _ rfl, Flat.i rfl, trivial⟩ ⟨.old 0 2 _ _ rfl rfl ⟨rfl, Nat.le_refl _, fun j k hj hk => ?_⟩, trivial⟩ rfl rfl
        have hk : k < 1 := hk
        obtain rfl : k = 0 := by omega
        have hj : j < N + 1 := hj
        by_cases hjN : j < N
        · refine .eq _ _ ?_ ?_
          · dsimp only
            rw [catG_lt hjN]; simp only [bytesG, if_pos hjN]
          · dsimp only
            rw [catG_lt hjN]; exact .int _ _
        · obtain rfl : j = N := by omega
          have e : IntKind.u8.wrap (v.fdiv (2 ^ min (8 * i).toNat IntKind.i64.bits)) = (v / 2 ^ (8 * (s - 1 - (j - n)))) % 256 := by
            rw [IntKind.wrap_u8, Int.fdiv_eq_ediv_of_nonneg _ (Int.pow_nonneg (by omega))]
            rw [show min (8 * i).toNat IntKind.i64.bits = 8 * (s - 1 - (j - n)) by simp only [IntKind.bits]; omega]
          refine .eq _ _ ?_ ?_
          · dsimp only
            rw [catG_ge (Nat.le_refl _)]; simp only [bytesG, if_neg hjN, Nat.sub_self]
            rw [← e]; rfl
          · dsimp only
            rw [catG_ge (Nat.le_refl _), Nat.sub_self]; exact .int _ _
    · have hb : i = -1 := by simp at hb; omega
      conv => whnf
      have hok : putOk v s = true := by
        simp only [putOk, Bool.and_eq_true, decide_eq_true_eq]
        rw [show ((8 : Int) * (s : Int)).toNat = 8 * s by omega]
        exact ⟨h1, h2, h3, h4⟩
      refine ⟨N, putB n f v s, _, _, rfl, by rw [if_pos hok]; exact ⟨by omega, rfl, rfl⟩, .inr ⟨0, c, N, _, rfl, rfl, Nat.le_refl _, fun i hi => by rw [← hg i hi]; rfl⟩, .cons _ _ (.int _ _) .nil⟩

theorem S_Put {m : Mem} {x : AV} {n : Nat} {f : Nat → Int} {K : AV → Mem → Prop} (v s : Int) (hx : Shows m x n f) (hn : n ≤ 140737488355000)
    (h0 : putOk v s = false → ∀ cap f', memK (m ++ [some ⟨1, 0, bytesG f'⟩]) (K (.tup [.sl m.length 0 0 cap, .int .i64 1])))
    (h1 : putOk v s = true → ∀ cap, memK (m ++ [some ⟨1, n + s.toNat, bytesG (putB n f v s)⟩]) (K (.tup [.sl m.length 0 (n + s.toNat) cap, .int .i64 0]))) : ACall Pg F_bin_Put [x, .int .i64 v, .int .i64 s] m K := by
  simp only [memK_eq] at h0 h1
  obtain ⟨cap, hl⟩ := hx
  refine lift_tup (S_Put0 n cap f v s hn) (.cons _ _ _ _ hl (.cons _ _ _ _ lend_int (.cons _ _ _ _ lend_int .nil))) ?_
  intro n' f' cap' vs hR
  cases hp : putOk v s
  · rw [if_neg (by simp [hp])] at hR
    obtain ⟨rfl, rfl⟩ := hR
    exact h0 hp cap' f'
  · rw [if_pos hp] at hR
    obtain ⟨rfl, rfl, rfl⟩ := hR
    exact h1 hp cap'

theorem S_refPut0 (n cap : Nat) (f : Nat → Int) (v s : Int) (hn : n ≤ 140737488355000) (hv : -9223372036854775808 ≤ v ∧ v ≤ 9223372036854775807) : ACall Pg F_witanref10_Put [.vsl 1 n cap (bytesG f), .int .i64 v, .int .i64 s] []
    (fun r m' => ∃ n' f' x vs, r = .tup (x :: vs) ∧ (if putOk v s then n' = n + s.toNat ∧ f' = putB n f v s ∧ vs = [.int .i64 0] else n' = 0 ∧ vs = [.int .i64 1]) ∧ RetB n' f' x m' ∧ Flats true vs) := by
  refine B_witanref10_Put ⟨rfl, ?_⟩
  have hbad : putOk v s = false → ∀ m', ∃ n' f' x vs, AV.tup [.nils, .int .i64 1] = .tup (x :: vs) ∧ (if putOk v s then n' = n + s.toNat ∧ f' = putB n f v s ∧ vs = [.int .i64 0] else n' = 0 ∧ vs = [.int .i64 1]) ∧ RetB n' f' x m' ∧ Flats true vs := by
    intro h m'
    exact ⟨0, fun _ => 0, .nils, _, rfl, by simp [h], .inl ⟨rfl, rfl⟩, .cons _ _ (.int _ _) .nil⟩
  conv => whnf
  refine condB_mk (fun h1 => ?_) (fun h1 => ?_)
  rotate_left
  · conv => whnf
    exact hbad (by simp at h1; simp [putOk]; omega) []
  have h1 : 1 ≤ s := by simpa using h1
  conv => whnf
  refine condB_mk (fun h2 => ?_) (fun h2 => ?_)
  rotate_left
  · conv => whnf
    exact hbad (by simp at h2; simp [putOk]; omega) []
  have h2 : s ≤ 7 := by simpa using h2
  conv => whnf
  refine condB_mk (fun h3 => ?_) (fun h3 => ?_)
  rotate_left
  · conv => whnf
    exact hbad (by simp at h3; simp [putOk]; omega) []
  have h3 : 0 ≤ v := by simpa using h3
  obtain ⟨s, rfl⟩ : ∃ s' : Nat, s = s' := ⟨s.toNat, by omega⟩
  conv => whnf
  rw [w64 (n := 8 * (s : Int)) (by omega) (by omega), show IntKind.u64.wrap (8 * (s : Int)) = 8 * s by rw [wu64]; omega]
  conv => whnf
  have hsh : v.fdiv (2 ^ min ((8 : Int) * (s : Int)).toNat IntKind.i64.bits) = v / 2 ^ (8 * s) := by
    rw [Int.fdiv_eq_ediv_of_nonneg _ (Int.pow_nonneg (by omega))]
    rw [show min ((8 : Int) * (s : Int)).toNat IntKind.i64.bits = 8 * s by simp only [IntKind.bits]; omega]
  rw [hsh]
  have hpos : (0 : Int) < 2 ^ (8 * s) := Int.pow_pos (by omega)
  refine condB_mk (fun h4 => ?_) (fun h4 => ?_)
  · conv => whnf
    exact hbad (by
      have h4 : v / 2 ^ (8 * s) ≠ 0 := by simpa using h4
      simp only [putOk, Bool.and_eq_false_iff, decide_eq_false_iff_not]
      right; right; right
      rw [show ((8 : Int) * (s : Int)).toNat = 8 * s by omega]
      intro hlt
      exact h4 (Int.ediv_eq_zero_of_lt h3 hlt)) []
  have h4 : v < 2 ^ (8 * s) := by
    have h4 : v / 2 ^ (8 * s) = 0 := by simpa using h4
    have := Int.lt_ediv_add_one_mul_self v hpos
    rw [h4] at this; omega
  conv => whnf
  refine S_Twin (f := f) Shows.vsl (by omega) (fun cap1 => ?_)
  conv => whnf
  rw [w64 (n := (s : Int) - 1) (by omega) (by omega)]
  refine loop_wk mixed (I := fun q l m => ∃ (i : Int) (N c : Nat) (g : Nat → Int), l = [(1, .int .i64 v), (8, .sl 0 0 N c), (9, .int .i64 i)] ∧ m = [some ⟨1, N, bytesG g⟩] ∧ (q : Int) = i + 1 ∧ -1 ≤ i ∧ i ≤ s - 1 ∧ (N : Int) = n + s - 1 - i ∧ ∀ j, j < N → g j = putB n f v s j) s
    (l0 := [(1, .int .i64 v), (8, .sl 0 0 n cap1), (9, .int .i64 (s - 1))]) (m0 := [some ⟨1, n, bytesG f⟩]) [some 0] ⟨s - 1, n, cap1, f, rfl, rfl, by omega, by omega, by omega, by omega, fun j hj => ?_⟩ ?_ ?_
  · simp [putB, hj]
  · refine .mk0 ⟨Flat.i rfl, .sl _ _ _ _ _ rfl, Flat.i rfl, trivial⟩ ⟨.old 0 0 _ _ rfl rfl ⟨rfl, Nat.le_refl _, fun i j hi hj => .eq _ _ rfl (.int _ _)⟩, trivial⟩ rfl rfl
  · rintro q l m ⟨i, N, c, g, rfl, rfl, hq, hi1, hi2, hN, hg⟩
    conv => whnf
    refine condB_mk (fun hb => ?_) (fun hb => ?_)
    · have hb : 0 ≤ i := by simpa using hb
      conv => whnf
      rw [w64 (n := 8 * i) (by omega) (by omega), show IntKind.u64.wrap (8 * i) = 8 * i by rw [wu64]; omega]
      refine condB_ok (decide_eq_true (by omega)) ?_
      conv => whnf
      refine condB_ok (app_ok (decide_eq_true (Nat.le_refl _)) rfl rfl (by omega) (by omega)) (fun cap' hcap => ?_)
      conv => whnf
      rw [w64 (n := i - 1) (by omega) (by omega)]
      refine ⟨q - 1, [(1, .int .i64 v), (8, .sl 0 0 (N + 1) cap'), (9, .int .i64 (i - 1))], [some ⟨1, N + 1, bytesG (fun j => if j < N then g j else (v / 2 ^ (8 * (s - 1 - (N - n)))) % 256)⟩], [some 2], by omega,
        ⟨i - 1, N + 1, cap', _, rfl, rfl, by omega, by omega, by omega, by omega, fun j hj => ?_⟩, ?_⟩
      · by_cases hjN : j < N
        · simp only [if_pos hjN]; exact hg j hjN
        · obtain rfl : j = N := by omega
          simp only [if_neg hjN]
          rw [putB, if_neg (by omega), Int.toNat_natCast]
      · refine .mk0 ⟨Flat.i rfl, .sl _ _ _ _ _ rfl, Flat.i rfl, trivial⟩ ⟨.old 0 2 _ _ rfl rfl ⟨rfl, Nat.le_refl _, fun j k hj hk => ?_⟩, trivial⟩ rfl rfl
        have hk : k < 1 := hk
        obtain rfl : k = 0 := by omega
        have hj : j < N + 1 := hj
        by_cases hjN : j < N
        · refine .eq _ _ ?_ ?_
          · dsimp only
            rw [catG_lt hjN]; simp only [bytesG, if_pos hjN]
          · dsimp only
            rw [catG_lt hjN]; exact .int _ _
        · obtain rfl : j = N := by omega
          have e : IntKind.u8.wrap (v.fdiv (2 ^ min (8 * i).toNat IntKind.i64.bits)) = (v / 2 ^ (8 * (s - 1 - (j - n)))) % 256 := by
            rw [IntKind.wrap_u8, Int.fdiv_eq_ediv_of_nonneg _ (Int.pow_nonneg (by omega))]
            rw [show min (8 * i).toNat IntKind.i64.bits = 8 * (s - 1 - (j - n)) by simp only [IntKind.bits]; omega]
          refine .eq _ _ ?_ ?_
          · dsimp only
            rw [catG_ge (Nat.le_refl _)]; simp only [bytesG, if_neg hjN, Nat.sub_self]
            rw [← e]; rfl
          · dsimp only
            rw [catG_ge (Nat.le_refl _), Nat.sub_self]; exact .int _ _
    · have hb : i = -1 := by simp at hb; omega
      conv => whnf
      have hok : putOk v s = true := by
        simp only [putOk, Bool.and_eq_true, decide_eq_true_eq]
        rw [show ((8 : Int) * (s : Int)).toNat = 8 * s by omega]
        exact ⟨h1, h2, h3, h4⟩
      refine ⟨N, putB n f v s, _, _, rfl, by rw [if_pos hok]; exact ⟨by omega, rfl, rfl⟩, .inr ⟨0, c, N, _, rfl, rfl, Nat.le_refl _, fun i hi => by rw [← hg i hi]; rfl⟩, .cons _ _ (.int _ _) .nil⟩

theorem S_refPut {m : Mem} {x : AV} {n : Nat} {f : Nat → Int} {K : AV → Mem → Prop} (v s : Int) (hx : Shows m x n f) (hn : n ≤ 140737488355000) (hv : -9223372036854775808 ≤ v ∧ v ≤ 9223372036854775807)
    (h0 : putOk v s = false → ∀ cap f', memK (m ++ [some ⟨1, 0, bytesG f'⟩]) (K (.tup [.sl m.length 0 0 cap, .int .i64 1])))
    (h1 : putOk v s = true → ∀ cap, memK (m ++ [some ⟨1, n + s.toNat, bytesG (putB n f v s)⟩]) (K (.tup [.sl m.length 0 (n + s.toNat) cap, .int .i64 0]))) : ACall Pg F_witanref10_Put [x, .int .i64 v, .int .i64 s] m K := by
  simp only [memK_eq] at h0 h1
  obtain ⟨cap, hl⟩ := hx
  refine lift_tup (S_refPut0 n cap f v s hn hv) (.cons _ _ _ _ hl (.cons _ _ _ _ lend_int (.cons _ _ _ _ lend_int .nil))) ?_
  intro n' f' cap' vs hR
  cases hp : putOk v s
  · rw [if_neg (by simp [hp])] at hR
    obtain ⟨rfl, rfl⟩ := hR
    exact h0 hp cap' f'
  · rw [if_pos hp] at hR
    obtain ⟨rfl, rfl, rfl⟩ := hR
    exact h1 hp cap'
end Go.Proofs.Ytjflfecdeicccaa
end

section
/- What the readers of bin make; no condition. -/
set_option linter.unusedVariables false
set_option linter.unusedSimpArgs false
set_option maxRecDepth 100000
set_option pp.maxSteps 300
namespace Go.Proofs.Ytjflfecdeicccaa
open Go Go.Wit

theorem or_byte {a b : Int} (ha : 0 ≤ a ∧ a < 36028797018963968) (hb : 0 ≤ b ∧ b ≤ 255) : bitsV .or .i64 (a * 256) b = a * 256 + b := by
  obtain ⟨A, rfl⟩ : ∃ A : Nat, a = A := ⟨a.toNat, by omega⟩
  obtain ⟨B, rfl⟩ : ∃ B : Nat, b = B := ⟨b.toNat, by omega⟩
  have h1 : BitVec.ofInt 64 ((A : Int) * 256) = BitVec.ofNat 64 (256 * A) := by
    rw [show ((A : Int) * 256) = ((256 * A : Nat) : Int) by omega, BitVec.ofInt_natCast]
  have h2 : BitVec.ofInt 64 (B : Int) = BitVec.ofNat 64 B := BitVec.ofInt_natCast _ _
  show IntKind.i64.wrap ((BitVec.ofInt 64 ((A : Int) * 256) ||| BitVec.ofInt 64 (B : Int)).toNat) = _
  rw [h1, h2, BitVec.toNat_or, BitVec.toNat_ofNat, BitVec.toNat_ofNat, Nat.mod_eq_of_lt (by omega), Nat.mod_eq_of_lt (by omega)]
  have h3 := Nat.two_pow_add_eq_or_of_lt (i := 8) (b := B) (by omega) A
  rw [show (256 : Nat) = 2 ^ 8 from rfl, ← h3, w64 (by omega) (by omega)]
  omega

def getV (f : Nat → Int) (p : Nat) : Nat → Int
  | 0 => 0
  | k + 1 => getV f p k * 256 + f (p + k)

theorem getV_lt {f : Nat → Int} {p k : Nat} (hf : ∀ i, i < p + k → 0 ≤ f i ∧ f i ≤ 255) : 0 ≤ getV f p k ∧ getV f p k < 256 ^ k := by
  induction k with
  | zero => simp [getV]
  | succ k ih =>
    have h1 := ih (fun i hi => hf i (by omega))
    have h2 := hf (p + k) (by omega)
    simp only [getV]
    have : (256 : Int) ^ (k + 1) = 256 ^ k * 256 := by rw [Int.pow_succ]
    omega

def getE (n : Nat) (pos s : Int) : Int :=
  if decide (1 ≤ s) && (decide (s ≤ 7) && (decide (0 ≤ pos) && decide (pos ≤ n))) then (if (n : Int) - pos < s then 7 else 0) else 1

def getR (n : Nat) (f : Nat → Int) (pos s : Int) : AV :=
  if getE n pos s = 0 then .tup [.int .i64 (getV f pos.toNat s.toNat), .int .i64 (pos + s), .int .i64 0] else .tup [.int .i64 0, .int .i64 0, .int .i64 (getE n pos s)]

theorem S_Get0 (n cap : Nat) (f : Nat → Int) (pos s : Int) (hn : n ≤ 140737488355328) (hf : ∀ i, i < n → 0 ≤ f i ∧ f i ≤ 255) : ACall Pg F_bin_Get [.vsl 1 n cap (bytesG f), .int .i64 pos, .int .i64 s] []
    (fun r m' => r = getR n f pos s ∧ Flat true r) := by
  refine B_bin_Get ⟨rfl, ?_⟩
  have hbad : getE n pos s ≠ 0 → ∀ e, e = getE n pos s → AV.tup [.int .i64 0, .int .i64 0, .int .i64 e] = getR n f pos s ∧ Flat true (AV.tup [.int .i64 0, .int .i64 0, .int .i64 e]) := by
    rintro h e rfl
    exact ⟨by rw [getR, if_neg h], .tup _ (.cons _ _ (.int _ _) (.cons _ _ (.int _ _) (.cons _ _ (.int _ _) .nil)))⟩
  conv => whnf
  refine condB_mk (fun h1 => ?_) (fun h1 => ?_)
  rotate_left
  · conv => whnf
    have : getE n pos s = 1 := by simp at h1; simp [getE]; omega
    exact hbad (by omega) _ this.symm
  have h1 : 1 ≤ s := by simpa using h1
  conv => whnf
  refine condB_mk (fun h2 => ?_) (fun h2 => ?_)
  rotate_left
  · conv => whnf
    have : getE n pos s = 1 := by simp at h2; simp [getE]; omega
    exact hbad (by omega) _ this.symm
  have h2 : s ≤ 7 := by simpa using h2
  conv => whnf
  refine condB_mk (fun h3 => ?_) (fun h3 => ?_)
  rotate_left
  · conv => whnf
    have : getE n pos s = 1 := by simp at h3; simp [getE]; omega
    exact hbad (by omega) _ this.symm
  have h3 : 0 ≤ pos := by simpa using h3
  conv => whnf
  refine condB_mk (fun h4 => ?_) (fun h4 => ?_)
  · conv => whnf
    have : getE n pos s = 1 := by simp at h4; simp [getE]; omega
    exact hbad (by omega) _ this.symm
  have h4 : pos ≤ n := by simpa using h4
  conv => whnf
  rw [w64 (n := (n : Int) - pos) (by omega) (by omega)]
  refine condB_mk (fun h5 => ?_) (fun h5 => ?_)
  · conv => whnf
    have : getE n pos s = 7 := by simp at h5; simp [getE]; omega
    exact hbad (by omega) _ this.symm
  have h5 : s ≤ n - pos := by simpa using h5
  obtain ⟨p, rfl⟩ : ∃ p : Nat, pos = p := ⟨pos.toNat, by omega⟩
  obtain ⟨s, rfl⟩ : ∃ s' : Nat, s = s' := ⟨s.toNat, by omega⟩
  have hsum : IntKind.i64.wrap ((p : Int) + s) = ((p + s : Nat) : Int) := by rw [w64 (n := (p : Int) + s) (by omega) (by omega)]; omega
  conv => whnf
  rw [hsum]
  refine condB_ok ?_ ?_
  · simp only [hsum, Int.toNat_natCast, Bool.and_eq_true, Bool.or_eq_true, decide_eq_true_eq]; exact ⟨⟨trivial, ⟨by omega, .inl (by omega)⟩, by omega, by omega⟩, by omega⟩
  simp only [Int.toNat_natCast, Nat.add_sub_cancel_left]
  conv => whnf
  have hf' : ∀ i, i < p + s → 0 ≤ f i ∧ f i ≤ 255 := fun i hi => hf i (by omega)
  refine loop_wk mixed (I := fun q l m => ∃ (k : Nat), l = [(1, .int .i64 p), (2, .int .i64 s), (6, .int .i64 (getV f p k)), (40, .vsl 1 s (cap - p) (fun i j => bytesG f (i + p) j)), (41, .int .i64 s), (42, .int .i64 k)] ∧ m = [] ∧ q + k = s) s
    (l0 := [(1, .int .i64 p), (2, .int .i64 s), (6, .int .i64 0), (40, .vsl 1 s (cap - p) (fun i j => bytesG f (i + p) j)), (41, .int .i64 s), (42, .int .i64 0)]) (m0 := []) [] ⟨0, rfl, rfl, rfl⟩ ?_ ?_
  · exact .mk0 ⟨Flat.i rfl, Flat.i rfl, Flat.i rfl, .eq _ _ rfl (.vsl _ _ _ _ rfl (fun _ _ _ _ => .int _ _)), Flat.i rfl, Flat.i rfl, trivial⟩ trivial rfl rfl
  · rintro q l m ⟨k, rfl, rfl, hq⟩
    conv => whnf
    refine condB_mk (fun hb => ?_) (fun hb => ?_)
    · have hb : k < s := by simpa using hb
      conv => whnf
      refine condB_ok (by simp; omega) ?_
      conv => whnf
      obtain ⟨g1, g2⟩ := getV_lt (f := f) (p := p) (k := k) (fun i hi => hf' i (by omega))
      have g3 : (256 : Int) ^ k ≤ 256 ^ 6 := by
        have : 256 ^ k ≤ 256 ^ 6 := Nat.pow_le_pow_right (by omega) (by omega)
        exact_mod_cast this
      have g4 := hf' (p + k) (by omega)
      rw [w64 (n := (k : Int) + 1) (by omega) (by omega), show min (Int.toNat 8) IntKind.i64.bits = 8 from rfl, Int.toNat_natCast, Nat.add_comm k p,
        w64 (n := f (p + k)) (by omega) (by omega), w64 (n := getV f p k * 2 ^ 8) (by omega) (by omega)]
      refine ⟨q - 1, [(1, .int .i64 p), (2, .int .i64 s), (6, .int .i64 (getV f p (k + 1))), (40, .vsl 1 s (cap - p) (fun i j => bytesG f (i + p) j)), (41, .int .i64 s), (42, .int .i64 ((k + 1 : Nat) : Int))], [], [], by omega, ⟨k + 1, rfl, rfl, by omega⟩, ?_⟩
      exact .mk0 ⟨Flat.i rfl, Flat.i rfl, Flat.i (or_byte (by omega) g4), .eq _ _ rfl (.vsl _ _ _ _ rfl (fun _ _ _ _ => .int _ _)), Flat.i rfl, Flat.i (by omega), trivial⟩ trivial rfl rfl
    · have hb : k = s := by simp at hb; omega
      subst hb
      conv => whnf
      rw [hsum]
      have h0 : getE n p k = 0 := by
        simp only [getE]
        rw [if_pos (by simp; omega), if_neg (by omega)]
      refine ⟨?_, .tup _ (.cons _ _ (.int _ _) (.cons _ _ (.int _ _) (.cons _ _ (.int _ _) .nil)))⟩
      rw [getR, if_pos h0, Int.toNat_natCast, Int.toNat_natCast, Int.natCast_add]

theorem S_Get {m : Mem} {x : AV} {n : Nat} {f : Nat → Int} {K : AV → Mem → Prop} (pos s : Int) (hx : Shows m x n f) (hn : n ≤ 140737488355328) (hf : ∀ i, i < n → 0 ≤ f i ∧ f i ≤ 255) (h : K (getR n f pos s) m) : ACall Pg F_bin_Get [x, .int .i64 pos, .int .i64 s] m K := by
  obtain ⟨cap, hl⟩ := hx
  refine lift_flat (S_Get0 n cap f pos s hn hf) (.cons _ _ _ _ hl (.cons _ _ _ _ lend_int (.cons _ _ _ _ lend_int .nil))) ?_
  rintro v rfl
  exact h

end Go.Proofs.Ytjflfecdeicccaa
end

section
/- Rows held against one another; no condition. -/
set_option linter.unusedVariables false
set_option linter.unusedSimpArgs false
set_option maxRecDepth 100000
set_option pp.maxSteps 300
namespace Go.Proofs.Ytjflfecdeicccaa
open Go Go.Wit

def sameB (n1 : Nat) (f : Nat → Int) (n2 : Nat) (g : Nat → Int) : Bool := decide (n1 = n2) && (List.range n1).all fun i => decide (f i = g i)

theorem sameB_eq {n1 n2 : Nat} {f g : Nat → Int} : sameB n1 f n2 g = true ↔ n1 = n2 ∧ ∀ i, i < n1 → f i = g i := by simp [sameB]

theorem S_Bytes0 (n1 c1 n2 c2 : Nat) (f g : Nat → Int) (h1 : n1 ≤ 140737488355328) : ACall Pg F_witankeep_Bytes [.vsl 1 n1 c1 (bytesG f), .vsl 1 n2 c2 (bytesG g)] []
    (fun r m' => r = .bool (sameB n1 f n2 g) ∧ Flat true r) := by
  refine B_witankeep_Bytes ⟨rfl, ?_⟩
  conv => whnf
  refine condB_mk (fun hc => ?_) (fun hc => ?_)
  · conv => whnf
    have hc : ¬ n1 = n2 := by simp at hc; omega
    exact ⟨by simp [sameB, hc], .bool _⟩
  have hc : n1 = n2 := by simp at hc; omega
  subst hc
  conv => whnf
  refine loop_wk mixed (I := fun q l m => ∃ (k : Nat), l = [(0, .vsl 1 n1 c1 (bytesG f)), (1, .vsl 1 n1 c2 (bytesG g)), (5, .int .i64 k)] ∧ m = [] ∧ q + k = n1 ∧ ∀ i, i < k → f i = g i) n1
    (l0 := [(0, .vsl 1 n1 c1 (bytesG f)), (1, .vsl 1 n1 c2 (bytesG g)), (5, .int .i64 0)]) (m0 := []) [] ⟨0, rfl, rfl, rfl, fun i hi => absurd hi (Nat.not_lt_zero _)⟩ ?_ ?_
  · exact .mk0 ⟨.eq _ _ rfl (.vsl _ _ _ _ rfl (fun _ _ _ _ => .int _ _)), .eq _ _ rfl (.vsl _ _ _ _ rfl (fun _ _ _ _ => .int _ _)), Flat.i rfl, trivial⟩ trivial rfl rfl
  · rintro q l m ⟨k, rfl, rfl, hq, hk⟩
    conv => whnf
    refine condB_mk (fun hb => ?_) (fun hb => ?_)
    · have hb : k < n1 := by simpa using hb
      conv => whnf
      refine condB_ok (by simp; omega) ?_
      conv => whnf
      refine condB_ok (by simp; omega) ?_
      conv => whnf
      refine condB_mk (fun hd => ?_) (fun hd => ?_)
      · conv => whnf
        have hd : f k ≠ g k := by simpa using hd
        refine ⟨?_, .bool _⟩
        have : sameB n1 f n1 g = false := by
          rw [Bool.eq_false_iff]; intro h
          exact hd ((sameB_eq.1 h).2 k hb)
        rw [this]
      · conv => whnf
        have hd : f k = g k := by simpa using hd
        rw [w64 (n := (k : Int) + 1) (by omega) (by omega)]
        refine ⟨q - 1, [(0, .vsl 1 n1 c1 (bytesG f)), (1, .vsl 1 n1 c2 (bytesG g)), (5, .int .i64 ((k + 1 : Nat) : Int))], [], [], by omega, ⟨k + 1, rfl, rfl, by omega, fun i hi => ?_⟩, ?_⟩
        · by_cases hik : i = k
          · rw [hik]; exact hd
          · exact hk i (by omega)
        · exact .mk0 ⟨.eq _ _ rfl (.vsl _ _ _ _ rfl (fun _ _ _ _ => .int _ _)), .eq _ _ rfl (.vsl _ _ _ _ rfl (fun _ _ _ _ => .int _ _)), Flat.i (by omega), trivial⟩ trivial rfl rfl
    · have hb : k = n1 := by simp at hb; omega
      subst hb
      conv => whnf
      refine ⟨?_, .bool _⟩
      rw [sameB_eq.2 ⟨rfl, hk⟩]

theorem S_Bytes {m : Mem} {x y : AV} {n1 n2 : Nat} {f g : Nat → Int} {K : AV → Mem → Prop} (hx : Shows m x n1 f) (hy : Shows m y n2 g) (h1 : n1 ≤ 140737488355328) (h : K (.bool (sameB n1 f n2 g)) m) : ACall Pg F_witankeep_Bytes [x, y] m K := by
  obtain ⟨c1, hl⟩ := hx
  obtain ⟨c2, hl2⟩ := hy
  refine lift_flat (S_Bytes0 n1 c1 n2 c2 f g h1) (.cons _ _ _ _ hl (.cons _ _ _ _ hl2 .nil)) ?_
  rintro v rfl
  exact h
end Go.Proofs.Ytjflfecdeicccaa
end

section
/- (Nothing of its own.) -/
end

section
/- The reader of the reference; no condition. -/
set_option linter.unusedVariables false
set_option linter.unusedSimpArgs false
set_option maxRecDepth 100000
set_option pp.maxSteps 300
namespace Go.Proofs.Ytjflfecdeicccaa
open Go Go.Wit

theorem S_refGet0 (n cap : Nat) (f : Nat → Int) (pos s : Int) (hn : n ≤ 140737488355328) (hf : ∀ i, i < n → 0 ≤ f i ∧ f i ≤ 255) : ACall Pg F_witanref10_Get [.vsl 1 n cap (bytesG f), .int .i64 pos, .int .i64 s] []
    (fun r m' => r = getR n f pos s ∧ Flat true r) := by
  refine B_witanref10_Get ⟨rfl, ?_⟩
  have hbad : getE n pos s ≠ 0 → ∀ e, e = getE n pos s → AV.tup [.int .i64 0, .int .i64 0, .int .i64 e] = getR n f pos s ∧ Flat true (AV.tup [.int .i64 0, .int .i64 0, .int .i64 e]) := by
    rintro h e rfl
    exact ⟨by rw [getR, if_neg h], .tup _ (.cons _ _ (.int _ _) (.cons _ _ (.int _ _) (.cons _ _ (.int _ _) .nil)))⟩
  conv => whnf
  refine condB_mk (fun h1 => ?_) (fun h1 => ?_)
  rotate_left
  · conv => whnf
    have : getE n pos s = 1 := by simp at h1; simp [getE]; omega
    exact hbad (by omega) _ this.symm
  have h1 : 1 ≤ s := by simpa using h1
  conv => whnf
  refine condB_mk (fun h2 => ?_) (fun h2 => ?_)
  rotate_left
  · conv => whnf
    have : getE n pos s = 1 := by simp at h2; simp [getE]; omega
    exact hbad (by omega) _ this.symm
  have h2 : s ≤ 7 := by simpa using h2
  conv => whnf
  refine condB_mk (fun h3 => ?_) (fun h3 => ?_)
  rotate_left
  · conv => whnf
    have : getE n pos s = 1 := by simp at h3; simp [getE]; omega
    exact hbad (by omega) _ this.symm
  have h3 : 0 ≤ pos := by simpa using h3
  conv => whnf
  refine condB_mk (fun h4 => ?_) (fun h4 => ?_)
  · conv => whnf
    have : getE n pos s = 1 := by simp at h4; simp [getE]; omega
    exact hbad (by omega) _ this.symm
  have h4 : pos ≤ n := by simpa using h4
  conv => whnf
  rw [w64 (n := (n : Int) - pos) (by omega) (by omega)]
  refine condB_mk (fun h5 => ?_) (fun h5 => ?_)
  · conv => whnf
    have : getE n pos s = 7 := by simp at h5; simp [getE]; omega
    exact hbad (by omega) _ this.symm
  have h5 : s ≤ n - pos := by simpa using h5
  obtain ⟨p, rfl⟩ : ∃ p : Nat, pos = p := ⟨pos.toNat, by omega⟩
  obtain ⟨s, rfl⟩ : ∃ s' : Nat, s = s' := ⟨s.toNat, by omega⟩
  have hsum : IntKind.i64.wrap ((p : Int) + s) = ((p + s : Nat) : Int) := by rw [w64 (n := (p : Int) + s) (by omega) (by omega)]; omega
  conv => whnf
  have hf' : ∀ i, i < p + s → 0 ≤ f i ∧ f i ≤ 255 := fun i hi => hf i (by omega)
  refine loop_wk mixed (I := fun q l m => ∃ (k : Nat), l = [(0, .vsl 1 n cap (bytesG f)), (1, .int .i64 p), (2, .int .i64 s), (9, .int .i64 (getV f p k)), (10, .int .i64 k)] ∧ m = [] ∧ q + k = s) s
    (l0 := [(0, .vsl 1 n cap (bytesG f)), (1, .int .i64 p), (2, .int .i64 s), (9, .int .i64 0), (10, .int .i64 0)]) (m0 := []) [] ⟨0, rfl, rfl, rfl⟩ ?_ ?_
  · exact .mk0 ⟨.eq _ _ rfl (.vsl _ _ _ _ rfl (fun _ _ _ _ => .int _ _)), Flat.i rfl, Flat.i rfl, Flat.i rfl, Flat.i rfl, trivial⟩ trivial rfl rfl
  · rintro q l m ⟨k, rfl, rfl, hq⟩
    conv => whnf
    refine condB_mk (fun hb => ?_) (fun hb => ?_)
    · have hb : k < s := by simpa using hb
      have hpk : IntKind.i64.wrap ((p : Int) + k) = ((p + k : Nat) : Int) := by rw [w64 (n := (p : Int) + k) (by omega) (by omega)]; omega
      conv => whnf
      rw [hpk]
      refine condB_ok (by simp only [hpk, Bool.and_eq_true, decide_eq_true_eq]; omega) ?_
      conv => whnf
      obtain ⟨g1, g2⟩ := getV_lt (f := f) (p := p) (k := k) (fun i hi => hf' i (by omega))
      have g3 : (256 : Int) ^ k ≤ 256 ^ 6 := by
        have : 256 ^ k ≤ 256 ^ 6 := Nat.pow_le_pow_right (by omega) (by omega)
        exact_mod_cast this
      have g4 := hf' (p + k) (by omega)
      rw [w64 (n := (k : Int) + 1) (by omega) (by omega), show min (Int.toNat 8) IntKind.i64.bits = 8 from rfl, Int.toNat_natCast,
        w64 (n := f (p + k)) (by omega) (by omega), w64 (n := getV f p k * 2 ^ 8) (by omega) (by omega)]
      refine ⟨q - 1, [(0, .vsl 1 n cap (bytesG f)), (1, .int .i64 p), (2, .int .i64 s), (9, .int .i64 (getV f p (k + 1))), (10, .int .i64 ((k + 1 : Nat) : Int))], [], [], by omega, ⟨k + 1, rfl, rfl, by omega⟩, ?_⟩
      exact .mk0 ⟨.eq _ _ rfl (.vsl _ _ _ _ rfl (fun _ _ _ _ => .int _ _)), Flat.i rfl, Flat.i rfl, Flat.i (or_byte (by omega) g4), Flat.i (by omega), trivial⟩ trivial rfl rfl
    · have hb : k = s := by simp at hb; omega
      subst hb
      conv => whnf
      rw [hsum]
      have h0 : getE n p k = 0 := by
        simp only [getE]
        rw [if_pos (by simp; omega), if_neg (by omega)]
      refine ⟨?_, .tup _ (.cons _ _ (.int _ _) (.cons _ _ (.int _ _) (.cons _ _ (.int _ _) .nil)))⟩
      rw [getR, if_pos h0, Int.toNat_natCast, Int.toNat_natCast, Int.natCast_add]

theorem S_refGet {m : Mem} {x : AV} {n : Nat} {f : Nat → Int} {K : AV → Mem → Prop} (pos s : Int) (hx : Shows m x n f) (hn : n ≤ 140737488355328) (hf : ∀ i, i < n → 0 ≤ f i ∧ f i ≤ 255) (h : K (getR n f pos s) m) : ACall Pg F_witanref10_Get [x, .int .i64 pos, .int .i64 s] m K := by
  obtain ⟨cap, hl⟩ := hx
  refine lift_flat (S_refGet0 n cap f pos s hn hf) (.cons _ _ _ _ hl (.cons _ _ _ _ lend_int (.cons _ _ _ _ lend_int .nil))) ?_
  rintro v rfl
  exact h

end Go.Proofs.Ytjflfecdeicccaa
end

