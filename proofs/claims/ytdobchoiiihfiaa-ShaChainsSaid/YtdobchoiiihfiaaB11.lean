/- Regions told by a plan: whatever order is drawn, what the plan tells comes out; no condition. -/
import Derived.Test.YtdobchoiiihfiaaB10
set_option linter.unusedVariables false
set_option linter.unusedSimpArgs false
namespace Go.Wit

def fOfL (l : List AOpr) (i : Nat) : Option (Nat × (Nat → AV) × Blk) := match l[i]? with | some o => fOf o | none => none
def isAl (l : List AOpr) (i : Nat) : Bool := match l[i]? with | some ⟨some _, .alloc _ _ _, none⟩ => true | _ => false
def sOf (l : List AOpr) (s : Nat) : Option (Nat × Nat × Nat) := match l[s]? with | some ⟨none, .store sz (.t d) (.t v), none⟩ => some (sz, d, v) | _ => none
abbrev FS := List (Nat × Option Nat)
def fsI (fs : FS) : List Nat := fs.map (·.1) ++ fs.filterMap (·.2)

def fillOne (l : List AOpr) (ps : List (Nat × AV)) (p : Nat × Option Nat) : Option (Nat × (Nat → AV) × Blk) :=
  match fOfL l p.1 with
  | none => none
  | some (d, val, blk) => match p.2 with
    | none => some (d, val, blk)
    | some s => match sOf l s, ps.lookup s with
      | some (sz, _, _), some v => (storeB sz v blk).map fun b => (d, val, b)
      | _, _ => none

noncomputable def fillK (l : List AOpr) (ps : List (Nat × AV)) (fs : FS) : Env → Mem → (Env → Mem → Prop) → Prop :=
  List.rec (motive := fun _ => Env → Mem → (Env → Mem → Prop) → Prop) (fun e m K => K e m)
    (fun p _ ih e m K => match fillOne l ps p with
      | some (d, val, blk) => memK (m ++ [some blk]) fun m' => putK e (some d) (val m.length) fun e' => ih e' m' K
      | none => False) fs

def keepK (keep : Keep) (kp : Bool) (m0 m : Mem) (X : Prop) : Prop := bif kp then (match keep with
  | .no => X
  | .all => (∃ t, m = m0 ++ t) ∧ X
  | .shp => (∃ t, shpM m = shpM m0 ++ t) ∧ X) else X
theorem keepK_spec {keep : Keep} {kp : Bool} {m0 m : Mem} {X : Prop} (h : keepK keep kp m0 m X) : (kp = true → keepR keep m0 m) ∧ X := by
  unfold keepK at h
  cases kp with
  | false => exact ⟨fun h => Bool.noConfusion h, h⟩
  | true => cases keep <;> first | exact ⟨fun _ => trivial, h⟩ | exact ⟨fun _ => h.1, h.2⟩

noncomputable def vcPlan (P : Program) (l : List AOpr) (keep : Keep) (m0 : Mem) (fs : FS) (K : Env → Mem → Prop) (p : DPlan) : List (Nat × AV) → Env → Env → Mem → Prop :=
  DPlan.rec (motive := fun _ => List (Nat × AV) → Env → Env → Mem → Prop)
    (fun _ _ _ _ => False)
    (fun _ e _ m => K e m)
    (fun i _ ih ps e g m => match l[i]? with
      | some o => vcLook o e g m (flM keep m0) fun e g => ih ps e g m
      | none => False)
    (fun i kp _ ih ps e g m => match l[i]? with
      | some o => vcOp P o e m fun e' m' => keepK keep kp m0 m' (match o.dst with
        | none => ih ps e' g m'
        | some d => putK g (some d) (flt (e'.get d)) fun g' => ih ps e' g' m')
      | none => False)
    (fun f s _ ih ps e g m => match fOfL l f, sOf l s with
      | some (d, _, blk), some (sz, d', v) => condB ((d == d') && (det2 true (e.get v) && (storeB sz (e.get v) blk).isSome)) (forceV (e.get v) fun x => ih ((s, x) :: ps) e g m) False
      | _, _ => False)
    (fun _ ih ps e g m => fillK l ps fs e m fun e m => ih ps e g m) p

def bndB (ops : Array Oper) (j q : Nat) : Bool := match ops[j]? with | some oj => oj.after.any (fun e => Region.binds .any e && e.on == q) | none => false
def prIn (ops : Array Oper) (j : Nat) (S : List Nat) : Bool := match ops[j]? with | some oj => oj.after.all (fun e => !Region.binds .any e || S.contains e.on) | none => false
def apt (ops : Array Oper) (i j : Nat) : Bool := match ops[i]?, ops[j]? with | some a, some b => a.apart ops b | _, _ => true
def chkI (P : Program) (n : Nat) (ops : Array Oper) (l : List AOpr) (i : Nat) : Bool := match ops[i]?, l[i]? with | some o, some ao => chkOpr P n ops o ao | _, _ => false
def fdNe (l : List AOpr) (fs : FS) (d : Nat) : Bool := fs.all fun q => match fOfL l q.1 with | some (d', _, _) => d' != d | none => false
def dstNot (l : List AOpr) (fs : FS) (pv : List Nat) (i : Nat) : Bool := match l[i]? with
  | some o => (match o.dst with | some d => !(pv.contains d) && fdNe l fs d | none => true)
  | none => false
def chkT (ops : Array Oper) : List Nat → List Nat → Bool
  | [], _ => true
  | t :: ts, S => prIn ops t S && chkT ops ts (t :: S)

def DPlan.looks : DPlan → List Nat
  | .flat => []
  | .done => []
  | .look i p => i :: p.looks
  | .run _ _ p => p.looks
  | .pre _ _ p => p.looks
  | .fill p => p.looks
def ndB1 (ops : Array Oper) (lk : List Nat) (j : Nat) : Bool := !(lk.all (bndB ops j))

def chkPlan (P : Program) (n : Nat) (ops : Array Oper) (l : List AOpr) (lk : List Nat) : DPlan → Bool → FS → List Nat → List Nat → List Nat → Bool
  | .flat, _, _, _, _, _ => false
  | .done, _, fs, LC, _, _ => fs.isEmpty && (List.range ops.size).all LC.contains
  | .look i p, kc, fs, LC, pre, pv => kc && (lk.contains i && (chkI P n ops l i && (!(LC.contains i) && (!((fsI fs).contains i) && (prIn ops i LC && (((List.range ops.size).all fun j => j == i || (LC.contains j || (bndB ops j i || apt ops i j))) &&
      (dstNot l fs pv i && chkPlan P n ops l lk p kc fs (i :: LC) pre pv)))))))
  | .run i kp p, kc, fs, LC, pre, pv => (kp || !(ndB1 ops lk i)) && ((kc || (!kp && fs.isEmpty)) && ((kp || fs.isEmpty) && (chkI P n ops l i && (!(LC.contains i) && (!((fsI fs).contains i) && (prIn ops i LC && (((List.range ops.size).all fun j => j == i || (LC.contains j || ((fs.map (·.1)).contains j || (pre.contains j || !(prIn ops j (LC ++ fsI fs)))))) &&
      (dstNot l fs pv i && chkPlan P n ops l lk p (kc && kp) fs (i :: LC) pre pv))))))))
  | .pre f s p, kc, fs, LC, pre, pv => kc && (fs.contains (f, some s) && (isAl l f && (!(pre.contains s) && ((match sOf l s with | some (_, d, v) => d != v && (Nat.blt d 4000 && (Nat.blt v 4000 && (fdNe l fs v && chkPlan P n ops l lk p kc fs LC (s :: pre) (v :: pv)))) | none => false)))))
  | .fill p, kc, fs, LC, pre, _ => kc && (!fs.isEmpty && ((fs.all fun q => match q.2 with | some s => pre.contains s | none => true) && (chkT ops (fsI fs) LC && (((List.range ops.size).all fun j => LC.contains j || ((fsI fs).contains j || (fsI fs).all (bndB ops j))) &&
      chkPlan P n ops l lk p kc [] (fsI fs ++ LC) [] []))))

def ndN : List Nat → Bool
  | [] => true
  | x :: r => !(r.contains x) && ndN r
def fdDist (l : List AOpr) : FS → Bool
  | [] => true
  | q :: r => (match fOfL l q.1 with | some (d, _, _) => fdNe l r d | none => false) && fdDist l r
def chkFS (P : Program) (n : Nat) (ops : Array Oper) (l : List AOpr) (fs : FS) : Bool :=
  ndN (fsI fs) && (fdDist l fs && fs.all fun q => chkI P n ops l q.1 && ((fOfL l q.1).isSome && (match q.2 with | some s => chkI P n ops l s && (bndB ops s q.1 && (sOf l s).isSome) | none => true)))

def DPlan.need : DPlan → Nat
  | .flat => 0
  | .done => 0
  | .look _ p => p.need + 1
  | .run _ _ p => p.need + 1
  | .pre _ _ p => p.need
  | .fill p => p.need

theorem ndN_spec : ∀ {l : List Nat}, ndN l = true → l.Nodup
  | [], _ => .nil
  | x :: r, h => by
    simp only [ndN, Bool.and_eq_true, Bool.not_eq_true'] at h
    refine List.nodup_cons.2 ⟨fun hx => ?_, ndN_spec h.2⟩
    have := h.1
    simp at this
    exact this hx

theorem fdNe_spec {l : List AOpr} {fs : FS} {d : Nat} (h : fdNe l fs d = true) {q : Nat × Option Nat} (hq : q ∈ fs) {d' : Nat} {val : Nat → AV} {blk : Blk} (hf : fOfL l q.1 = some (d', val, blk)) : d' ≠ d := by
  have := List.all_eq_true.1 h q hq
  simp only [hf, bne_iff_ne] at this
  exact this

theorem fdDist_spec {l : List AOpr} : ∀ {fs : FS}, fdDist l fs = true → ∀ {q q' : Nat × Option Nat}, q ∈ fs → q' ∈ fs → q ≠ q' → ∀ {d d' : Nat} {val val' : Nat → AV} {blk blk' : Blk}, fOfL l q.1 = some (d, val, blk) → fOfL l q'.1 = some (d', val', blk') → d ≠ d'
  | [], _, q, _, hq, _, _, _, _, _, _, _, _, _, _ => by simp at hq
  | x :: r, h, q, q', hq, hq', hne, d, d', val, val', blk, blk', h1, h2 => by
    simp only [fdDist, Bool.and_eq_true] at h
    obtain ⟨h3, h4⟩ := h
    split at h3
    case h_2 => cases h3
    rename_i dx vx bx hx
    rcases List.mem_cons.1 hq with e1 | e1 <;> rcases List.mem_cons.1 hq' with e2 | e2
    · exact absurd (e1.trans e2.symm) hne
    · rw [e1, hx] at h1
      simp only [Option.some.injEq, Prod.mk.injEq] at h1
      rw [← h1.1]
      exact (fdNe_spec h3 e2 h2).symm
    · rw [e2, hx] at h2
      simp only [Option.some.injEq, Prod.mk.injEq] at h2
      rw [← h2.1]
      exact fdNe_spec h3 e1 h1
    · exact fdDist_spec h4 e1 e2 hne h1 h2

theorem mem_fsI {fs : FS} {j : Nat} : j ∈ fsI fs ↔ (∃ q, q ∈ fs ∧ q.1 = j) ∨ ∃ q, q ∈ fs ∧ q.2 = some j := by simp [fsI]

theorem fs_unique {fs : FS} (hn : (fsI fs).Nodup) {q q' : Nat × Option Nat} (hq : q ∈ fs) (hq' : q' ∈ fs) (h : q.1 = q'.1) : q = q' := by
  have h1 : (fs.map (·.1)).Nodup := (List.nodup_append.1 hn).1
  have : ∀ {fs : FS}, (fs.map (·.1)).Nodup → q ∈ fs → q' ∈ fs → q = q' := by
    intro fs
    induction fs with
    | nil => intro _ hq; simp at hq
    | cons x r ih =>
      intro hnd hq hq'
      simp only [List.map_cons, List.nodup_cons] at hnd
      rcases List.mem_cons.1 hq with e1 | e1 <;> rcases List.mem_cons.1 hq' with e2 | e2
      · exact e1.trans e2.symm
      · exact absurd (List.mem_map.2 ⟨q', e2, by rw [← h, e1]⟩) hnd.1
      · exact absurd (List.mem_map.2 ⟨q, e1, by rw [h, e2]⟩) hnd.1
      · exact ih hnd.2 e1 e2
  exact this h1 hq hq'

theorem fs_apart {fs : FS} (hn : (fsI fs).Nodup) {q q' : Nat × Option Nat} (hq : q ∈ fs) (hq' : q' ∈ fs) {s : Nat} (hs : q'.2 = some s) : q.1 ≠ s := by
  have h1 := (List.nodup_append.1 hn).2.2
  exact h1 _ (List.mem_map.2 ⟨q, hq, rfl⟩) _ (List.mem_filterMap.2 ⟨q', hq', hs⟩)

section
variable {P : Program} {C0 : Ctx} {n : Nat} {m0 : Mem} {w0 : World} {L0 : Lay} {ops : Array Oper} {l : List AOpr} {keep : Keep}

structure St (C0 : Ctx) (m0 : Mem) (w0 : World) (L0 : Lay) (n : Nat) (l : List AOpr) (keep : Keep) (kc : Bool) (fs : FS) (pre pv Ex : List Nat) (ps : List (Nat × AV)) (hs : List HB) (e g : Env) (m : Mem) (a : Act) (w : World) (L : Lay) : Prop where
  H : HRel (C0.here m0 w0 L0) n hs e m a w L
  G : GR (C0.here m0 w0 L0) m0 w0 L0 g a
  keepc : kc = true → keepR keep m0 m
  eun : ∀ q, q ∈ fs → ∀ d val blk, fOfL l q.1 = some (d, val, blk) → e.get d = .un ∧ g.get d = .un
  ex : ∀ j, j ∈ Ex → (∃ q, q ∈ fs ∧ q.1 = j) ∨ j ∈ pre
  hmem : ∀ h, h ∈ hs → h.i ∈ Ex ∧ ∃ q, q ∈ fs ∧ q.1 = h.i ∧ ∃ blk0, fOfL l h.i = some (h.d, h.val, blk0) ∧ ((h.blk = blk0 ∧ ∀ s, q.2 = some s → s ∉ Ex) ∨ ∃ s, q.2 = some s ∧ s ∈ Ex ∧ fillOne l ps q = some (h.d, h.val, h.blk))
  hall : ∀ q, q ∈ fs → q.1 ∈ Ex → ∃ h, h ∈ hs ∧ h.i = q.1
  hnd : (hs.map (·.i)).Nodup
  sf : ∀ q, q ∈ fs → ∀ s, q.2 = some s → s ∈ Ex → q.1 ∈ Ex
  pps : ∀ s, s ∈ pre → ∃ f d val blk v sz sv b, (f, some s) ∈ fs ∧ isAl l f = true ∧ fOfL l f = some (d, val, blk) ∧ sOf l s = some (sz, d, sv) ∧ ps.lookup s = some v ∧ det2 true v = true ∧ storeB sz v blk = some b ∧
    VR #[] (fun _ => none) (fun _ => False) v (a.tmps.getD sv undef) ∧ sv ∈ pv ∧ d ≠ sv ∧ d < 4000 ∧ sv < 4000 ∧ fdNe l fs sv = true

theorem chkI_spec {i : Nat} (h : chkI P n ops l i = true) : ∃ o ao, ops[i]? = some o ∧ l[i]? = some ao ∧ chkOpr P n ops o ao = true := by
  unfold chkI at h
  split at h
  · rename_i o ao h1 h2; exact ⟨o, ao, h1, h2, h⟩
  · cases h

theorem dst_spec {o : Oper} {ao : AOpr} (h : chkOpr P n ops o ao = true) : o.dst = ao.dst ∧ (∀ d, ao.dst = some d → d < n) ∧ chkOp P o.op ao.op = true := by
  simp only [chkOpr, Bool.and_eq_true] at h
  obtain ⟨hd, hg, hop⟩ := h
  unfold dstOk at hd
  split at hd
  · rename_i h1 h2; rw [h1, h2]; exact ⟨rfl, fun _ h => (by cases h), hop⟩
  · rename_i d d' h1 h2
    simp only [Bool.and_eq_true, beq_iff_eq, Nat.blt_eq] at hd
    obtain ⟨rfl, hlt⟩ := hd
    rw [h1, h2]
    exact ⟨rfl, fun _ h => by cases h; exact hlt, hop⟩
  · cases hd

theorem guard_spec {o : Oper} {ao : AOpr} (h : chkOpr P n ops o ao = true) (hg : ao.guard = none) : o.guard = none := by
  simp only [chkOpr, Bool.and_eq_true] at h
  have := h.2.1
  unfold guardOk at this
  split at this
  · rename_i h1 h2; exact h1
  · rename_i h1 h2; rw [hg] at h2; cases h2
  · cases this

theorem wanted_none {o : Oper} (h : o.guard = none) (y : Nat → Option Bool) : Region.wanted o y = true := by simp [Region.wanted, h]

theorem St.fstep {kc : Bool} {fs : FS} {pre pv Ex : List Nat} {ps : List (Nat × AV)} {hs : List HB} {e g : Env} {m : Mem} {a : Act} {w : World} {L : Lay} (S : St C0 m0 w0 L0 n l keep kc fs pre pv Ex ps hs e g m a w L) (hfs : chkFS P n ops l fs = true) {j : Nat} (hj : j ∉ Ex)
    (hjf : (∃ q, q ∈ fs ∧ q.1 = j) ∨ (j ∈ pre ∧ ∀ q, q ∈ fs → q.2 = some j → q.1 ∈ Ex)) {Q : Exit → Act → World → Prop} {next : Act → World → Prop} (hnext : ∀ hs' a' w', St C0 m0 w0 L0 n l keep kc fs pre pv (j :: Ex) ps hs' e g m a' w' L → next a' w') : wpOp P ops Q j next a w := by
  simp only [chkFS, Bool.and_eq_true] at hfs
  obtain ⟨hn0, hdist, hall⟩ := hfs
  have hnd := ndN_spec hn0
  rcases hjf with ⟨q, hq, rfl⟩ | ⟨hjp, hjF⟩
  · have hqa := List.all_eq_true.1 hall q hq
    simp only [Bool.and_eq_true] at hqa
    obtain ⟨hci, hsome, _⟩ := hqa
    obtain ⟨o, ao, ho, hao, hc⟩ := chkI_spec hci
    obtain ⟨⟨d, val, blk⟩, hf⟩ := Option.isSome_iff_exists.1 hsome
    have hf' : fOf ao = some (d, val, blk) := by unfold fOfL at hf; rw [hao] at hf; exact hf
    obtain ⟨f1, f2, _, _, _⟩ := fOf_spec (P := P) hf'
    obtain ⟨hde, hdn, hop⟩ := dst_spec hc
    unfold wpOp
    rw [ho]
    simp only
    rw [if_pos (wanted_none (guard_spec hc f2) _)]
    refine .inl (S.H.make (i := q.1) hop hde hf' (hdn d f1) (S.eun q hq d val blk hf).1 (fun h hh => ?_) (fun h r w' h1 h2 h3 h4 h5 => hnext (h :: hs) _ _ ?_))
    · obtain ⟨k1, q', k2, k3, blk0, k4, _⟩ := S.hmem h hh
      have hne : q' ≠ q := fun e => hj (by rw [← e, k3]; exact k1)
      rw [← k3] at k4
      exact fdDist_spec hdist k2 hq hne k4 hf
    · rw [hde, f1]
      refine ⟨h5, fun t => ?_, S.keepc, S.eun, fun j hj => ?_, fun h' hh' => ?_, fun q' hq' he => ?_, ?_, fun q' hq' s hs he => ?_, fun s hs => ?_⟩
      · by_cases ht : t = d
        · rw [ht, (S.eun q hq d val blk hf).2]; exact .un _
        · rw [put_get_ne ht]; exact S.G t
      · rcases List.mem_cons.1 hj with rfl | hj
        · exact .inl ⟨q, hq, rfl⟩
        · exact S.ex j hj
      · rcases List.mem_cons.1 hh' with rfl | hh'
        · refine ⟨by rw [h1]; exact .head _, q, hq, h1.symm, blk, by rw [h1, h2, h3]; exact hf, .inl ⟨h4, fun s hs he => ?_⟩⟩
          rcases List.mem_cons.1 he with he | he
          · exact fs_apart hnd hq hq hs he.symm
          · exact hj (S.sf q hq s hs he)
        · obtain ⟨k1, q', k2, k3, blk0, k4, k5⟩ := S.hmem h' hh'
          refine ⟨.tail _ k1, q', k2, k3, blk0, k4, k5.imp (fun ⟨u1, u2⟩ => ⟨u1, fun s hs he => ?_⟩) (fun ⟨s, u1, u2, u3⟩ => ⟨s, u1, .tail _ u2, u3⟩)⟩
          rcases List.mem_cons.1 he with he | he
          · exact fs_apart hnd hq k2 hs he.symm
          · exact u2 s hs he
      · rcases List.mem_cons.1 he with he | he
        · exact ⟨h, .head _, by rw [h1, he]⟩
        · obtain ⟨h', u1, u2⟩ := S.hall q' hq' he
          exact ⟨h', .tail _ u1, u2⟩
      · rw [List.map_cons, List.nodup_cons]
        refine ⟨fun hm => ?_, S.hnd⟩
        obtain ⟨h', u1, u2⟩ := List.mem_map.1 hm
        have := (S.hmem h' u1).1
        rw [u2, h1] at this
        exact hj this
      · rcases List.mem_cons.1 he with he | he
        · exact absurd he.symm (fs_apart hnd hq hq' hs)
        · exact .tail _ (S.sf q' hq' s hs he)
      · obtain ⟨f, d', val', blk', v, sz, sv, b, p1, p2, p3, p4, p5, p6, p7, p8, p9, p10, p11, p12, p13⟩ := S.pps s hs
        refine ⟨f, d', val', blk', v, sz, sv, b, p1, p2, p3, p4, p5, p6, p7, ?_, p9, p10, p11, p12, p13⟩
        rw [put_get_ne (fun h => fdNe_spec p13 hq hf h.symm)]; exact p8
  · obtain ⟨f, d, val, blk, v, sz, sv, b, p1, p2, p3, p4, p5, p6, p7, p8, p9, p10, p11, p12, p13⟩ := S.pps j hjp
    have hfE : f ∈ Ex := hjF _ p1 rfl
    obtain ⟨h, hh, hi⟩ := S.hall _ p1 hfE
    have hi : h.i = f := hi
    obtain ⟨k1, q', k2, k3, blk0, k4, k5⟩ := S.hmem h hh
    have hq' : q' = (f, some j) := fs_unique hnd k2 p1 (by rw [k3, hi])
    rw [hi, p3] at k4
    simp only [Option.some.injEq, Prod.mk.injEq] at k4
    obtain ⟨e1, e2, e3⟩ := k4
    have hblk : h.blk = blk0 := by
      rcases k5 with k5 | ⟨s, u1, u2, u3⟩
      · exact k5.1
      · rw [hq'] at u1; obtain rfl := Option.some.inj u1; exact absurd u2 hj
    have hqa := List.all_eq_true.1 hall _ p1
    simp only [Bool.and_eq_true] at hqa
    obtain ⟨_, _, hcs, _, _⟩ := hqa
    obtain ⟨o, ao, ho, hao, hc⟩ := chkI_spec hcs
    have hao' : ao = ⟨none, .store sz (.t d) (.t sv), none⟩ := by
      unfold sOf at p4
      rw [hao] at p4
      split at p4
      · rename_i sz' d' v' heq
        simp only [Option.some.injEq, Prod.mk.injEq] at p4
        obtain ⟨rfl, rfl, rfl⟩ := p4
        exact Option.some.inj heq
      · cases p4
    obtain ⟨hde, hdn, hop⟩ := dst_spec hc
    subst hao'
    have hval : h.val = fun l => .ptr l 0 0 := by
      rw [← e2]
      unfold isAl at p2
      unfold fOfL at p3
      split at p2
      · rename_i dd es nn zs heq
        rw [heq] at p3
        simp only [fOf] at p3
        cases hb : zs.all (det1 true) && (zs.length == es) with
        | false => rw [hb] at p3; cases p3
        | true =>
          rw [hb] at p3
          simp only [cond_true, Option.some.injEq, Prod.mk.injEq] at p3
          exact p3.2.1.symm
      · cases p2
    unfold wpOp
    rw [ho]
    simp only
    rw [if_pos (wanted_none (guard_spec hc rfl) _)]
    refine .inl (S.H.put hop hde hh e1.symm hval (fun h' hh' hii => ?_) p8 p6 (by rw [hblk, ← e3]; exact p7) p10 p11 p12 (fun r w' hH => hnext (hs.map (setB h.i b)) _ _ ?_))
    · obtain ⟨x, hx⟩ := List.getElem?_of_mem hh'
      obtain ⟨y, hy⟩ := List.getElem?_of_mem hh
      have hx' : (hs.map (·.i))[x]? = some h'.i := by rw [List.getElem?_map, hx]; rfl
      have hy' : (hs.map (·.i))[y]? = some h'.i := by rw [List.getElem?_map, hy, hii]; rfl
      have hlx := (List.getElem?_eq_some_iff.1 hx').1
      have hly := (List.getElem?_eq_some_iff.1 hy').1
      have := (List.getElem_inj S.hnd).1 (show (hs.map (·.i))[x] = (hs.map (·.i))[y] by
        rw [(List.getElem?_eq_some_iff.1 hx').2, (List.getElem?_eq_some_iff.1 hy').2])
      subst this
      rw [hx] at hy
      exact Option.some.inj hy
    · rw [hde]
      refine ⟨hH, S.G, S.keepc, S.eun, fun j' hj' => ?_, fun h' hh' => ?_, fun q'' hq'' he => ?_, ?_, fun q'' hq'' s hs he => ?_, S.pps⟩
      · rcases List.mem_cons.1 hj' with rfl | hj'
        · exact .inr hjp
        · exact S.ex _ hj'
      · obtain ⟨h0, hh0, rfl⟩ := List.mem_map.1 hh'
        obtain ⟨k1, q2, k2, k3, blk1, k4, k5⟩ := S.hmem h0 hh0
        rw [setB_i, setB_d, setB_val]
        refine ⟨.tail _ k1, q2, k2, k3, blk1, k4, ?_⟩
        by_cases hii : h0.i = h.i
        · have hq2 : q2 = (f, some j) := fs_unique hnd k2 p1 (by rw [k3, hii, hi])
          refine .inr ⟨j, by rw [hq2], .head _, ?_⟩
          have hb' : (setB h.i b h0).blk = b := by unfold setB; rw [if_pos hii]
          rw [hb', hq2]
          rw [hii, hi, p3] at k4
          simp only [Option.some.injEq, Prod.mk.injEq] at k4
          simp only [fillOne, p3, p4, p5, p7, Option.map_some, k4.1, k4.2.1]
        · have hb' : (setB h.i b h0).blk = h0.blk := by unfold setB; rw [if_neg hii]
          rw [hb']
          refine k5.imp (fun ⟨u1, u2⟩ => ⟨u1, fun s hs he => ?_⟩) (fun ⟨s, u1, u2, u3⟩ => ⟨s, u1, .tail _ u2, u3⟩)
          rcases List.mem_cons.1 he with he | he
          · subst he
            have : q2 = (f, some s) := by
              have h9 := (List.nodup_append.1 hnd).2.1
              have : ∀ {fs : FS}, (fs.filterMap (·.2)).Nodup → q2 ∈ fs → (f, some s) ∈ fs → q2 = (f, some s) := by
                intro fs
                induction fs with
                | nil => intro _ hq; simp at hq
                | cons x r ih =>
                  intro hnd hq hq'
                  rcases List.mem_cons.1 hq with g1 | g1 <;> rcases List.mem_cons.1 hq' with g2 | g2
                  · exact g1.trans g2.symm
                  · rw [List.filterMap_cons, ← g1, hs, List.nodup_cons] at hnd
                    exact absurd (show s ∈ r.filterMap (fun x => x.2) from List.mem_filterMap.2 ⟨(f, some s), g2, rfl⟩) hnd.1
                  · rw [List.filterMap_cons, ← g2, List.nodup_cons] at hnd
                    exact absurd (show s ∈ r.filterMap (fun x => x.2) from List.mem_filterMap.2 ⟨q2, g1, hs⟩) hnd.1
                  · refine ih ?_ g1 g2
                    rw [List.filterMap_cons] at hnd
                    split at hnd
                    · exact hnd
                    · exact (List.nodup_cons.1 hnd).2
              exact this h9 k2 p1
            exact hii (by rw [← k3, this, hi])
          · exact u2 s hs he
      · rcases List.mem_cons.1 he with he | he
        · exact absurd he (fs_apart hnd hq'' p1 rfl)
        · obtain ⟨h', u1, u2⟩ := S.hall q'' hq'' he
          exact ⟨_, List.mem_map.2 ⟨h', u1, rfl⟩, by rw [setB_i]; exact u2⟩
      · rw [List.map_map, show (fun x => x.i) ∘ setB h.i b = fun x => x.i from funext fun x => setB_i]
        exact S.hnd
      · rcases List.mem_cons.1 he with he | he
        · subst he; exact .tail _ (hjF q'' hq'' hs)
        · exact .tail _ (S.sf q'' hq'' s hs he)

end
end Go.Wit
