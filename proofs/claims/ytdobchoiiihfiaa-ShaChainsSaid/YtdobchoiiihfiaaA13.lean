/- Bodies: what is done one behind the other, choices, blocks, loops, results; a call by its body; no condition. -/
import Derived.Test.YtdobchoiiihfiaaA12
set_option linter.unusedVariables false
set_option linter.unusedSimpArgs false
namespace Go.Wit

/-- In which order a region that leaves its order open is told: what only looks, what is run, what is made anew and filled last. -/
inductive DPlan where
  | flat
  | done
  | look (i : Nat) (p : DPlan)
  | run (i : Nat) (kp : Bool) (p : DPlan)
  | pre (f s : Nat) (p : DPlan)
  | fill (p : DPlan)
  deriving Inhabited

/-- What of memory must stay while a region runs: nothing, all, or the blocks' sizes. -/
inductive Keep | no | all | shp
  deriving Inhabited

structure DInfo where
  keep : Keep
  fs : List (Nat × Option Nat)
  p : DPlan
  deriving Inhabited

inductive ACode where
  | skip
  | ops (l : List AOpr)
  | draw (l : List AOpr) (ord : DInfo)
  | seq (a b : ACode)
  | cond (c : Opn) (t e : ACode)
  | block (id : Nat) (c : ACode)
  | loop (c : ACode)
  | exit (id : Nat)
  | ret
  deriving Inhabited

/-- A region that leaves its order open, and what is told of it (settled in a text of its own). -/
structure DrawKit where
  chk : Program → Nat → Array Oper → List AOpr → DInfo → Bool
  vc : Program → List AOpr → DInfo → Env → Mem → (Env → Mem → Prop) → Prop
  sound : ∀ {P : Program} {n : Nat} {ops : Array Oper} {l : List AOpr} {ord : DInfo} {id : Nat}, P.follows .mixedOrders = true → chk P n ops l ord = true → ∀ {C : Ctx} {e : Env} {m : Mem} {a : Act} {w : World} {L : Lay} {K : Env → Mem → Prop},
    Rel C n e m a w L → vc P l ord e m K → ∀ {Q : Exit → Act → World → Prop}, (∀ e' m' a' w' L', K e' m' → Rel C n e' m' a' w' L' → Q .normal a' w') → (Code.region id ops true).wp P Q a w

def chkCode (D : DrawKit) (P : Program) (n : Nat) : Code → ACode → Bool
  | .skip, .skip => true
  | .region _ os false, .ops l => chkOps P n os os.toList l
  | .region _ os true, .draw l ord => D.chk P n os l ord
  | .seq a b, .seq a' b' => chkCode D P n a a' && chkCode D P n b b'
  | .cond c t e, .cond c' t' e' => opnOk c c' && (chkCode D P n t t' && chkCode D P n e e')
  | .block i c, .block j c' => i == j && chkCode D P n c c'
  | .loop c, .loop c' => chkCode D P n c c'
  | .exit i, .exit j => i == j
  | .ret, .ret => true
  | _, _ => false

abbrev XPost := Exit → Env → Mem → Prop

/-- What running a piece of code ends in, told by abstract values and memory. -/
def AWp (P : Program) (n k : Nat) (c : Code) (e : Env) (m : Mem) (Q : XPost) : Prop :=
  ∀ (C : Ctx) (a : Act) (w : World) (L : Lay), C.k = k → Rel C n e m a w L → c.wp P (fun x a' w' => ∃ e' m' L', Q x e' m' ∧ Rel C n e' m' a' w' L') a w

structure ALoop (D : DrawKit) (P : Program) (n k : Nat) (c : ACode) (e : Env) (m : Mem) (Q : XPost) : Prop where
  run : ∀ b, chkCode D P n b c = true → AWp P n k (.loop b) e m Q

/-- (By the recursor itself: so it unfolds alike everywhere.) -/
noncomputable def vcCode (D : DrawKit) (P : Program) (n k : Nat) (c : ACode) : Env → Mem → XPost → Prop :=
  ACode.rec (motive := fun _ => Env → Mem → XPost → Prop)
    (fun e m Q => Q .normal e m)
    (fun l e m Q => vcOps P l e m fun e m => Q .normal e m)
    (fun l ord e m Q => D.vc P l ord e m fun e m => Q .normal e m)
    (fun _ _ iha ihb e m Q => iha e m fun x e m => match x with
      | .normal => ihb e m Q
      | .exit i => Q (.exit i) e m
      | .ret => Q .ret e m
      | _ => False)
    (fun c _ _ iht ihf e m Q => match c.ev e with
      | .bool b => condB b (iht e m Q) (ihf e m Q)
      | _ => False)
    (fun i _ ih e m Q => ih e m fun x e m => match x with
      | .normal => Q .normal e m
      | .exit j => condB (j == i) (Q .normal e m) (Q (.exit j) e m)
      | .ret => Q .ret e m
      | _ => False)
    (fun c _ e m Q => ALoop D P n k c e m Q)
    (fun i e m Q => Q (.exit i) e m)
    (fun e m Q => Q .ret e m) c

section
variable {D : DrawKit} {P : Program} {n k : Nat}

theorem vcCode_sound (hm : P.follows .mixedOrders = true) : ∀ (c : Code) (ac : ACode), chkCode D P n c ac = true → ∀ {e : Env} {m : Mem} {Q : XPost}, vcCode D P n k ac e m Q → AWp P n k c e m Q := by
  intro c
  induction c with
  | skip => intro ac hc e m Q h; cases ac <;> simp [chkCode] at hc; exact fun C a w L hk hr => wp_skip ⟨e, m, L, h, hr⟩
  | region id os draw =>
    intro ac hc e m Q h
    cases draw with
    | false =>
      cases ac <;> simp [chkCode] at hc
      intro C a w L hk hr
      exact wp_region_list (ops_sound _ _ hc hr h (fun e' m' a' w' L' hk hr' => ⟨e', m', L', hk, hr'⟩))
    | true =>
      cases ac <;> simp [chkCode] at hc
      intro C a w L hk hr
      exact D.sound hm hc hr h (fun e' m' a' w' L' hk hr' => ⟨e', m', L', hk, hr'⟩)
  | seq a b iha ihb =>
    intro ac hc e m Q h
    cases ac <;> simp [chkCode] at hc
    rename_i a' b'
    intro C ac w L hk hr
    refine wp_seq (Code.wp_mono ?_ (iha a' hc.1 h C ac w L hk hr))
    rintro x a1 w1 ⟨e1, m1, L1, hq, hr1⟩
    cases x with
    | normal => exact ihb b' hc.2 hq C a1 w1 L1 hk hr1
    | exit i => exact ⟨e1, m1, L1, hq, hr1⟩
    | ret => exact ⟨e1, m1, L1, hq, hr1⟩
    | _ => exact False.elim hq
  | cond c t f iht ihf =>
    intro ac hc e m Q h
    cases ac <;> simp [chkCode] at hc
    rename_i c' t' f'
    intro C a w L hk hr
    have hcv := opn_rel hr.env hc.1
    change (match c'.ev e with | .bool b => condB b (vcCode D P n k t' e m Q) (vcCode D P n k f' e m Q) | _ => False) at h
    split at h
    · rename_i b hb
      rw [hb] at hcv
      generalize hv : a.eval c = v at hcv
      cases hcv
      refine wp_cond hv ?_
      rcases condB_split h with ⟨rfl, h⟩ | ⟨rfl, h⟩
      · exact iht t' hc.2.1 h C a w L hk hr
      · exact ihf f' hc.2.2 h C a w L hk hr
    · exact h.elim
  | block i c ih =>
    intro ac hc e m Q h
    cases ac <;> simp [chkCode] at hc
    rename_i j c'
    obtain ⟨rfl, hc⟩ := hc
    intro C a w L hk hr
    refine wp_block (Code.wp_mono ?_ (ih c' hc h C a w L hk hr))
    rintro x a1 w1 ⟨e1, m1, L1, hq, hr1⟩
    cases x with
    | normal => exact ⟨e1, m1, L1, hq, hr1⟩
    | exit j =>
      simp only [Exit.inBlock]
      rcases condB_split hq with ⟨hj, hq⟩ | ⟨hj, hq⟩
      · rw [if_pos (by simpa using hj)]; exact ⟨e1, m1, L1, hq, hr1⟩
      · rw [if_neg (by simpa using hj)]; exact ⟨e1, m1, L1, hq, hr1⟩
    | ret => exact ⟨e1, m1, L1, hq, hr1⟩
    | _ => exact False.elim hq
  | loop c ih =>
    intro ac hc e m Q h
    cases ac <;> simp [chkCode] at hc
    rename_i c'
    exact h.run c hc
  | exit i =>
    intro ac hc e m Q h
    cases ac <;> simp [chkCode] at hc
    subst hc
    exact fun C a w L hk hr => wp_exit ⟨e, m, L, h, hr⟩
  | ret => intro ac hc e m Q h; cases ac <;> simp [chkCode] at hc; exact fun C a w L hk hr => wp_ret ⟨e, m, L, h, hr⟩
  | _ => intro ac hc; cases ac <;> simp [chkCode] at hc

/-- A loop by what holds at the head of each round, with a number that goes down. -/
theorem loop_sem {c : ACode} {e : Env} {m : Mem} {Q : XPost} (I : Nat → Env → Mem → Prop) (k0 : Nat) (h0 : I k0 e m)
    (hstep : ∀ q e m, I q e m → ∀ b, chkCode D P n b c = true → AWp P n k b e m fun x e' m' => match x with
      | .normal => ∃ q', q' < q ∧ I q' e' m'
      | .exit i => Q (.exit i) e' m'
      | .ret => Q .ret e' m'
      | _ => False) : ALoop D P n k c e m Q := by
  refine ⟨fun b hb C a w L hk hr => ?_⟩
  let J : Nat → Act → World → Prop := fun k a w => ∃ e m L, I k e m ∧ Rel C n e m a w L
  have hfind : ∀ a w, ∃ μ : Nat, (∃ k, J k a w) → J μ a w ∧ ∀ k, J k a w → μ ≤ k := by
    intro a w
    by_cases h : ∃ k, J k a w
    · classical
      obtain ⟨k, hk⟩ := h
      induction k using Nat.strongRecOn with
      | _ k ih =>
        by_cases hs : ∃ k', k' < k ∧ J k' a w
        · obtain ⟨k', h1, h2⟩ := hs; exact ih k' h1 h2
        · exact ⟨k, fun _ => ⟨hk, fun k' hk' => Nat.le_of_not_lt fun hlt => hs ⟨k', hlt, hk'⟩⟩⟩
    · exact ⟨0, fun hh => absurd hh h⟩
  refine wp_loop (fun a w => ∃ k, J k a w) (fun a w => (hfind a w).choose) ⟨k0, e, m, L, h0, hr⟩ (fun a1 w1 hI => ?_)
  obtain ⟨hJ, hmin⟩ := (hfind a1 w1).choose_spec hI
  obtain ⟨e1, m1, L1, hI1, hr1⟩ := hJ
  refine Code.wp_mono ?_ (hstep _ e1 m1 hI1 b hb C a1 w1 L1 hk hr1)
  rintro x a2 w2 ⟨e2, m2, L2, hq, hr2⟩
  cases x with
  | normal =>
    obtain ⟨k', hk', hI2⟩ := hq
    refine ⟨⟨k', e2, m2, L2, hI2, hr2⟩, ?_⟩
    have := ((hfind a2 w2).choose_spec ⟨k', e2, m2, L2, hI2, hr2⟩).2 k' ⟨e2, m2, L2, hI2, hr2⟩
    omega
  | exit i => exact ⟨e2, m2, L2, hq, hr2⟩
  | ret => exact ⟨e2, m2, L2, hq, hr2⟩
  | _ => exact False.elim hq

inductive ARes where
  | t (t : Nat)
  | cell (t sz : Nat) (ag : Bool)
  deriving Inhabited

noncomputable def vcResL (e : Env) (m : Mem) (l : List ARes) : (List AV → Prop) → Prop :=
  List.rec (motive := fun _ => (List AV → Prop) → Prop) (fun K => K []) (fun r _ ih K => match r with
    | .t t => forceV (e.get t) fun v => ih fun vs => K (v :: vs)
    | .cell t sz ag => match loadV sz ag m (e.get t) with
      | some ⟨ok, v, _⟩ => condB ok (ih fun vs => K (v :: vs)) False
      | none => False) l

noncomputable def vcRes (e : Env) (m : Mem) (rs : List ARes) (K : AV → Prop) : Prop := vcResL e m rs fun vs => match vs with
  | [v] => K v
  | vs => K (.tup vs)

def chkRes (P : Program) : List ResultVar → List ARes → Bool
  | [], [] => true
  | .tmp t :: rs, .t t' :: rs' => t == t' && chkRes P rs rs'
  | .cell t ty :: rs, .cell t' sz ag :: rs' => t == t' && (decide (aggB P ty = some ag) && (szB P ty sz && chkRes P rs rs'))
  | _, _ => false

structure AFun where
  np : Nat
  nt : Nat
  res : List ARes
  body : ACode
  deriving Inhabited

def Env.ofArgs : List AV → Nat → Env → (Env → Prop) → Prop
  | [], _, e, K => K e
  | v :: vs, k, e, K => Env.setK 12 e k v fun e => Env.ofArgs vs (k + 1) e K

def chkFun (D : DrawKit) (P : Program) (fn : Func) (af : AFun) : Bool :=
  match fn.body with
  | some c => fn.ntmps == af.nt && (Nat.ble af.np af.nt && (chkRes P fn.results.toList af.res && chkCode D P af.nt c af.body))
  | none => false

/-- What a call makes, by its body. -/
noncomputable def vcFun (D : DrawKit) (P : Program) (af : AFun) (args : List AV) (m : Mem) (K : AV → Mem → Prop) : Prop :=
  args.length = af.np ∧ Env.ofArgs args 0 .nil fun e => vcCode D P af.nt m.length af.body e m fun x e m => match x with
    | .normal => vcRes e m af.res fun v => K v m
    | .ret => vcRes e m af.res fun v => K v m
    | _ => False

theorem run_res {C : Ctx} {e : Env} {m : Mem} {a : Act} {w : World} {L : Lay} (hR : MRel C m w L) (hE : ERel C e m a w L) : ∀ (rs : List ResultVar) (as : List ARes) {K : List AV → Prop}, chkRes P rs as = true → vcResL e m as K →
    ∃ vs cs, (rs.mapM fun (r : ResultVar) => (match r with | .tmp t => pure (a.tmps.getD t undef) | .cell c t => do loadVar t (← asAddr (a.tmps.getD c undef)) : Sem Value)).run P w = Result.ok cs w ∧ K vs ∧ VRs w.heap L (OO C m L) vs cs
  | [], [], K, _, h => ⟨[], [], by simp, h, .nil⟩
  | [], _ :: _, K, hc, _ => by simp [chkRes] at hc
  | .tmp _ :: _, [], K, hc, _ => by simp [chkRes] at hc
  | .cell _ _ :: _, [], K, hc, _ => by simp [chkRes] at hc
  | .tmp t :: rs, .cell _ _ _ :: as, K, hc, _ => by simp [chkRes] at hc
  | .cell t _ :: rs, .t _ :: as, K, hc, _ => by simp [chkRes] at hc
  | .tmp t :: rs, .t t' :: as, K, hc, h => by
    simp only [chkRes, Bool.and_eq_true, beq_iff_eq] at hc
    obtain ⟨rfl, hc⟩ := hc
    change forceV (e.get t) (fun v => vcResL e m as fun vs => K (v :: vs)) at h
    rw [forceV_eq] at h
    obtain ⟨vs, cs, h1, h2, h3⟩ := run_res hR hE rs as hc h
    refine ⟨_ :: vs, _ :: cs, ?_, h2, .cons _ _ _ _ (hE t) h3⟩
    simp only [List.mapM_cons, Sem.run_bind, Sem.run_pure, Result.andThen_ok, h1]
  | .cell t ty :: rs, .cell t' sz ag :: as, K, hc, h => by
    simp only [chkRes, Bool.and_eq_true, beq_iff_eq, decide_eq_true_eq] at hc
    obtain ⟨rfl, hag, hsz, hc⟩ := hc
    change (match loadV sz ag m (e.get t) with | some ⟨ok, v, _⟩ => condB ok (vcResL e m as fun vs => K (v :: vs)) False | none => False) at h
    split at h
    case h_2 => exact h.elim
    rename_i ok v u hl
    obtain ⟨rfl, h⟩ := condB_true h
    obtain ⟨vs, cs, h1, h2, h3⟩ := run_res hR hE rs as hc h
    obtain ⟨ad, r, hr, q1, q2, _⟩ := loadVar_sound hR hag hsz (hE t) hl rfl
    refine ⟨v :: vs, r :: cs, ?_, h2, .cons _ _ _ _ q2 h3⟩
    have ha : (asAddr (a.tmps.getD t undef)).run P w = .ok ad w := by rw [hr]; rfl
    simp only [List.mapM_cons, Sem.run_bind, Sem.run_pure, Result.andThen_ok, ha, q1, h1]

theorem ofArgs_sound {h : Array Obj} {L : Lay} {O : Nat → Prop} : ∀ (vs : List AV) (cs : List Value) (k : Nat) (e : Env) (T : Nat → Value) {K : Env → Prop}, VRs h L O vs cs → (∀ t, VR h L O (e.get t) (T t)) → (∀ t c, cs[t]? = some c → T (k + t) = c) → Env.ofArgs vs k e K →
    ∃ e', K e' ∧ ∀ t, VR h L O (e'.get t) (T t)
  | [], _, k, e, T, K, hv, he, _, hK => ⟨e, hK, he⟩
  | v :: vs, [], k, e, T, K, hv, _, _, _ => by cases hv
  | v :: vs, c :: cs, k, e, T, K, hv, he, hT, hK => by
    cases hv with
    | cons _ _ _ _ h1 h2 =>
      simp only [Env.ofArgs, Env.setK_eq] at hK
      refine ofArgs_sound vs cs (k + 1) _ T h2 (fun t => ?_) (fun t d hd => ?_) hK
      · have h0 := hT 0 c (by simp)
        rcases Env.set_upd e k v t with h | ⟨g1, g2⟩ | ⟨g1, g2⟩
        · rw [show (Env.setF 12 e k v).get t = .un from h]; exact .un _
        · rw [show (Env.setF 12 e k v).get t = e.get t from g2]; exact he t
        · rw [show (Env.setF 12 e k v).get t = v from g2, g1]
          rw [show T k = c from by simpa using h0]; exact h1
      · have := hT (t + 1) d (by simpa using hd)
        rw [← this]; congr 1; omega

/-- A call by its body. -/
theorem call_body (hm : P.follows .mixedOrders = true) {f : FuncId} {fn : Func} {af : AFun} (hf : P.funcs[f]? = some fn) (hnum : (fn.name == "runtime.NumGoroutine") = false) (hc : chkFun D P fn af = true) {args : List AV} {m : Mem} {K : AV → Mem → Prop} (hvc : vcFun D P af args m K) : ACall P f args m K := by
  unfold chkFun at hc
  split at hc
  case h_2 => cases hc
  rename_i c hb
  simp only [Bool.and_eq_true, beq_iff_eq] at hc
  obtain ⟨hnt, hnp, hres, hcode⟩ := hc
  have hle := Nat.le_of_ble_eq_true hnp
  obtain ⟨hlen, hvc⟩ := hvc
  refine ⟨⟨fn, hf, hnum, by rw [hb]; rfl⟩, fun C w L cargs hR hv => ?_⟩
  have hsz : cargs.size = af.np := by have := hv.length; simpa [hlen] using this
  let T : Nat → Value := fun t => (cargs ++ Array.replicate (fn.ntmps - cargs.size) undef).getD t undef
  obtain ⟨e, hK, hE⟩ := ofArgs_sound args cargs.toList 0 .nil T hv (fun t => by rw [Env.get_nil]; exact .un _) (fun t d hd => by
    have hlt : t < cargs.size := by
      have := (List.getElem?_eq_some_iff.1 hd).1
      simpa using this
    have hd' : cargs[t]? = some d := by simpa using hd
    simp only [T, Nat.zero_add, Array.getD_eq_getD_getElem?]
    rw [Array.getElem?_append_left hlt, hd']
    rfl) hvc
  have hrel : Rel (C.here m w L) af.nt e m { tmps := cargs ++ Array.replicate (fn.ntmps - cargs.size) undef, defers := [] } w L := ⟨by simp; omega, rfl, hR.here, hE⟩
  refine calls_of_wp hf hb (Code.wp_mono ?_ (vcCode_sound hm c af.body hcode hK (C.here m w L) _ w L rfl hrel))
  rintro x a1 w1 ⟨e1, m1, L1, hq, hr1⟩
  have fin : vcRes e1 m1 af.res (fun v => K v m1) → a1.defers = [] ∧ ∃ v, (results fn a1.tmps).run P w1 = .ok v w1 ∧ ∃ v1 m' r L', Ending.returned v = .returned r ∧ K v1 m' ∧ MRel C m' w1 L' ∧ VR w1.heap L' (OO C m' L') v1 r ∧ Ext w.heap L (OO C m L) w1.heap L' (OO C m' L') := by
    obtain ⟨hb1, hb2⟩ := hR.back hr1.mem
    intro h
    obtain ⟨vs, cs, h1, h2, h3⟩ := run_res hr1.mem hr1.env fn.results.toList af.res hres h
    refine ⟨hr1.defers, ?_⟩
    have hlen2 := h3.length
    have hres' : (results fn a1.tmps).run P w1 = .ok (if h : cs.toArray.size = 1 then cs.toArray[0] else .tuple cs.toArray) w1 := by
      unfold results
      rw [Array.mapM_eq_mapM_toList]
      simp only [Sem.run_bind, Sem.run_map]
      have : (fn.results.toList.mapM fun (r : ResultVar) => (match r with | .tmp t => pure (a1.tmps.getD t undef) | .cell c t => do loadVar t (← asAddr (a1.tmps.getD c undef)) : Sem Value)).run P w1 = Result.ok cs w1 := h1
      erw [this]
      simp
    refine ⟨_, hres', ?_⟩
    cases h3 with
    | nil => exact ⟨.tup [], m1, _, L1, by simp, h2, hb1, .tup _ _ .nil, hb2⟩
    | cons v c vs cs g1 g2 =>
      cases g2 with
      | nil => exact ⟨v, m1, _, L1, by simp, h2, hb1, g1, hb2⟩
      | cons v2 c2 vs2 cs2 k1 k2 =>
        refine ⟨.tup (v :: v2 :: vs2), m1, .tuple (c :: c2 :: cs2).toArray, L1, by simp, h2, hb1, .tup _ _ ?_, hb2⟩
        exact VRs.cons _ _ _ _ g1 (.cons _ _ _ _ k1 k2)
  cases x with
  | normal => exact fin hq
  | ret => exact fin hq
  | _ => exact False.elim hq

end
end Go.Wit
