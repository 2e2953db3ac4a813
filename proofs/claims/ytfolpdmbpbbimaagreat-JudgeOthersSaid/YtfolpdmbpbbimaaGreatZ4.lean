/- Texts of a proof, one behind the other; the last of these: The told forms of the functions that this seat reaches, each held against the program by a closed test; no condition. -/
import Derived.Test.YtfolpdmbpbbimaaGreatZ3
import Derived.Test.YtfolpdmbpbbimaaGreatProg
set_option linter.unusedVariables false
set_option linter.unusedSimpArgs false
set_option maxRecDepth 100000
section
namespace Go.Wit
theorem length_le_of_sub:∀ {l1 l2:List Nat},l1.Nodup->(∀ x,x ∈ l1->x ∈ l2)->l1.length<=l2.length
  | [],l2,_,_=>Nat.zero_le _
  | x :: r, l2, hn, hs => by
    obtain⟨s,t,rfl⟩:=List.append_of_mem (hs x (.head _))
    have hn':=List.nodup_cons.1 hn
    have:=length_le_of_sub (l1:=r) (l2:=s++t) hn'.2 (fun y hy=>by
      have hy':=hs y (.tail _ hy)
      rcases List.mem_append.1 hy' with h | h
      · exact List.mem_append.2 (.inl h)
      · rcases List.mem_cons.1 h with h | h
        · exact absurd (h ▸ hy) hn'.1
        · exact List.mem_append.2 (.inr h))
    simp only [List.length_cons,List.length_append]at this ⊢
    omega
section
variable {P:Program} {C0:Ctx} {n:Nat} {m0:Mem} {w0:World} {L0:Lay} {ops:Array Oper} {l:List AOpr} {keep:Keep}
theorem HRel.perm {C:Ctx} {hs hs':List HB} {e:Env} {m:Mem} {a:Act} {w:World} {L:Lay} (p:hs.Perm hs') (H:HRel C n hs e m a w L):HRel C n hs' e m a w L:=by
  have hX:XH C hs=XH C hs':=by
    funext b;apply propext
    simp only [XH,p.mem_iff]
  have hcx:CX C hs m w L=CX C hs' m w L:=by unfold CX;rw [hX]
  refine⟨H.size,H.defers,H.memC,by rw [<- hcx];exact H.memX,by rw [<- hcx];exact H.env,fun h hh=>H.hid h (p.mem_iff.2 hh),?_⟩
  exact(p.pairwise_iff (fun {x y} h h1 h2 h3=>h h2 h1 h3.symm)).1 H.pair
theorem fillK_sound {C:Ctx} {ps:List (Nat × AV)} {a:Act} {w:World}:∀ {fs:FS} {hs:List HB} {e:Env} {m:Mem} {L:Lay} {K:Env->Mem->Prop},HRel C n hs e m a w L->(∀ h,h ∈ hs->∃ q,q ∈ fs/\q.1=h.i/\fillOne l ps q=some (h.d,h.val,h.blk))->
    (∀ q,q ∈ fs->∃ h,h ∈ hs/\h.i=q.1)->(hs.map (·.i)).Nodup->(fs.map (·.1)).Nodup->fillK l ps fs e m K->∃ e' m' L',K e' m'/\HRel C n [] e' m' a w L'/\∃ t,m'=m++t
  | [], hs, e, m, L, K, H, h1, h2, h3, h4, hK => by
    cases hs with
    | nil=>exact ⟨e,m,L,hK,H,[],by simp⟩
    | cons h r=>obtain ⟨q,hq,_⟩:=h1 h (.head _);simp at hq
  | q :: r, hs, e, m, L, K, H, h1, h2, h3, h4, hK => by
    obtain⟨h,hh,hi⟩:=h2 q (.head _)
    have h4':=List.nodup_cons.1 h4
    have hf:fillOne l ps q=some (h.d,h.val,h.blk):=by
      obtain⟨q',k1,k2,k3⟩:=h1 h hh
      rcases List.mem_cons.1 k1 with rfl | k1
      · exact k3
      · exact absurd (List.mem_map.2 ⟨q',k1,by rw [k2,hi]⟩) h4'.1
    obtain⟨s,t,rfl⟩:=List.append_of_mem hh
    have hp:(s++h::t).Perm (h::(s++t)):=List.perm_middle
    have hnd:((h::(s++t)).map (·.i)).Nodup:=((hp.map _).nodup_iff).1 h3
    rw [List.map_cons]at hnd
    have hnd':=List.nodup_cons.1 hnd
    obtain⟨L2,H2⟩:=(H.perm hp).tell
    change (match fillOne l ps q with | some (d,val,blk)=>memK (m++ [some blk]) fun m'=>putK e (some d) (val m.length) fun e'=>fillK l ps r e' m' K | none=>False)at hK
    rw [hf]at hK
    simp only [memK_eq,putK_eq]at hK
    obtain⟨e',m',L',r1,r2,u,r3⟩:=fillK_sound (fs:=r) H2 (fun h' hh'=>by
      obtain⟨q',k1,k2,k3⟩:=h1 h' (hp.mem_iff.2 (.tail _ hh'))
      rcases List.mem_cons.1 k1 with rfl | k1
      · exact absurd (List.mem_map.2 ⟨h',hh',by rw [<- k2,hi]⟩) hnd'.1
      · exact⟨q',k1,k2,k3⟩) (fun q' hq'=>by
      obtain⟨h',k1,k2⟩:=h2 q' (.tail _ hq')
      rcases List.mem_cons.1 (hp.mem_iff.1 k1)with rfl | k1
      · exact absurd (List.mem_map.2 ⟨q',hq',by rw [<- k2,hi]⟩) h4'.1
      · exact⟨h',k1,k2⟩) hnd'.2 h4'.2 hK
    exact⟨e',m',L',r1,r2,[some h.blk] ++ u,by rw [r3,List.append_assoc]⟩
def Closed (ops:Array Oper) (listed:Array Bool):Prop:= ∀ j k,listed.getD j false=true->bndB ops j k=true->listed.getD k false=true
theorem Closed.anc {ops:Array Oper} {listed:Array Bool} (h:Closed ops listed) {j i:Nat} (ha:Anc ops j i):(∀ k,bndB ops j k=true->listed.getD k false=true)->listed.getD i false=true:=by
  induction ha with
  | base j i hb=>exact fun hj=>hj i hb
  | step j k i hb _ ih=>exact fun hj=>ih (fun q hq=>h k q (hj k hb) hq)
theorem Closed.set {ops:Array Oper} {listed:Array Bool} (h:Closed ops listed) {i:Nat} (hi:i ∈ Region.ready .any ops listed):Closed ops (listed.setIfInBounds i true):=by
  have up:∀ k,listed.getD k false=true->(listed.setIfInBounds i true).getD k false=true:=by
    intro k hk
    by_cases hki:k=i
    · subst hki
      have:k<listed.size:=by
        rcases Nat.lt_or_ge k listed.size with h1 | h1
        · exact h1
        · rw [Array.getD_eq_getD_getElem?,Array.getElem?_eq_none h1]at hk;simp at hk
      rw [Array.getD_eq_getD_getElem?,Array.getElem?_setIfInBounds_self_of_lt this];rfl
    · rw [getD_set_ne false (Ne.symm hki)];exact hk
  intro j k hj hb
  by_cases hji:j=i
  · subst hji
    obtain⟨_,oj,h2,h3⟩:=mem_ready.1 hi
    unfold bndB at hb
    rw [h2]at hb
    simp only at hb
    obtain⟨ed,he1,he2⟩:=Array.any_eq_true'.1 hb
    simp only [Bool.and_eq_true,beq_iff_eq]at he2
    rw [<- he2.2]
    exact up _ (h3 ed he1 he2.1)
  · rw [getD_set_ne false (Ne.symm hji)]at hj
    exact up k (h j k hj hb)
structure Lst (ops:Array Oper) (LC Ex:List Nat) (listed:Array Bool):Prop where
  closed:Closed ops listed
  size:listed.size=ops.size
  iff:∀ j,j<ops.size->(listed.getD j false=true ↔ j ∈ LC\/j ∈ Ex)
theorem getD_lt {listed:Array Bool} {j:Nat} (h:listed.getD j false=true):j<listed.size:=by
  rcases Nat.lt_or_ge j listed.size with h1 | h1
  · exact h1
  · rw [Array.getD_eq_getD_getElem?,Array.getElem?_eq_none h1]at h;simp at h
theorem getD_tf {listed:Array Bool} {j:Nat} (h:j<listed.size):listed.getD j true=listed.getD j false:=by
  simp [Array.getD_eq_getD_getElem?,h]
theorem Lst.ready {LC Ex:List Nat} {listed:Array Bool} (hl:Lst ops LC Ex listed) {j:Nat} (h:j ∈ Region.ready .any ops listed):j<ops.size/\j ∉ LC/\j ∉ Ex/\∃ oj,ops[j]? = some oj/\∀ e,e ∈ oj.after->Region.binds .any e=true->e.on ∈ LC\/e.on ∈ Ex:=by
  obtain⟨h1,oj,h2,h3⟩:=mem_ready.1 h
  have hlt:=(Array.getElem?_eq_some_iff.1 h2).1
  rw [getD_tf (by rw [hl.size];exact hlt)]at h1
  have hn:¬ (j ∈ LC\/j ∈ Ex):=fun hj=>by rw [(hl.iff j hlt).2 hj]at h1;cases h1
  refine⟨hlt,fun h=>hn (.inl h),fun h=>hn (.inr h),oj,h2,fun e he hb=> ?_⟩
  have:=h3 e he hb
  exact(hl.iff _ (by rw [<- hl.size];exact getD_lt this)).1 this
theorem Lst.mk_ready {LC Ex:List Nat} {listed:Array Bool} (hl:Lst ops LC Ex listed) {j:Nat} (hlt:j<ops.size) (h1:j ∉ LC) (h2:j ∉ Ex) {S:List Nat} (hp:prIn ops j S=true) (hS:∀ x,x ∈ S->x<ops.size/\(x ∈ LC\/x ∈ Ex)):j ∈ Region.ready .any ops listed:=by
  refine mem_ready.2 ⟨?_,ops[j],Array.getElem?_eq_getElem hlt,fun e he hb=> ?_⟩
  · rw [getD_tf (by rw [hl.size];exact hlt)]
    cases h:listed.getD j false with
    | false=>rfl
    | true=>exact ((hl.iff j hlt).1 h).elim (fun h=>absurd h h1) (fun h=>absurd h h2)
  · unfold prIn at hp
    rw [Array.getElem?_eq_getElem hlt]at hp
    simp only at hp
    have:=Array.all_eq_true'.1 hp e he
    rw [hb]at this
    simp only [Bool.not_true,Bool.false_or]at this
    obtain⟨k1,k2⟩:=hS e.on (by simpa using this)
    exact(hl.iff _ k1).2 k2
theorem Lst.setL {LC Ex:List Nat} {listed:Array Bool} (hl:Lst ops LC Ex listed) {i:Nat} (hi:i<ops.size) (hr:i ∈ Region.ready .any ops listed):Lst ops (i::LC) Ex (listed.setIfInBounds i true):=by
  refine⟨hl.closed.set hr,by rw [Array.size_setIfInBounds];exact hl.size,fun j hj=> ?_⟩
  by_cases hji:j=i
  · subst hji
    rw [Array.getD_eq_getD_getElem?,Array.getElem?_setIfInBounds_self_of_lt (by rw [hl.size];exact hi)]
    simp
  · rw [getD_set_ne false (Ne.symm hji),hl.iff j hj]
    simp [hji]
theorem Lst.setE {LC Ex:List Nat} {listed:Array Bool} (hl:Lst ops LC Ex listed) {i:Nat} (hi:i<ops.size) (hr:i ∈ Region.ready .any ops listed):Lst ops LC (i::Ex) (listed.setIfInBounds i true):=by
  refine⟨hl.closed.set hr,by rw [Array.size_setIfInBounds];exact hl.size,fun j hj=> ?_⟩
  by_cases hji:j=i
  · subst hji
    rw [Array.getD_eq_getD_getElem?,Array.getElem?_setIfInBounds_self_of_lt (by rw [hl.size];exact hi)]
    simp
  · rw [getD_set_ne false (Ne.symm hji),hl.iff j hj]
    simp [hji]
theorem prIn_of {j:Nat} {oj:Oper} (hoj:ops[j]? = some oj) {S:List Nat} (h:∀ e,e ∈ oj.after->Region.binds .any e=true->e.on ∈ S):prIn ops j S=true:=by
  unfold prIn
  rw [hoj]
  simp only
  rw [Array.all_eq_true']
  intro e he
  cases hb:Region.binds .any e with
  | false=>rfl
  | true=>simpa using h e he hb
theorem first_ready {LC Ex:List Nat} {listed:Array Bool} (hl:Lst ops LC Ex listed):∀ {T S:List Nat},chkT ops T S=true->(∀ x,x ∈ T->x<ops.size/\x ∉ LC)->(∀ x,x ∈ S->x<ops.size/\(x ∈ LC\/x ∈ Ex))->(∃ t,t ∈ T/\t ∉ Ex)->∃ j,j ∈ Region.ready .any ops listed
  | [],S,_,_,_,⟨t,h,_⟩=>by simp at h
  | t :: ts, S, hc, hT, hS, hex => by
    simp only [chkT,Bool.and_eq_true]at hc
    by_cases ht:t ∈ Ex
    · refine first_ready hl hc.2 (fun x hx=>hT x (.tail _ hx)) (fun x hx=> ?_) ?_
      · rcases List.mem_cons.1 hx with rfl | hx
        · exact⟨(hT x (.head _)).1,.inr ht⟩
        · exact hS x hx
      · obtain⟨u,hu,hu2⟩:=hex
        rcases List.mem_cons.1 hu with rfl | hu
        · exact absurd ht hu2
        · exact⟨u,hu,hu2⟩
    · exact⟨t,hl.mk_ready (hT t (.head _)).1 (hT t (.head _)).2 ht hc.1 hS⟩
theorem HRel.rel {C:Ctx} {e:Env} {m:Mem} {a:Act} {w:World} {L:Lay} (H:HRel C n [] e m a w L):Rel C n e m a w L:=
  ⟨H.size,H.defers,H.memC,fun t=>(H.env t).less (fun b hb=>hb.imp .inl id)⟩
theorem dstNot_spec {fs:FS} {pv:List Nat} {i:Nat} {ao:AOpr} (h:dstNot l fs pv i=true) (hao:l[i]? = some ao):∀ d,ao.dst=some d->d ∉ pv/\fdNe l fs d=true:=by
  intro d hd
  unfold dstNot at h
  rw [hao]at h
  simp only [hd,Bool.and_eq_true,Bool.not_eq_true']at h
  exact⟨by have:=h.1;simpa using this,h.2⟩
def wpAnyN (P:Program) (ops:Array Oper) (Q:Exit->Act->World->Prop) (S:World->Prop) (isL nd:Nat->Bool):Nat->Array Bool->Act->World->Prop
  | 0,listed,a,w=>Region.ready .any ops listed= [] /\ Q .normal a w
  | fuel + 1, listed, a, w =>
    (Region.ready .any ops listed= [] -> Q .normal a w)/\
    ∀ i ∈ Region.ready .any ops listed,wpOp P ops Q i (fun a' w'=>((isL i=true->w'=w)/\(isL i=false->nd i=true->S w'))/\wpAnyN P ops Q S isL nd fuel (listed.setIfInBounds i true) a' w') a w
theorem wpAny_of_N {Q:Exit->Act->World->Prop} {S:World->Prop} {isL nd:Nat->Bool}:∀ (fuel:Nat) (listed:Array Bool) (a:Act) (w:World),wpAnyN P ops Q S isL nd fuel listed a w->wpAny P .any ops Q fuel listed a w
  | 0,_,_,_,h=>h
  | fuel+1,_,_,_,h=>⟨h.1,fun i hi=>wpOp_mono (fun a' w' h'=>wpAny_of_N fuel _ a' w' h'.2) (h.2 i hi)⟩
theorem wpAnyN_first {Q:Exit->Act->World->Prop} {S S':World->Prop} {isL nd:Nat->Bool} {i:Nat} {oi:Oper} {v:Value} (hi:ops[i]? = some oi) (hiL:isL i=true) (hsel:∀ (j:Nat) (o:Oper) cs b,ops[j]? = some o->o.op ≠ .select cs b)
    (hQ:∀ c a w,Q (.panic c) (a.put oi.dst v) w->Q (.panic c) a w) (hSS:(∀ w,S' w)\/((∀ w,S w->S' w)/\∀ j,nd j=false->Anc ops j i)):
    ∀ (fuel : Nat) (listed : Array Bool) (a : Act) (w : World), Closed ops listed →
      (∀ j oj,ops[j]? = some oj->j ≠ i->listed.getD j true=false->(∀ e ∈ oj.after,Region.binds .any e=true->e.on ≠ i)->oi.apart ops oj=true)->
      i ∈ Region.ready .any ops listed->YieldsIf P ops S' oi v a->S' w->
      wpAnyN P ops Q S isL nd fuel (listed.setIfInBounds i true) (a.put oi.dst v) w->wpAnyN P ops Q S isL nd (fuel+1) listed a w:=by
  intro fuel
  induction fuel with
  | zero =>
    intro listed a w _ _ hr hy hS H
    refine⟨fun h=>(by rw [h]at hr;cases hr),fun j hj=> ?_⟩
    by_cases hji:j=i
    · subst hji;exact hy.wpOp hi hS ⟨⟨fun _=>rfl,fun h=>by rw [hiL]at h;cases h⟩,H⟩
    · have:=ready_mono hj hji
      rw [H.1]at this
      cases this
  | succ fuel ih =>
    intro listed a w hcl hfree hr hy hS H
    refine⟨fun h=>(by rw [h]at hr;cases hr),fun j hj=> ?_⟩
    by_cases hji:j=i
    · subst hji;exact hy.wpOp hi hS ⟨⟨fun _=>rfl,fun h=>by rw [hiL]at h;cases h⟩,H⟩
    · have h1:=H.2 j (ready_mono hj hji)
      obtain⟨hjun,oj,hoj,hall⟩:=mem_ready.1 hj
      have hiun:¬ listed.getD i false=true:=fun h=>by
        have h0:=(mem_ready.1 hr).1
        rcases Nat.lt_or_ge i listed.size with h' | h'
        · simp [Array.getD_eq_getD_getElem?,h']at h0 h;rw [h0]at h;cases h
        · simp [Array.getD_eq_getD_getElem?,Array.getElem?_eq_none h']at h
      have hdir:∀ k,bndB ops j k=true->listed.getD k false=true:=fun k hb=>by
        unfold bndB at hb
        rw [hoj]at hb
        simp only at hb
        obtain⟨ed,he1,he2⟩:=Array.any_eq_true'.1 hb
        simp only [Bool.and_eq_true,beq_iff_eq]at he2
        rw [<- he2.2]
        exact hall ed he1 he2.1
      have hnot:∀ e ∈ oj.after,Region.binds .any e=true->e.on ≠ i:=fun e he hb heq=>hiun (by rw [<- heq];exact hall e he hb)
      have hS2:∀ w',((isL j=true->w'=w)/\(isL j=false->nd j=true->S w'))->S' w':=fun w' hw'=>by
        rcases hSS with h | ⟨h,h'⟩
        · exact h w'
        · cases hL:isL j with
          | true=>rw [hw'.1 hL];exact hS
          | false =>
            refine h w' (hw'.2 hL ?_)
            cases hn:nd j with
            | true=>rfl
            | false=>exact absurd (hcl.anc (h' j hn) hdir) hiun
      have h2:=wpOp_putIf hoj (hfree j oj hoj hji hjun hnot) (fun cs b=>hsel i oi cs b hi) (fun cs b=>hsel j oj cs b hoj) hQ hy h1
      have hfree':∀ k ok,ops[k]? = some ok->k ≠ i->(listed.setIfInBounds j true).getD k true=false->
          (∀ e ∈ ok.after,Region.binds .any e=true->e.on ≠ i)->oi.apart ops ok=true:=fun k ok hk hki hun hno=>by
        refine hfree k ok hk hki ?_ hno
        by_cases hjk:j=k
        · subst hjk;exact hjun
        · rw [getD_set_ne true hjk]at hun;exact hun
      refine wpOp_mono (fun a' w' h3=>⟨h3.2.1,ih (listed.setIfInBounds j true) a' w' (hcl.set hj) hfree' (ready_mono hr (Ne.symm hji)) h3.1 (hS2 w' h3.2.1) ?_⟩) h2
      rw [Array.setIfInBounds_comm _ _ hji]
      exact h3.2.2
theorem wpAnyN_done {Q:Exit->Act->World->Prop} {S:World->Prop} {isL nd:Nat->Bool} {listed:Array Bool} {a:Act} {w:World} (hr:Region.ready .any ops listed= []) (h:Q .normal a w):∀ fuel,wpAnyN P ops Q S isL nd fuel listed a w
  | 0=>⟨hr,h⟩
  | _+1=>⟨fun _=>h,by rw [hr];simp⟩
theorem run_step {lkA lk:List Nat} {fs0:FS} {Kf:Env->Mem->Prop} {Qf:Act->World->Prop} {i:Nat} {p:DPlan} {fs:FS} {Ex LC pre pv:List Nat} {fuel:Nat} {kp kc:Bool}
    (ih : ∀ (listed : Array Bool) (ps : List (Nat × AV)) (hs : List HB) (e g : Env) (m : Mem) (a : Act) (w : World) (L : Lay), St C0 m0 w0 L0 n l keep (kc && kp) fs pre pv Ex ps hs e g m a w L → Lst ops (i :: LC) Ex listed →
        vcPlan P l keep (flM keep m0) m0 fs0 Kf p ps e g m->wpAnyN P ops (fun x a w=>x= .normal/\Qf a w) (SP (C0.here m0 w0 L0) keep m0) lkA.contains (ndB1 ops lk) fuel listed a w)
    (ckA:lkA.contains i=false) (ckc:(kc || !kp)=true) (ckp:(kp || !(ndB1 ops lk i))=true) (c1:chkI P n ops l i=true) (c6:dstNot l fs pv i=true)
    {listed:Array Bool} {ps:List (Nat × AV)} {hs:List HB} {e g:Env} {m:Mem} {a:Act} {w:World} {L:Lay} (S:St C0 m0 w0 L0 n l keep kc fs pre pv Ex ps hs e g m a w L) (hl:Lst ops LC Ex listed) (hir:i ∈ Region.ready .any ops listed)
    (hvc:match l[i]? with | some o=>vcOp P o e m fun e' m'=>keepK keep kp m0 m' (match o.dst with | none=>vcPlan P l keep (flM keep m0) m0 fs0 Kf p ps e' g m' | some d=>putK g (some d) (flt (e'.get d)) fun g'=>vcPlan P l keep (flM keep m0) m0 fs0 Kf p ps e' g' m') | none=>False):
    wpOp P ops (fun x a w=>x= .normal/\Qf a w) i (fun a' w'=>((lkA.contains i=true->w'=w)/\(lkA.contains i=false->ndB1 ops lk i=true->SP (C0.here m0 w0 L0) keep m0 w'))/\wpAnyN P ops (fun x a w=>x= .normal/\Qf a w) (SP (C0.here m0 w0 L0) keep m0) lkA.contains (ndB1 ops lk) fuel (listed.setIfInBounds i true) a' w') a w:=by
  obtain⟨o,ao,ho,hao,hco⟩:=chkI_spec c1
  have hilt:=(Array.getElem?_eq_some_iff.1 ho).1
  obtain⟨hde,hdn,hop⟩:=dst_spec hco
  have hdN:=dstNot_spec c6 hao
  rw [hao]at hvc
  simp only at hvc
  unfold wpOp
  rw [ho]
  simp only
  have hop':=op_sound (P:=P) (C:=CX (C0.here m0 w0 L0) hs m w L) (ops:=ops) (o:=o) (Q:=fun x a w=>x= .normal/\Qf a w)
    (next:=fun a' w'=>((lkA.contains i=true->w'=w)/\(lkA.contains i=false->ndB1 ops lk i=true->SP (C0.here m0 w0 L0) keep m0 w'))/\wpAnyN P ops (fun x a w=>x= .normal/\Qf a w) (SP (C0.here m0 w0 L0) keep m0) lkA.contains (ndB1 ops lk) fuel (listed.setIfInBounds i true) a' w')
    ⟨S.H.size,S.H.defers,S.H.memX,S.H.env⟩ hco hvc (fun e' m' r w' L' hk hr hun=>by
      obtain⟨hk1,hk2⟩:=keepK_spec hk
      have H':HRel (C0.here m0 w0 L0) n hs e' m' (a.put o.dst r) w' L':=S.H.step hr.mem hr.env hr.size hr.defers (fun h hh=>by
        rw [hde]
        cases hq:ao.dst with
        | none=>rfl
        | some d =>
          obtain⟨_,q,q1,q2,blk0,q3,_⟩:=S.hmem h hh
          rw [<- q2]at q3
          exact put_get_ne (fun h5=>fdNe_spec (hdN d hq).2 q1 q3 h5))
      obtain⟨g',hg1,hg2,hg3⟩ :∃ g',vcPlan P l keep (flM keep m0) m0 fs0 Kf p ps e' g' m'/\GR (C0.here m0 w0 L0) m0 w0 L0 g' (a.put o.dst r)/\(∀ d,g.get d= .un->ao.dst ≠ some d->g'.get d= .un):=by
        cases hq:ao.dst with
        | none =>
          rw [hq]at hk2
          refine⟨g,hk2,?_,fun d h _=>h⟩
          rw [hde,hq];exact S.G
        | some d =>
          rw [hq]at hk2
          simp only [putK_eq]at hk2
          refine⟨_,hk2,fun t=> ?_,fun d' hd' hne=>putE_un hd' hne⟩
          rcases Env.set_upd g d (flt (e'.get d)) t with h | ⟨h1,h2⟩ | ⟨h1,h2⟩
          · rw [show (putE g (some d) (flt (e'.get d))).get t= .un from h];exact .un _
          · rw [show (putE g (some d) (flt (e'.get d))).get t=g.get t from h2,hde,hq,put_get_ne h1];exact S.G t
          · rw [show (putE g (some d) (flt (e'.get d))).get t=_ from h2,h1];exact flt_vr (hr.env d)
      have S':St C0 m0 w0 L0 n l keep (kc && kp) fs pre pv Ex ps hs e' g' m' (a.put o.dst r) w' L':=⟨H',hg2,fun h=>hk1 (by simp only [Bool.and_eq_true]at h;exact h.2),fun q hq d val blk hf=>by
        obtain⟨u1,u2⟩:=S.eun q hq d val blk hf
        have:ao.dst ≠ some d:=fun h=>fdNe_spec (hdN _ h).2 hq hf rfl
        exact⟨hun d u1 this,hg3 d u2 this⟩,S.ex,S.hmem,S.hall,S.hnd,S.sf,fun s hs'=>by
        obtain⟨f,d',val',blk',v,sz,sv,b,p1,p2,p3,p4,p5,p6,p7,p8,p9,p10⟩:=S.pps s hs'
        refine⟨f,d',val',blk',v,sz,sv,b,p1,p2,p3,p4,p5,p6,p7,?_,p9,p10⟩
        rw [hde]
        cases hq:ao.dst with
        | none=>exact p8
        | some d=>rw [put_get_ne (fun h=>(hdN d hq).1 (by rw [<- h];exact p9))];exact p8⟩
      exact⟨⟨fun h=>absurd (ckA.symm.trans h) Bool.false_ne_true,fun _ h=>by
        have h1:kp=true:=by rw [h]at ckp;simpa using ckp
        have h2:kc=true:=by rw [h1]at ckc;simpa using ckc
        exact⟨_,keepS S'.H.memC (S'.keepc (by rw [h1,h2];rfl))⟩⟩,ih _ ps hs e' g' m' _ w' L' S' (hl.setL hilt hir) hg1⟩)
  split
  · rename_i hw;rw [if_pos hw]at hop';exact .inl hop'
  · rename_i hw;rw [if_neg hw]at hop';exact⟨⟨fun _=>trivial,hop'.1.2⟩,hop'.2⟩
theorem plan_sound {lkA lk:List Nat} (hR0:MRel (C0.here m0 w0 L0) m0 w0 L0) (hns:Region.noSelect ops=true) {fs0:FS} {Kf:Env->Mem->Prop} {Qf:Act->World->Prop} (hK:∀ e m a w L,Kf e m->Rel (C0.here m0 w0 L0) n e m a w L->Qf a w):
    ∀ (p : DPlan) (kc : Bool) (fs : FS) (LC pre pv : List Nat), (fs = fs0 ∨ fs = []) → chkFS P n ops l fs = true → chkPlan P n ops l lkA lk p kc fs LC pre pv = true → (∀ j, j ∈ LC → j < ops.size ∧ j ∉ fsI fs) → (∀ j, j ∈ fsI fs → j < ops.size ∧ lkA.contains j = false) →
      ∀ (fuel : Nat) (listed : Array Bool) (Ex : List Nat) (ps : List (Nat × AV)) (hs : List HB) (e g : Env) (m : Mem) (a : Act) (w : World) (L : Lay), St C0 m0 w0 L0 n l keep kc fs pre pv Ex ps hs e g m a w L → Ex.Nodup → p.need + (fsI fs).length ≤ fuel + Ex.length → Lst ops LC Ex listed →
        vcPlan P l keep (flM keep m0) m0 fs0 Kf p ps e g m->wpAnyN P ops (fun x a w=>x= .normal/\Qf a w) (SP (C0.here m0 w0 L0) keep m0) lkA.contains (ndB1 ops lk) fuel listed a w:=by
  have exSub:∀ {kc:Bool} {fs:FS} {pre pv Ex ps hs e g m a w L},St C0 m0 w0 L0 n l keep kc fs pre pv Ex ps hs e g m a w L->∀ j,j ∈ Ex->j ∈ fsI fs:=by
    intro kc fs pre pv Ex ps hs e g m a w L S j hj
    rcases S.ex j hj with⟨q,h1,h2⟩ | h1
    · exact mem_fsI.2 (.inl ⟨q,h1,h2⟩)
    · obtain⟨f,_,_,_,_,_,_,_,p1,_⟩:=S.pps j h1
      exact mem_fsI.2 (.inr ⟨_,p1,rfl⟩)
  have toS:∀ {kc:Bool} {fs:FS} {pre pv Ex ps hs e g m a w L},St C0 m0 w0 L0 n l keep kc fs pre pv Ex ps hs e g m a w L->kc=true->SP (C0.here m0 w0 L0) keep m0 w:=fun S hk=>⟨_,keepS S.H.memC (S.keepc hk)⟩
  intro p
  induction p with
  | flat=>intro kc fs LC pre pv _ _ hc;simp [chkPlan]at hc
  | done =>
    intro kc fs LC pre pv _ _ hc hLC hfl fuel listed Ex ps hs e g m a w L S hnd hfuel hl hvc
    simp only [chkPlan,Bool.and_eq_true,List.isEmpty_iff]at hc
    obtain⟨rfl,hall⟩:=hc
    refine wpAnyN_done ?_ ⟨rfl,hK e m a w L hvc ?_⟩ _
    · cases hr:Region.ready .any ops listed with
      | nil=>rfl
      | cons j r =>
        obtain⟨h1,h2,_⟩:=hl.ready (j:=j) (by rw [hr];exact .head _)
        have:=List.all_eq_true.1 hall j (List.mem_range.2 h1)
        exact absurd (by simpa using this) h2
    · have:hs= [] :=by
        cases hs with
        | nil=>rfl
        | cons h r=>obtain ⟨_,q,hq,_⟩:=S.hmem h (.head _);simp at hq
      subst this
      exact S.H.rel
  | look i p ih =>
    intro kc fs LC pre pv hfs0 hfs hc hLC hfl fuel listed Ex ps hs e g m a w L S hnd hfuel hl hvc
    simp only [chkPlan,Bool.and_eq_true,Bool.not_eq_true']at hc
    obtain⟨clA,clk,c1,c2,c3,c4,c5,c6,c7⟩:=hc
    have c2':i ∉ LC:=by simpa using c2
    have c3':i ∉ fsI fs:=by simpa using c3
    obtain⟨o,ao,ho,hao,hco⟩:=chkI_spec c1
    have hilt:=(Array.getElem?_eq_some_iff.1 ho).1
    obtain⟨hde,hdn,hop⟩:=dst_spec hco
    have hdN:=dstNot_spec c6 hao
    change (match l[i]? with | some o=>vcLook o e g m (flM keep m0) fun e g=>vcPlan P l keep (flM keep m0) m0 fs0 Kf p ps e g m | none=>False)at hvc
    rw [hao]at hvc
    simp only at hvc
    have hExLen:=length_le_of_sub hnd (exSub S)
    simp only [DPlan.need]at hfuel
    obtain⟨fuel,rfl⟩ :∃ f,fuel=f+1:=⟨fuel - 1,by omega⟩
    obtain⟨r,e',g',k1,k2,k3,k4,k5,k6,k7⟩:=look_sound hR0 S.H S.G hco (ops:=ops) (fun h hh hd=>by
      obtain⟨_,q,q1,q2,blk0,q3,_⟩:=S.hmem h hh
      rw [<- q2]at q3
      exact fdNe_spec (hdN _ hd).2 q1 q3 rfl) hvc
    have hiEx:i ∉ Ex:=fun h=>c3' (exSub S i h)
    have hready:i ∈ Region.ready .any ops listed:=hl.mk_ready hilt c2' hiEx c4 (fun x hx=>⟨(hLC x hx).1,.inl hx⟩)
    have hfree:Region.free .any ops listed i=true:=by
      unfold Region.free
      rw [ho]
      simp only
      rw [List.all_eq_true]
      intro j hj
      have:=List.all_eq_true.1 c5 j hj
      have hjlt:=List.mem_range.1 hj
      simp only [Bool.or_eq_true,beq_iff_eq]at this ⊢
      rcases this with h | h | h | h
      · exact .inl (.inl h)
      · refine .inl (.inr ?_)
        rw [getD_tf (by rw [hl.size];exact hjlt)]
        exact(hl.iff j hjlt).2 (.inl (by simpa using h))
      · right
        unfold bndB at h
        rw [Array.getElem?_eq_getElem hjlt]at h ⊢
        simp only [Bool.or_eq_true]at h ⊢
        exact .inl h
      · right
        unfold apt at h
        rw [ho,Array.getElem?_eq_getElem hjlt]at h
        rw [Array.getElem?_eq_getElem hjlt]
        simp only [Bool.or_eq_true]at h ⊢
        exact .inr h
    have hregI:regI l i=regOp ao.op:=by unfold regI;rw [hao]
    refine wpAnyN_first ho clA (Region.noSelect_spec hns) (fun c a w h=>by cases h.1) (S':=fun w'=>regOp ao.op=true\/SP (C0.here m0 w0 L0) keep m0 w') ?_ fuel listed a w hl.closed (Region.free_spec ho hfree) hready k1 ?_ ?_
    · simp only [Bool.or_eq_true,Bool.and_eq_true]at clk
      rcases clk with h | ⟨_,h⟩
      · exact .inl fun w=> .inl (by rw [<- hregI];exact h)
      · refine .inr ⟨fun w h=> .inr h,fun j hj=> ?_⟩
        unfold ndB1 at hj
        simp only [Bool.not_eq_false']at hj
        exact bndT_anc (List.all_eq_true.1 hj i (by simpa using h))
    · simp only [Bool.or_eq_true,Bool.and_eq_true]at clk
      rcases clk with h | ⟨h,_⟩
      · exact .inl (by rw [<- hregI];exact h)
      · exact .inr (toS S h)
    · refine ih kc fs (i::LC) pre pv hfs0 hfs c7 (fun j hj=> ?_) hfl fuel _ Ex ps hs e' g' m (a.put o.dst r) w L ⟨k3,k4,S.keepc,fun q hq d val blk hf=> ?_,S.ex,S.hmem,S.hall,S.hnd,S.sf,fun s hs'=> ?_⟩ hnd (by omega) (hl.setL hilt hready) k2
      · rcases List.mem_cons.1 hj with rfl | hj
        · exact⟨hilt,c3'⟩
        · exact hLC j hj
      · obtain⟨u1,u2⟩:=S.eun q hq d val blk hf
        have:ao.dst ≠ some d:=fun h=>fdNe_spec (hdN _ h).2 hq hf rfl
        exact⟨k6 d u1 this,k7 d u2 this⟩
      · obtain⟨f,d',val',blk',v,sz,sv,b,p1,p2,p3,p4,p5,p6,p7,p8,p9,p10⟩:=S.pps s hs'
        refine⟨f,d',val',blk',v,sz,sv,b,p1,p2,p3,p4,p5,p6,p7,?_,p9,p10⟩
        rw [hde]
        cases hq:ao.dst with
        | none=>exact p8
        | some d=>rw [put_get_ne (fun h=>(hdN d hq).1 (by rw [<- h];exact p9))];exact p8
  | run i kp p ih =>
    intro kc fs LC pre pv hfs0 hfs hc hLC hfl fuel listed Ex ps hs e g m a w L S hnd hfuel hl hvc
    simp only [chkPlan,Bool.and_eq_true,Bool.not_eq_true']at hc
    obtain⟨ckA,ckp,ck1,ck2,c1,c2,c3,c4,c5,c6,c7⟩:=hc
    have c2':i ∉ LC:=by simpa using c2
    have c3':i ∉ fsI fs:=by simpa using c3
    obtain⟨o,ao,ho,hao,hco⟩:=chkI_spec c1
    have hilt:=(Array.getElem?_eq_some_iff.1 ho).1
    obtain⟨hde,hdn,hop⟩:=dst_spec hco
    have hdN:=dstNot_spec c6 hao
    have hkp:ndB1 ops lk i=true->kp=true:=fun h=>by rw [h]at ckp;simpa using ckp
    change (match l[i]? with | some o=>vcOp P o e m fun e' m'=>keepK keep kp m0 m' (match o.dst with | none=>vcPlan P l keep (flM keep m0) m0 fs0 Kf p ps e' g m' | some d=>putK g (some d) (flt (e'.get d)) fun g'=>vcPlan P l keep (flM keep m0) m0 fs0 Kf p ps e' g' m') | none=>False)at hvc
    rw [hao]at hvc
    simp only at hvc
    simp only [DPlan.need]at hfuel
    induction fuel generalizing listed Ex hs a w with
    | zero=>have:=length_le_of_sub hnd (exSub S);omega
    | succ fuel ihf =>
      have hiEx:i ∉ Ex:=fun h=>c3' (exSub S i h)
      have hir:=hl.mk_ready hilt c2' hiEx c4 (fun x hx=>⟨(hLC x hx).1,.inl hx⟩)
      refine⟨fun h0=>by rw [h0]at hir;simp at hir,fun j hj=> ?_⟩
      obtain⟨j1,j2,j3,oj,j4,j5⟩:=hl.ready hj
      by_cases hji:j=i
      · subst hji
        unfold wpOp
        rw [ho]
        simp only
        have hop':=op_sound (P:=P) (C:=CX (C0.here m0 w0 L0) hs m w L) (ops:=ops) (o:=o) (Q:=fun x a w=>x= .normal/\Qf a w)
          (next:=fun a' w'=>((lkA.contains j=true->w'=w)/\(lkA.contains j=false->ndB1 ops lk j=true->SP (C0.here m0 w0 L0) keep m0 w'))/\wpAnyN P ops (fun x a w=>x= .normal/\Qf a w) (SP (C0.here m0 w0 L0) keep m0) lkA.contains (ndB1 ops lk) fuel (listed.setIfInBounds j true) a' w')
          ⟨S.H.size,S.H.defers,S.H.memX,S.H.env⟩ hco hvc (fun e' m' r w' L' hk hr hun=>by
            have hkeep:((kc && kp)=true->keepR keep m0 m')/\(match ao.dst with | none=>vcPlan P l keep (flM keep m0) m0 fs0 Kf p ps e' g m' | some d=>putK g (some d) (flt (e'.get d)) fun g'=>vcPlan P l keep (flM keep m0) m0 fs0 Kf p ps e' g' m'):=
              ⟨fun h1=>(keepK_spec hk).1 (by simp only [Bool.and_eq_true]at h1;exact h1.2),(keepK_spec hk).2⟩
            obtain⟨hk1,hk2⟩:=hkeep
            have H':HRel (C0.here m0 w0 L0) n hs e' m' (a.put o.dst r) w' L':=S.H.step hr.mem hr.env hr.size hr.defers (fun h hh=>by
              rw [hde]
              cases hq:ao.dst with
              | none=>rfl
              | some d =>
                obtain⟨_,q,q1,q2,blk0,q3,_⟩:=S.hmem h hh
                rw [<- q2]at q3
                exact put_get_ne (fun h5=>fdNe_spec (hdN d hq).2 q1 q3 h5))
            obtain⟨g',hg1,hg2,hg3⟩ :∃ g',vcPlan P l keep (flM keep m0) m0 fs0 Kf p ps e' g' m'/\GR (C0.here m0 w0 L0) m0 w0 L0 g' (a.put o.dst r)/\(∀ d,g.get d= .un->ao.dst ≠ some d->g'.get d= .un):=by
              cases hq:ao.dst with
              | none =>
                rw [hq]at hk2
                refine⟨g,hk2,?_,fun d h _=>h⟩
                rw [hde,hq];exact S.G
              | some d =>
                rw [hq]at hk2
                simp only [putK_eq]at hk2
                refine⟨_,hk2,fun t=> ?_,fun d' hd' hne=>putE_un hd' hne⟩
                rcases Env.set_upd g d (flt (e'.get d)) t with h | ⟨h1,h2⟩ | ⟨h1,h2⟩
                · rw [show (putE g (some d) (flt (e'.get d))).get t= .un from h];exact .un _
                · rw [show (putE g (some d) (flt (e'.get d))).get t=g.get t from h2,hde,hq,put_get_ne h1];exact S.G t
                · rw [show (putE g (some d) (flt (e'.get d))).get t=_ from h2,h1];exact flt_vr (hr.env d)
            have S':St C0 m0 w0 L0 n l keep (kc && kp) fs pre pv Ex ps hs e' g' m' (a.put o.dst r) w' L':=⟨H',hg2,hk1,fun q hq d val blk hf=>by
              obtain⟨u1,u2⟩:=S.eun q hq d val blk hf
              have:ao.dst ≠ some d:=fun h=>fdNe_spec (hdN _ h).2 hq hf rfl
              exact⟨hun d u1 this,hg3 d u2 this⟩,S.ex,S.hmem,S.hall,S.hnd,S.sf,fun s hs'=>by
              obtain⟨f,d',val',blk',v,sz,sv,b,p1,p2,p3,p4,p5,p6,p7,p8,p9,p10⟩:=S.pps s hs'
              refine⟨f,d',val',blk',v,sz,sv,b,p1,p2,p3,p4,p5,p6,p7,?_,p9,p10⟩
              rw [hde]
              cases hq:ao.dst with
              | none=>exact p8
              | some d=>rw [put_get_ne (fun h=>(hdN d hq).1 (by rw [<- h];exact p9))];exact p8⟩
            exact⟨⟨fun h=>absurd (ckA.symm.trans h) Bool.false_ne_true,fun _ hnd'=>toS S' (by
              have hkt:kp=true:=hkp hnd'
              have:kc=true:=by
                simp only [hkt,Bool.not_true,Bool.false_and,Bool.or_false]at ck1
                exact ck1
              rw [this,hkt];rfl)⟩,ih (kc && kp) fs (j::LC) pre pv hfs0 hfs c7 (fun x hx=>by
              rcases List.mem_cons.1 hx with rfl | hx
              · exact⟨hilt,c3'⟩
              · exact hLC x hx) hfl fuel _ Ex ps hs e' g' m' _ w' L' S' hnd (by omega) (hl.setL hilt hir) hg1⟩)
        split
        · rename_i hw;rw [if_pos hw]at hop';exact .inl hop'
        · rename_i hw;rw [if_neg hw]at hop';exact⟨⟨fun _=>trivial,hop'.1.2⟩,hop'.2⟩
      · have hsafe:=List.all_eq_true.1 c5 j (List.mem_range.2 j1)
        simp only [Bool.or_eq_true,beq_iff_eq,Bool.not_eq_true']at hsafe
        have hpr:prIn ops j (LC++fsI fs)=true:=prIn_of j4 (fun e he hb=>(j5 e he hb).elim (fun h=>List.mem_append.2 (.inl h)) (fun h=>List.mem_append.2 (.inr (exSub S _ h))))
        have hjj:(∃ q,q ∈ fs/\q.1=j)\/(j ∈ pre/\∀ q,q ∈ fs->q.2=some j->q.1 ∈ Ex):=by
          rcases hsafe with h | h | h | h | h
          · exact absurd h hji
          · exact absurd (by simpa using h) j2
          · left
            obtain⟨q,h1,h2⟩:=List.mem_map.1 (show j ∈ fs.map (·.1) by simpa using h)
            exact⟨q,h1,h2⟩
          · refine .inr ⟨by simpa using h,fun q hq hs=> ?_⟩
            simp only [chkFS,Bool.and_eq_true]at hfs
            have:=List.all_eq_true.1 hfs.2.2 q hq
            simp only [hs,Bool.and_eq_true]at this
            have hb:=this.2.2.2.1
            unfold bndB at hb
            rw [j4]at hb
            simp only at hb
            obtain⟨ed,he1,he2⟩:=Array.any_eq_true'.1 hb
            simp only [Bool.and_eq_true,beq_iff_eq]at he2
            rcases j5 ed he1 he2.1 with h | h
            · rw [he2.2]at h
              exact absurd (mem_fsI.2 (.inl ⟨q,hq,rfl⟩)) (hLC _ h).2
            · rw [<- he2.2];exact h
          · rw [hpr]at h;cases h
        have hfLA:lkA.contains j=false:=by
          refine(hfl j ?_).2
          rcases hjj with⟨q,h1,h2⟩ | ⟨hp,_⟩
          · exact mem_fsI.2 (.inl ⟨q,h1,h2⟩)
          · obtain⟨f,_,_,_,_,_,_,_,p1,_⟩:=S.pps j hp
            exact mem_fsI.2 (.inr ⟨_,p1,rfl⟩)
        have hkc:kc=true:=by
          simp only [Bool.or_eq_true,Bool.and_eq_true]at ck1
          rcases ck1 with h | h
          · exact h
          · have:fs= [] :=by simpa using h.2
            subst this
            rcases hjj with⟨q,hq,_⟩ | ⟨hp,_⟩
            · simp at hq
            · obtain⟨f,_,_,_,_,_,_,_,p1,_⟩:=S.pps j hp
              simp at p1
        refine S.fstep hfs j3 hjj (fun hs' a' w' S'=>⟨⟨fun h=>absurd (hfLA.symm.trans h) Bool.false_ne_true,fun _ _=>toS S' hkc⟩,?_⟩)
        exact ihf _ _ _ _ _ S' (List.nodup_cons.2 ⟨j3,hnd⟩) (by rw [List.length_cons];omega) (hl.setE j1 hj)
  | two kp i p j0 q0 ihp ihq =>
    intro kc fs LC pre pv hfs0 hfs hc hLC hfl fuel listed Ex ps hs e g m a w L S hnd hfuel hl hvc
    simp only [chkPlan,Bool.and_eq_true,Bool.not_eq_true']at hc
    obtain⟨ck1,ck2,⟨a1,a2,a3,a4,a4',a5,a6,a7⟩,⟨b1,b2,b3,b4,b4',b5,b6,b7⟩,c5⟩:=hc
    have ck0:(kc || !kp)=true:=by
      simp only [Bool.or_eq_true,Bool.and_eq_true]at ck1 ⊢
      exact ck1.imp id (·.1)
    simp only [DPlan.need]at hfuel
    obtain⟨oi,_,hoi,_⟩:=chkI_spec a3
    obtain⟨oj,_,hoj,_⟩:=chkI_spec b3
    have hilt:=(Array.getElem?_eq_some_iff.1 hoi).1
    have hjlt:=(Array.getElem?_eq_some_iff.1 hoj).1
    obtain⟨v1,v2⟩ :(match l[i]? with | some o=>vcOp P o e m fun e' m'=>keepK keep kp m0 m' (match o.dst with | none=>vcPlan P l keep (flM keep m0) m0 fs0 Kf p ps e' g m' | some d=>putK g (some d) (flt (e'.get d)) fun g'=>vcPlan P l keep (flM keep m0) m0 fs0 Kf p ps e' g' m') | none=>False)/\
      (match l[j0]? with | some o=>vcOp P o e m fun e' m'=>keepK keep kp m0 m' (match o.dst with | none=>vcPlan P l keep (flM keep m0) m0 fs0 Kf q0 ps e' g m' | some d=>putK g (some d) (flt (e'.get d)) fun g'=>vcPlan P l keep (flM keep m0) m0 fs0 Kf q0 ps e' g' m') | none=>False):=hvc
    have hiE:i ∉ fsI fs:=by simpa using a4'
    have hjE:j0 ∉ fsI fs:=by simpa using b4'
    induction fuel generalizing listed Ex hs a w with
    | zero=>have:=length_le_of_sub hnd (exSub S);omega
    | succ fuel ihf =>
      have hir:=hl.mk_ready hilt (by simpa using a4) (fun h=>hiE (exSub S i h)) a5 (fun x hx=>⟨(hLC x hx).1,.inl hx⟩)
      refine⟨fun h0=>by rw [h0]at hir;simp at hir,fun j hj=> ?_⟩
      obtain⟨j1,j2,j3,oj,j4,j5⟩:=hl.ready hj
      by_cases hji:j=i
      · subst hji
        exact run_step (fun listed' ps' hs' e' g' m' a' w' L' S' hl' hv'=>ihp (kc && kp) fs (j::LC) pre pv hfs0 hfs a7 (fun x hx=>by
          rcases List.mem_cons.1 hx with rfl | hx
          · exact⟨hilt,hiE⟩
          · exact hLC x hx) hfl fuel listed' Ex ps' hs' e' g' m' a' w' L' S' hnd (by omega) hl' hv') a1 ck0 (by simpa using a2) a3 a6 S hl hj v1
      by_cases hjj0:j=j0
      · subst hjj0
        exact run_step (fun listed' ps' hs' e' g' m' a' w' L' S' hl' hv'=>ihq (kc && kp) fs (j::LC) pre pv hfs0 hfs b7 (fun x hx=>by
          rcases List.mem_cons.1 hx with rfl | hx
          · exact⟨hjlt,hjE⟩
          · exact hLC x hx) hfl fuel listed' Ex ps' hs' e' g' m' a' w' L' S' hnd (by omega) hl' hv') b1 ck0 (by simpa using b2) b3 b6 S hl hj v2
      · have hsafe:=List.all_eq_true.1 c5 j (List.mem_range.2 j1)
        simp only [Bool.or_eq_true,beq_iff_eq,Bool.not_eq_true']at hsafe
        have hpr:prIn ops j (LC++fsI fs)=true:=prIn_of j4 (fun e he hb=>(j5 e he hb).elim (fun h=>List.mem_append.2 (.inl h)) (fun h=>List.mem_append.2 (.inr (exSub S _ h))))
        have hjj:(∃ q,q ∈ fs/\q.1=j)\/(j ∈ pre/\∀ q,q ∈ fs->q.2=some j->q.1 ∈ Ex):=by
          rcases hsafe with h | h | h | h | h | h
          · exact absurd h hji
          · exact absurd h hjj0
          · exact absurd (by simpa using h) j2
          · left
            obtain⟨q,h1,h2⟩:=List.mem_map.1 (show j ∈ fs.map (·.1) by simpa using h)
            exact⟨q,h1,h2⟩
          · refine .inr ⟨by simpa using h,fun q hq hs=> ?_⟩
            simp only [chkFS,Bool.and_eq_true]at hfs
            have:=List.all_eq_true.1 hfs.2.2 q hq
            simp only [hs,Bool.and_eq_true]at this
            have hb:=this.2.2.2.1
            unfold bndB at hb
            rw [j4]at hb
            simp only at hb
            obtain⟨ed,he1,he2⟩:=Array.any_eq_true'.1 hb
            simp only [Bool.and_eq_true,beq_iff_eq]at he2
            rcases j5 ed he1 he2.1 with h | h
            · rw [he2.2]at h
              exact absurd (mem_fsI.2 (.inl ⟨q,hq,rfl⟩)) (hLC _ h).2
            · rw [<- he2.2];exact h
          · rw [hpr]at h;cases h
        have hfLA:lkA.contains j=false:=by
          refine(hfl j ?_).2
          rcases hjj with⟨q,h1,h2⟩ | ⟨hp,_⟩
          · exact mem_fsI.2 (.inl ⟨q,h1,h2⟩)
          · obtain⟨f,_,_,_,_,_,_,_,p1,_⟩:=S.pps j hp
            exact mem_fsI.2 (.inr ⟨_,p1,rfl⟩)
        have hkc:kc=true:=by
          simp only [Bool.or_eq_true,Bool.and_eq_true]at ck1
          rcases ck1 with h | h
          · exact h
          · have:fs= [] :=by simpa using h.2
            subst this
            rcases hjj with⟨q,hq,_⟩ | ⟨hp,_⟩
            · simp at hq
            · obtain⟨f,_,_,_,_,_,_,_,p1,_⟩:=S.pps j hp
              simp at p1
        refine S.fstep hfs j3 hjj (fun hs' a' w' S'=>⟨⟨fun h=>absurd (hfLA.symm.trans h) Bool.false_ne_true,fun _ _=>toS S' hkc⟩,?_⟩)
        exact ihf _ _ _ _ _ S' (List.nodup_cons.2 ⟨j3,hnd⟩) (by rw [List.length_cons];omega) (hl.setE j1 hj)
  | pre f s p ih =>
    intro kc fs LC pre pv hfs0 hfs hc hLC hfl fuel listed Ex ps hs e g m a w L S hnd hfuel hl hvc
    simp only [chkPlan,Bool.and_eq_true,Bool.not_eq_true']at hc
    obtain⟨ck,c1,c2,c3,c4⟩:=hc
    have c1':(f,some s) ∈ fs:=by simpa using c1
    have c3':s ∉ pre:=by simpa using c3
    split at c4
    case h_2=>cases c4
    rename_i sz d v hs0
    simp only [Bool.and_eq_true,bne_iff_ne,Nat.blt_eq]at c4
    obtain⟨c5,c6,c7,c8,c9⟩:=c4
    change (match fOfL l f,sOf l s with | some (d,_,blk),some (sz,d',v)=>condB ((d == d') && (det2 true (e.get v) && (storeB sz (e.get v) blk).isSome)) (forceV (e.get v) fun x=>vcPlan P l keep (flM keep m0) m0 fs0 Kf p ((s,x)::ps) e g m) False | _,_=>False)at hvc
    rw [hs0]at hvc
    split at hvc
    case h_2=>exact hvc.elim
    rename_i d1 val blk sz1 d2 v1 hf0 heq
    simp only [Option.some.injEq,Prod.mk.injEq]at heq
    obtain⟨rfl,rfl,rfl⟩:=heq
    obtain⟨hb,hvc2⟩:=condB_true hvc
    rw [forceV_eq]at hvc2
    simp only [Bool.and_eq_true,beq_iff_eq]at hb
    obtain⟨rfl,hb2,hb3⟩:=hb
    obtain⟨b,hb4⟩:=Option.isSome_iff_exists.1 hb3
    have hlook:∀ s',s' ≠ s->List.lookup s' ((s,e.get v)::ps)=List.lookup s' ps:=by
      intro s' hne
      rw [List.lookup_cons]
      have:(s' == s)=false:=by simpa using hne
      rw [this]
    refine ih kc fs LC (s::pre) (v::pv) hfs0 hfs c9 hLC hfl fuel listed Ex _ hs e g m a w L ⟨S.H,S.G,S.keepc,S.eun,fun j hj=>(S.ex j hj).imp id (.tail _),fun h hh=> ?_,S.hall,S.hnd,S.sf,fun s' hs'=> ?_⟩ hnd hfuel hl hvc2
    · obtain⟨k1,q,k2,k3,blk0,k4,k5⟩:=S.hmem h hh
      refine⟨k1,q,k2,k3,blk0,k4,k5.imp id (fun⟨s',u1,u2,u3⟩=>⟨s',u1,u2,?_⟩)⟩
      have hne:s' ≠ s:=by
        rintro rfl
        rcases S.ex s' u2 with⟨q',h1,h2⟩ | h1
        · simp only [chkFS,Bool.and_eq_true]at hfs
          exact fs_apart (ndN_spec hfs.1) h1 k2 u1 h2
        · exact c3' h1
      rw [<- u3]
      simp only [fillOne,u1,hlook s' hne]
    · rcases List.mem_cons.1 hs' with rfl | hs'
      · refine⟨f,d1,val,blk,e.get v,sz,v,b,c1',c2,hf0,hs0,by rw [List.lookup_cons];simp,hb2,hb4,det2_move hb2 (.inl rfl) (S.H.env v),.head _,c5,c6,c7,c8⟩
      · obtain⟨f,d',val',blk',v',sz,sv,b,p1,p2,p3,p4,p5,p6,p7,p8,p9,p10⟩:=S.pps s' hs'
        exact⟨f,d',val',blk',v',sz,sv,b,p1,p2,p3,p4,by rw [hlook s' (fun h=>c3' (h ▸ hs'))];exact p5,p6,p7,p8,.tail _ p9,p10⟩
  | fill p ih =>
    intro kc fs LC pre pv hfs0 hfs hc hLC hfl fuel listed Ex ps hs e g m a w L S hnd hfuel hl hvc
    simp only [chkPlan,Bool.and_eq_true,Bool.not_eq_true']at hc
    obtain⟨ck,c0,c1,c2,c3,c4⟩:=hc
    have hfs':=hfs
    simp only [chkFS,Bool.and_eq_true]at hfs'
    have hnd0:=ndN_spec hfs'.1
    have hfe:fs=fs0:=hfs0.elim id (fun h=>by subst h;simp at c0)
    have hpre:∀ q,q ∈ fs->∀ s,q.2=some s->s ∈ pre:=fun q hq s hs=>by
      have:=List.all_eq_true.1 c1 q hq
      simp only [hs]at this
      simpa using this
    simp only [DPlan.need]at hfuel
    change fillK l ps fs0 e m (fun e m=>vcPlan P l keep (flM keep m0) m0 fs0 Kf p ps e g m)at hvc
    rw [<- hfe]at hvc
    have full:∀ {fuel:Nat} {listed:Array Bool} {Ex:List Nat} {hs:List HB} {a:Act} {w:World},St C0 m0 w0 L0 n l keep kc fs pre pv Ex ps hs e g m a w L->Ex.Nodup->p.need+(fsI fs).length<=fuel+Ex.length->Lst ops LC Ex listed->(∀ t,t ∈ fsI fs->t ∈ Ex)->
        wpAnyN P ops (fun x a w=>x= .normal/\Qf a w) (SP (C0.here m0 w0 L0) keep m0) lkA.contains (ndB1 ops lk) fuel listed a w:=by
      intro fuel listed Ex hs a w S hnd hfuel hl hall
      have hExLen:=length_le_of_sub hnd (exSub S)
      obtain⟨e',m',L',k1,k2,t,k3⟩:=fillK_sound S.H (fs:=fs) (fun h hh=>by
        obtain⟨u1,q,u2,u3,blk0,u4,u5⟩:=S.hmem h hh
        refine⟨q,u2,u3,?_⟩
        rcases u5 with⟨v1,v2⟩ | ⟨s,v1,v2,v3⟩
        · cases hq:q.2 with
          | none =>
            rw [<- u3]at u4
            simp only [fillOne,u4,hq,v1]
          | some s=>exact absurd (hall s (mem_fsI.2 (.inr ⟨q,u2,hq⟩))) (v2 s hq)
        · exact v3) (fun q hq=>S.hall q hq (hall _ (mem_fsI.2 (.inl ⟨q,hq,rfl⟩)))) S.hnd (List.nodup_append.1 hnd0).1 hvc
      refine ih kc [] (fsI fs++LC) [] [] (.inr rfl) (by simp [chkFS,fsI,ndN,fdDist]) c4 (fun j hj=>⟨?_,by simp [fsI]⟩) (fun j hj=>by simp [fsI]at hj) fuel listed [] ps [] e' g m' a w L' ⟨k2,S.G,fun hc=> ?_,fun q hq=>by simp at hq,fun j hj=>by simp at hj,fun h hh=>by simp at hh,fun q hq=>by simp at hq,by simp,fun q hq=>by simp at hq,fun s hs=>by simp at hs⟩ .nil (by simp [fsI];omega) ⟨hl.closed,hl.size,fun j hj=> ?_⟩ (by rw [<- hfe];exact k1)
      · rcases List.mem_append.1 hj with h | h
        · exact(hfl j h).1
        · exact(hLC j h).1
      · rw [k3];exact keepR_app (S.keepc hc) t
      · rw [hl.iff j hj,List.mem_append]
        constructor
        · rintro(h | h)
          · exact .inl (.inr h)
          · exact .inl (.inl (exSub S j h))
        · rintro((h | h) | h)
          · exact .inr (hall j h)
          · exact .inl h
          · simp at h
    clear hvc
    induction fuel generalizing listed Ex hs a w with
    | zero =>
      refine full S hnd hfuel hl (fun t ht=> ?_)
      by_cases h:t ∈ Ex
      · exact h
      · have:=length_le_of_sub (l1:=t::Ex) (l2:=fsI fs) (List.nodup_cons.2 ⟨h,hnd⟩) (fun x hx=>by
          rcases List.mem_cons.1 hx with rfl | hx
          · exact ht
          · exact exSub S x hx)
        rw [List.length_cons]at this
        omega
    | succ fuel ihf =>
      by_cases hall:∀ t,t ∈ fsI fs->t ∈ Ex
      · exact full S hnd hfuel hl hall
      · obtain⟨t,ht⟩:=Classical.not_forall.1 hall
        obtain⟨ht1,ht2⟩:=Classical.not_imp.1 ht
        refine⟨fun h0=> ?_,fun j hj=> ?_⟩
        · obtain⟨j,hj⟩:=first_ready hl c2 (fun x hx=>⟨(hfl x hx).1,fun h=>(hLC x h).2 hx⟩) (fun x hx=>⟨(hLC x hx).1,.inl hx⟩) ⟨t,ht1,ht2⟩
          rw [h0]at hj;simp at hj
        · obtain⟨j1,j2,j3,oj,j4,j5⟩:=hl.ready hj
          have hedge:∀ f,bndB ops j f=true->f ∈ LC\/f ∈ Ex:=by
            intro f hb
            unfold bndB at hb
            rw [j4]at hb
            simp only at hb
            obtain⟨ed,he1,he2⟩:=Array.any_eq_true'.1 hb
            simp only [Bool.and_eq_true,beq_iff_eq]at he2
            rw [<- he2.2]
            exact j5 ed he1 he2.1
          have hjf:j ∈ fsI fs:=by
            have:=List.all_eq_true.1 c3 j (List.mem_range.2 j1)
            simp only [Bool.or_eq_true]at this
            rcases this with h | h | h
            · exact absurd (by simpa using h) j2
            · simpa using h
            · rcases hedge t (List.all_eq_true.1 h t ht1)with h | h
              · exact absurd ht1 (hLC t h).2
              · exact absurd h ht2
          have hjj:(∃ q,q ∈ fs/\q.1=j)\/(j ∈ pre/\∀ q,q ∈ fs->q.2=some j->q.1 ∈ Ex):=by
            rcases mem_fsI.1 hjf with h | ⟨q,h1,h2⟩
            · exact .inl h
            · refine .inr ⟨hpre q h1 j h2,fun q' hq' hs=> ?_⟩
              have:=List.all_eq_true.1 hfs'.2.2 q' hq'
              simp only [hs,Bool.and_eq_true]at this
              rcases hedge _ this.2.2.2.1 with h | h
              · exact absurd (mem_fsI.2 (.inl ⟨q',hq',rfl⟩)) (hLC _ h).2
              · exact h
          refine S.fstep hfs j3 hjj (fun hs' a' w' S'=>⟨⟨fun h=>absurd ((hfl j hjf).2.symm.trans h) Bool.false_ne_true,fun _ _=>toS S' ck⟩,?_⟩)
          exact ihf _ _ _ _ _ S' (List.nodup_cons.2 ⟨j3,hnd⟩) (by rw [List.length_cons];omega) (hl.setE j1 hj)
end
noncomputable def chkDraw2 (P:Program) (n:Nat) (ops:Array Oper) (l:List AOpr) (d:DInfo):Bool:=
  Region.noSelect ops && (Nat.ble (d.p.need+(fsI d.fs).length) ops.size && (((fsI d.fs).all fun j=>Nat.blt j ops.size && !(d.p.looks.contains j)) && (chkFS P n ops l d.fs && chkPlan P n ops l d.p.looks (d.p.loads l) d.p true d.fs [] [] [])))
noncomputable def killF (l:List AOpr) (fs:FS):Env->(Env->Prop)->Prop:=
  List.rec (motive:=fun _=>Env->(Env->Prop)->Prop) (fun e K=>K e) (fun p _ ih e K=>match fOfL l p.1 with | some (d,_,_)=>Env.setK 12 e d .un fun e=>ih e K | none=>False) fs
theorem killF_spec {l:List AOpr}:∀ {fs:FS} {e:Env} {K:Env->Prop},killF l fs e K->∃ e',K e'/\(∀ t,e'.get t= .un\/e'.get t=e.get t)/\∀ q,q ∈ fs->∀ d val blk,fOfL l q.1=some (d,val,blk)->e'.get d= .un
  | [],e,K,h=>⟨e,h,fun t=> .inr rfl,fun q hq=>by simp at hq⟩
  | p :: r, e, K, h => by
    change (match fOfL l p.1 with | some (d,_,_)=>Env.setK 12 e d .un fun e=>killF l r e K | none=>False)at h
    split at h
    case h_2=>exact h.elim
    rename_i d val blk hf
    rw [Env.setK_eq]at h
    obtain⟨e',k1,k2,k3⟩:=killF_spec h
    have hun:∀ t,(e.set d .un).get t= .un\/(e.set d .un).get t=e.get t:=fun t=>by
      rcases Env.set_upd e d .un t with h | ⟨_,h⟩ | ⟨_,h⟩
      · exact .inl h
      · exact .inr h
      · exact .inl h
    refine⟨e',k1,fun t=> ?_,fun q hq d' val' blk' hf'=> ?_⟩
    · rcases k2 t with h | h
      · exact .inl h
      · rw [h];exact hun t
    · rcases List.mem_cons.1 hq with rfl | hq
      · rw [hf]at hf'
        simp only [Option.some.injEq,Prod.mk.injEq]at hf'
        obtain⟨rfl,_,_⟩:=hf'
        rcases k2 d with h | h
        · exact h
        · rw [h]
          rcases Env.set_upd e d .un d with h | ⟨h1,h⟩ | ⟨_,h⟩
          · exact h
          · exact absurd rfl h1
          · exact h
      · exact k3 q hq d' val' blk' hf'
noncomputable def DK:DrawKit where
  chk P n ops l d:=match d.p with
    | .flat=>DK0.chk P n ops l d
    | _=>chkDraw2 P n ops l d
  vc P l d e m K:=match d.p with
    | .flat=>DK0.vc P l d e m K
    | _=>killF l d.fs e fun e=>resK e d.keep fun keep=>flMK keep m fun mS=>vcPlan P l keep mS m d.fs K d.p [] e e m
  sound:=by
    intro P n ops l d id hm hc C e m a w L K hrel hvc Q hQ
    have main:chkDraw2 P n ops l d=true->(killF l d.fs e fun e=>resK e d.keep fun keep=>flMK keep m fun mS=>vcPlan P l keep mS m d.fs K d.p [] e e m)->(Code.region id ops true).wp P Q a w:=by
      intro hc hvc
      simp only [chkDraw2,Bool.and_eq_true,Nat.ble_eq]at hc
      obtain⟨h1,h2,h3,h4,h5⟩:=hc
      obtain⟨e',k0,k2,k3⟩:=killF_spec hvc
      obtain⟨keep,k1⟩:=resK_spec k0
      rw [flMK_eq]at k1
      let w1:World:= {w with drawn:=w.drawn+1}
      have hrel':Rel C n e' m a w1 L:=⟨hrel.size,hrel.defers,hrel.mem.drawn _,fun t=>by
        rcases k2 t with h | h
        · rw [h];exact .un _
        · rw [h];exact hrel.env t⟩
      have hR0:=hrel'.mem.here
      have S0:St C m w1 L n l keep true d.fs [] [] [] [] [] e' e' m a w1 L:=⟨HRel.start hrel',fun t=>hrel'.env t,fun _=>keepR_refl _ _,fun q hq d' val blk hf=>⟨k3 q hq d' val blk hf,k3 q hq d' val blk hf⟩,fun j hj=>by simp at hj,fun h hh=>by simp at hh,fun q _ hq=>by simp at hq,by simp,fun q _ s _ hs=>by simp at hs,fun s hs=>by simp at hs⟩
      refine Code.wp_mono (Q:=fun x a' w'=>x= .normal/\Q .normal a' w') (by rintro x a' w' ⟨rfl,h⟩;exact h) ?_
      refine wp_region_any hm (wpAny_of_N (S:=SP (C.here m w1 L) keep m) (isL:=d.p.looks.contains) (nd:=ndB1 ops (d.p.loads l)) _ _ _ _ ?_)
      refine plan_sound hR0 h1 (fs0:=d.fs) (Kf:=K) (Qf:=fun a w=>Q .normal a w) (fun e2 m2 a2 w2 L2 hk hr=> ?_) d.p true d.fs [] [] [] (.inl rfl) h4 h5 (fun j hj=>by simp at hj) (fun j hj=>by
        have:=List.all_eq_true.1 h3 j hj
        simp only [Bool.and_eq_true,Nat.blt_eq,Bool.not_eq_true']at this
        exact this) ops.size _ [] [] [] e' e' m a w1 L S0 .nil (by simpa using h2) ⟨fun j k hj=>by
        exfalso
        rw [Array.getD_eq_getD_getElem?,Array.getElem?_replicate]at hj
        split at hj <;> simp at hj,by simp,fun j hj=> ?_⟩ k1
      · obtain⟨b1,b2⟩:=hrel'.mem.back hr.mem
        exact hQ e2 m2 a2 w2 L2 hk ⟨hr.size,hr.defers,b1,hr.env⟩
      · simp [Array.getD_eq_getD_getElem?,hj]
    cases hp:d.p with
    | flat =>
      rw [hp]at hc hvc
      exact DK0.sound (P:=P) (n:=n) (ops:=ops) (l:=l) (ord:=d) hm hc hrel hvc hQ
    | _ =>
      rw [hp]at hc hvc
      exact main hc (by rw [hp];exact hvc)
end Go.Wit
end

section
set_option maxHeartbeats 1000000
namespace Go.Proofs.YtfolpdmbpbbimaaGreat
open Go Go.Wit
noncomputable abbrev Pg:Program:=Tryz.prog
def oM (d s:Nat):AOpr:=⟨some d,.mv (.t s),none⟩
def oK (d f:Nat) (l:List Opn):AOpr:=⟨some d,.call (.c (.fn f [])) l,none⟩
def oO (d:Nat) (o:AOp):AOpr:=⟨some d,o,none⟩
def oG (d:Nat) (o:AOp) (t:Nat) (b:Bool):AOpr:=⟨some d,o,some (t,b)⟩
def oS (z a b:Nat):AOpr:=⟨none,.store z (.t a) (.t b),none⟩
abbrev F_witanlaw14_JudgeFalse:Nat:=6
abbrev F_witanlaw14_JudgeOthers:Nat:=7
abbrev F_witankeep_Twin:Nat:=12
abbrev F_witankeep_TwinDealers:Nat:=21
abbrev F_judge_Place:Nat:=22
abbrev F_judge_Fits:Nat:=24
abbrev F_judge_Verdict:Nat:=26
abbrev F_witanlaw14_wakes:Nat:=29
abbrev F_witanlaw14_Posted:Nat:=30
abbrev F_witanref21_Secret:Nat:=31
abbrev F_witanref01_Times:Nat:=32
abbrev F_witanref06_Prove:Nat:=33
abbrev F_witanref01_Add:Nat:=34
abbrev F_witanref01_Prime:Nat:=35
abbrev F_witanref06_Holds:Nat:=36
abbrev F_witanref21_Poly:Nat:=43
abbrev F_witanref01_Cmp:Nat:=49
abbrev F_field_Prime:Nat:=50
abbrev F_field_Red:Nat:=51
abbrev F_curve_Times:Nat:=53
abbrev F_witanref21_Post:Nat:=56
abbrev F_curve_Base:Nat:=61
abbrev F_feld_Fits:Nat:=63
abbrev F_witankeep_TwinPoints:Nat:=79
abbrev F_judge_dealer:Nat:=80
abbrev F_judge_posted:Nat:=81
abbrev F_curve_Check:Nat:=82
abbrev F_pair_Open:Nat:=83
abbrev F_limb_Cmp:Nat:=84
abbrev F_witanref01_Check:Nat:=86
abbrev F_witanref06_Int:Nat:=89
abbrev F_dleq_Holds:Nat:=90
abbrev F_witanref01_Base:Nat:=92
abbrev F_witanref04_Scalar:Nat:=93
abbrev F_witanref21_one:Nat:=94
abbrev F_witanref01_down:Nat:=95
abbrev F_witanref01_times:Nat:=96
abbrev F_witanref06_challenge:Nat:=97
abbrev F_witanref06_sub:Nat:=98
abbrev F_witanref06_mul:Nat:=99
abbrev F_bits_Add64:Nat:=100
abbrev F_witanref01_Sub:Nat:=101
abbrev F_witanref01_small:Nat:=102
abbrev F_witanref06_Below:Nat:=103
abbrev F_witanref01_Two:Nat:=104
abbrev F_witanref01_G:Nat:=105
abbrev F_draw_Scalar:Nat:=107
abbrev F_witanref21_be4:Nat:=115
abbrev F_field_less:Nat:=124
abbrev F_limb_Sub:Nat:=125
abbrev F_field_fold:Nat:=126
abbrev F_curve_spread:Nat:=127
abbrev F_curve_jac_times:Nat:=128
abbrev F_curve_jac_point:Nat:=129
abbrev F_witanref06_Commit:Nat:=136
abbrev F_witanref06_Seal:Nat:=137
abbrev F_witanref06_Eval:Nat:=138
abbrev F_field_Add:Nat:=139
abbrev F_witanref01_FAdd:Nat:=140
abbrev F_curve_base:Nat:=141
abbrev F_feld_points:Nat:=142
abbrev F_curve_Add:Nat:=143
abbrev F_feld_At:Nat:=144
abbrev F_witanref01_Of:Nat:=155
abbrev F_curve_Bytes:Nat:=160
abbrev F_limb_Bytes:Nat:=161
abbrev F_curve_mul:Nat:=162
abbrev F_curve_right:Nat:=163
abbrev F_pair_turned:Nat:=164
abbrev F_limb_Of:Nat:=165
abbrev F_witanref01_mul:Nat:=166
abbrev F_witanref01_add:Nat:=167
abbrev F_dleq_times:Nat:=170
abbrev F_curve_Two:Nat:=171
abbrev F_dleq_challenge:Nat:=172
abbrev F_witanref04_Joined:Nat:=173
abbrev F_witanref04_Sum256:Nat:=174
abbrev F_witanref04_join:Nat:=175
abbrev F_witanref01_Wide:Nat:=176
abbrev F_witanref01_Inf:Nat:=177
abbrev F_witanref01_Inv:Nat:=178
abbrev F_witanref01_up:Nat:=179
abbrev F_witanref01_twice:Nat:=180
abbrev F_witanref01_Bit:Nat:=181
abbrev F_witanref01_plus:Nat:=182
abbrev F_witanref01_PointBytes:Nat:=183
abbrev F_witanref01_FSub:Nat:=184
abbrev F_witanref01_FMul:Nat:=185
abbrev F_bits_Sub64:Nat:=186
abbrev F_draw_joined:Nat:=187
abbrev F_sha_Sum:Nat:=188
abbrev F_draw_with:Nat:=189
abbrev F_limb_Mod:Nat:=190
abbrev F_field_Sub:Nat:=193
abbrev F_field_Mul:Nat:=194
abbrev F_limb_Mul:Nat:=199
abbrev F_limb_Add:Nat:=200
abbrev F_limb_Len:Nat:=201
abbrev F_curve_jac_twice:Nat:=202
abbrev F_limb_Bit:Nat:=203
abbrev F_curve_jac_plus:Nat:=204
abbrev F_field_Inv:Nat:=205
abbrev F_witanref01_Bytes:Nat:=206
abbrev F_witanref06_stream:Nat:=207
abbrev F_witanref06_add:Nat:=208
abbrev F_witanref01_ok:Nat:=209
abbrev F_witanref01_Red:Nat:=210
abbrev F_witanref01_fold:Nat:=211
abbrev F_witanref01_sub:Nat:=220
abbrev F_curve_add:Nat:=222
abbrev F_pair_dealer:Nat:=223
abbrev F_draw_Stream:Nat:=224
abbrev F_witanref04_be:Nat:=226
abbrev F_witanref04_k256:Nat:=227
abbrev F_witanref04_padded:Nat:=228
abbrev F_witanref04_rot32:Nat:=229
abbrev F_witanref01_Pow:Nat:=230
abbrev F_witanref01_Mul:Nat:=231
abbrev F_draw_number:Nat:=232
abbrev F_sha_rounds:Nat:=233
abbrev F_sha_padded:Nat:=234
abbrev F_sha_high:Nat:=235
abbrev F_bits_RotateLeft32:Nat:=236
abbrev F_bits_Mul64:Nat:=237
abbrev F_bits_Len64:Nat:=238
abbrev F_curve_sub:Nat:=239
abbrev F_field_Pow:Nat:=240
abbrev F_witanref04_Stream:Nat:=241
abbrev F_sha_Mac:Nat:=244
abbrev F_witanref04_Mac:Nat:=245
theorem mixed:Pg.follows .mixedOrders=true:=by kernel_rfl
noncomputable def A_witanlaw14_JudgeFalse:AFun:=⟨2,92,[.t 4],
 (.seq (.ops [
 oO 4 (.mv (.c (.bool false)))])
 (.seq (.seq (.ops [
 oM 12 0,
 oO 13 (.len (.t 12)),
 oO 14 (.bin .gtr (.t 13) (.c (.int .i64 50)))])
 (.cond (.t 14)
 (.seq (.ops [
 oO 4 (.mv (.c (.bool true)))])
 .ret)
 .skip))
 (.seq (.ops [
 oM 15 0,
 oO 16 (.bsl 1 1 [.int .i64 0] [(0,1,.c (.int .i64 0))]),
 oM 17 1,
 oK 18 F_witanlaw14_Posted [.c (.int .i64 3),.c (.int .i64 1),.t 15,.t 16,.t 17],
 oM 5 18])
 (.seq (.seq (.ops [
 oM 19 5,
 oO 20 (.eqnS false (.t 19))])
 (.cond (.t 20)
 (.seq (.ops [
 oO 4 (.mv (.c (.bool false)))])
 .ret)
 .skip))
 (.seq (.ops [
 oM 21 0,
 oK 22 F_witankeep_Twin [.t 21],
 oO 23 (.bsl 1 1 [.int .u8 0] [(0,1,.c (.int .u8 1))]),
 oO 24 (.app 1 1 (.t 22) (.t 23)),
 oK 25 F_witanref21_Secret [.t 24],
 oO 6 (.alloc 1 4 [.int .u64 0]),
 ⟨none,.stA 1 4 4 (.t 6) (.t 25),none⟩])
 (.seq (.draw [
 oO 26 (.load 4 true (.t 6)),
 oM 27 5,
 oO 28 (.idxA 26 (.t 27) (.c (.int .i64 0))),
 oO 29 (.fldA 1 (.t 28)),
 oO 30 (.load 9 true (.t 29)),
 oK 31 F_witanref01_Times [.t 26,.t 30],
 oO 7 (.alloc 9 1 [.bool false,.int .u64 0,.int .u64 0,.int .u64 0,.int .u64 0,.int .u64 0,.int .u64 0,.int .u64 0,.int .u64 0]),
 oS 9 7 31] ⟨.all,[(6,some 7)],.look 0 (.look 1 (.look 2 (.look 3 (.look 4 (.run 5 true (.pre 6 7 (.fill .done)))))))⟩)
 (.seq (.draw [
 oO 32 (.load 4 true (.t 6)),
 oO 33 (.build [.int .u64 0,.int .u64 0,.int .u64 0,.int .u64 0] [(0,1,.c (.int .u64 5))]),
 oM 34 5,
 oO 35 (.idxA 26 (.t 34) (.c (.int .i64 0))),
 oO 36 (.fldA 1 (.t 35)),
 oO 37 (.load 9 true (.t 36)),
 oK 38 F_witanref06_Prove [.t 32,.t 33,.t 37],
 oO 8 (.alloc 8 1 [.int .u64 0,.int .u64 0,.int .u64 0,.int .u64 0,.int .u64 0,.int .u64 0,.int .u64 0,.int .u64 0]),
 oS 8 8 38] ⟨.all,[(7,some 8)],.look 0 (.look 1 (.look 2 (.look 3 (.look 4 (.look 5 (.run 6 true (.pre 7 8 (.fill .done))))))))⟩)
 (.seq (.draw [
 oO 40 (.fldA 0 (.t 8)),
 oO 41 (.load 4 true (.t 40)),
 oK 42 F_witanref01_Prime [.c (.int .i64 1)],
 oK 43 F_witanref01_Add [.t 41,.t 42],
 oM 39 43,
 oO 44 (.ext (.t 39) 0),
 oO 45 (.ext (.t 39) 1),
 oO 9 (.alloc 1 4 [.int .u64 0]),
 oS 4 9 44,
 oM 10 45] ⟨.all,[(7,some 8)],.look 0 (.look 1 (.run 2 true (.run 3 true (.look 4 (.look 5 (.pre 7 8 (.look 6 (.fill (.look 9 .done)))))))))⟩)
 (.seq (.seq (.ops [
 oM 46 10,
 oO 47 (.bin .eql (.t 46) (.c (.int .u64 0))),
 oM 48 47,
 oG 49 (.mv (.t 5)) 48 true,
 oG 50 (.load 9 true (.t 7)) 48 true,
 oG 51 (.load 4 true (.t 9)) 48 true,
 oG 52 (.fldA 4 (.t 8)) 48 true,
 oG 53 (.load 4 true (.t 52)) 48 true,
 oG 54 (.build [.int .u64 0,.int .u64 0,.int .u64 0,.int .u64 0,.int .u64 0,.int .u64 0,.int .u64 0,.int .u64 0] [(0,4,.t 51),(4,4,.t 53)]) 48 true,
 oG 55 (.call (.c (.fn F_judge_Verdict [])) [.t 49,.c (.int .i64 1),.c (.int .i64 2),.t 50,.t 54]) 48 true,
 oG 56 (.bin .neq (.t 55) (.c (.int .i64 12))) 48 true,
 oO 57 (.pick (.t 48) (.t 56) (.c (.bool false)))])
 (.cond (.t 57)
 (.seq (.ops [
 oO 4 (.mv (.c (.bool false)))])
 .ret)
 .skip))
 (.seq (.seq (.ops [
 oM 58 5,
 oO 59 (.load 9 true (.t 7)),
 oO 60 (.load 8 true (.t 8)),
 oK 61 F_judge_Verdict [.t 58,.c (.int .i64 1),.c (.int .i64 1),.t 59,.t 60],
 oO 62 (.bin .neq (.t 61) (.c (.int .i64 1))),
 oM 63 62,
 oG 64 (.mv (.t 5)) 63 false,
 oG 65 (.load 9 true (.t 7)) 63 false,
 oG 66 (.load 8 true (.t 8)) 63 false,
 oG 67 (.call (.c (.fn F_judge_Verdict [])) [.t 64,.c (.int .i64 1),.c (.int .i64 4),.t 65,.t 66]) 63 false,
 oG 68 (.bin .neq (.t 67) (.c (.int .i64 5))) 63 false,
 oO 69 (.pick (.t 63) (.c (.bool true)) (.t 68)),
 oM 70 69,
 oG 71 (.mv (.t 5)) 70 false,
 oG 72 (.build [.int .u64 0,.int .u64 0,.int .u64 0,.int .u64 0] [(0,1,.c (.int .u64 5))]) 70 false,
 oG 73 (.build [.int .u64 0,.int .u64 0,.int .u64 0,.int .u64 0] [(0,1,.c (.int .u64 1))]) 70 false,
 oG 74 (.build [.bool false,.int .u64 0,.int .u64 0,.int .u64 0,.int .u64 0,.int .u64 0,.int .u64 0,.int .u64 0,.int .u64 0] [(1,4,.t 72),(5,4,.t 73)]) 70 false,
 oG 75 (.load 8 true (.t 8)) 70 false,
 oG 76 (.call (.c (.fn F_judge_Verdict [])) [.t 71,.c (.int .i64 1),.c (.int .i64 2),.t 74,.t 75]) 70 false,
 oG 77 (.bin .neq (.t 76) (.c (.int .i64 3))) 70 false,
 oO 78 (.pick (.t 70) (.c (.bool true)) (.t 77))])
 (.cond (.t 78)
 (.seq (.ops [
 oO 4 (.mv (.c (.bool false)))])
 .ret)
 .skip))
 (.seq (.ops [
 oM 79 5,
 oK 80 F_witankeep_TwinDealers [.t 79],
 oM 11 80])
 (.seq (.ops [
 oM 81 11,
 oO 82 (.idxA 26 (.t 81) (.c (.int .i64 0))),
 oO 83 (.fldA 12 (.t 82)),
 ⟨none,.store 1 (.t 83) (.c (.bool false)),none⟩])
 (.seq (.ops [
 oM 84 11,
 oO 85 (.load 9 true (.t 7)),
 oO 86 (.load 8 true (.t 8)),
 oK 87 F_judge_Verdict [.t 84,.c (.int .i64 1),.c (.int .i64 2),.t 85,.t 86],
 oO 88 (.bin .eql (.t 87) (.c (.int .i64 5))),
 oM 89 88,
 oG 90 (.call (.c (.fn F_witanlaw14_wakes [])) []) 89 true,
 oO 91 (.pick (.t 89) (.t 90) (.c (.bool false))),
 oM 4 91])
 .ret)))))))))))))⟩
theorem K_witanlaw14_JudgeFalse:chkFun DK Pg Tryz.f6 A_witanlaw14_JudgeFalse=true:=by kernel_rfl
theorem B_witanlaw14_JudgeFalse {args:List AV} {m:Mem} {K:AV->Mem->Prop} (h:vcFun DK Pg A_witanlaw14_JudgeFalse args m K):ACall Pg F_witanlaw14_JudgeFalse args m K:=call_body mixed Tryz.func6 (by kernel_rfl) K_witanlaw14_JudgeFalse h
noncomputable def A_witanlaw14_JudgeOthers:AFun:=⟨2,114,[.t 4],
 (.seq (.ops [
 oO 4 (.mv (.c (.bool false)))])
 (.seq (.seq (.ops [
 oM 14 0,
 oO 15 (.len (.t 14)),
 oO 16 (.bin .gtr (.t 15) (.c (.int .i64 50)))])
 (.cond (.t 16)
 (.seq (.ops [
 oO 4 (.mv (.c (.bool true)))])
 .ret)
 .skip))
 (.seq (.ops [
 oM 17 0,
 oO 18 (.bsl 1 1 [.int .i64 0] [(0,1,.c (.int .i64 0))]),
 oM 19 1,
 oK 20 F_witanlaw14_Posted [.c (.int .i64 3),.c (.int .i64 1),.t 17,.t 18,.t 19],
 oM 5 20])
 (.seq (.seq (.ops [
 oM 21 5,
 oO 22 (.eqnS false (.t 21))])
 (.cond (.t 22)
 (.seq (.ops [
 oO 4 (.mv (.c (.bool false)))])
 .ret)
 .skip))
 (.seq (.ops [
 oM 23 1,
 oO 24 (.conv .u64 (.t 23)),
 oO 25 (.bin .rem (.t 24) (.c (.int .u64 2))),
 oO 26 (.conv .i64 (.t 25)),
 oO 27 (.bin .add (.c (.int .i64 2)) (.t 26)),
 oM 6 27])
 (.seq (.ops [
 oM 28 6,
 oO 29 (.bin .sub (.c (.int .i64 5)) (.t 28)),
 oM 7 29])
 (.seq (.ops [
 oM 30 0,
 oK 31 F_witankeep_Twin [.t 30],
 oM 32 7,
 oO 33 (.bin .sub (.t 32) (.c (.int .i64 1))),
 oO 34 (.conv .u8 (.t 33)),
 oO 35 (.bsl 1 1 [.int .u8 0] [(0,1,.t 34)]),
 oO 36 (.app 1 1 (.t 31) (.t 35)),
 oK 37 F_witanref21_Secret [.t 36],
 oO 8 (.alloc 1 4 [.int .u64 0]),
 ⟨none,.stA 1 4 4 (.t 8) (.t 37),none⟩])
 (.seq (.draw [
 oO 38 (.load 4 true (.t 8)),
 oM 39 5,
 oO 40 (.idxA 26 (.t 39) (.c (.int .i64 0))),
 oO 41 (.fldA 1 (.t 40)),
 oO 42 (.load 9 true (.t 41)),
 oK 43 F_witanref01_Times [.t 38,.t 42],
 oO 9 (.alloc 9 1 [.bool false,.int .u64 0,.int .u64 0,.int .u64 0,.int .u64 0,.int .u64 0,.int .u64 0,.int .u64 0,.int .u64 0]),
 oS 9 9 43] ⟨.all,[(6,some 7)],.look 0 (.look 1 (.look 2 (.look 3 (.look 4 (.run 5 true (.pre 6 7 (.fill .done)))))))⟩)
 (.seq (.draw [
 oO 44 (.load 4 true (.t 8)),
 oO 45 (.build [.int .u64 0,.int .u64 0,.int .u64 0,.int .u64 0] [(0,1,.c (.int .u64 9))]),
 oM 46 5,
 oO 47 (.idxA 26 (.t 46) (.c (.int .i64 0))),
 oO 48 (.fldA 1 (.t 47)),
 oO 49 (.load 9 true (.t 48)),
 oK 50 F_witanref06_Prove [.t 44,.t 45,.t 49],
 oO 10 (.alloc 8 1 [.int .u64 0,.int .u64 0,.int .u64 0,.int .u64 0,.int .u64 0,.int .u64 0,.int .u64 0,.int .u64 0]),
 oS 8 10 50] ⟨.all,[(7,some 8)],.look 0 (.look 1 (.look 2 (.look 3 (.look 4 (.look 5 (.run 6 true (.pre 7 8 (.fill .done))))))))⟩)
 (.seq (.seq (.ops [
 oM 51 5,
 oM 52 7,
 oO 53 (.load 9 true (.t 9)),
 oO 54 (.load 8 true (.t 10)),
 oK 55 F_judge_Verdict [.t 51,.c (.int .i64 1),.t 52,.t 53,.t 54],
 oO 56 (.bin .neq (.t 55) (.c (.int .i64 13)))])
 (.cond (.t 56)
 (.seq (.ops [
 oO 4 (.mv (.c (.bool false)))])
 .ret)
 .skip))
 (.seq (.ops [
 oM 57 0,
 oK 58 F_witankeep_Twin [.t 57],
 oM 59 6,
 oO 60 (.bin .sub (.t 59) (.c (.int .i64 1))),
 oO 61 (.conv .u8 (.t 60)),
 oO 62 (.bsl 1 1 [.int .u8 0] [(0,1,.t 61)]),
 oO 63 (.app 1 1 (.t 58) (.t 62)),
 oK 64 F_witanref21_Secret [.t 63],
 oO 11 (.alloc 1 4 [.int .u64 0]),
 ⟨none,.stA 1 4 4 (.t 11) (.t 64),none⟩])
 (.seq (.seq (.ops [
 oO 65 (.load 4 true (.t 8)),
 oO 66 (.load 4 true (.t 11)),
 oO 67 (.eqa [.i,.i,.i,.i] false (.t 65) (.t 66))])
 (.cond (.t 67)
 (.seq (.ops [
 oK 68 F_witanlaw14_wakes [],
 oM 4 68])
 .ret)
 .skip))
 (.seq (.draw [
 oO 69 (.load 4 true (.t 11)),
 oM 70 5,
 oO 71 (.idxA 26 (.t 70) (.c (.int .i64 0))),
 oO 72 (.fldA 1 (.t 71)),
 oO 73 (.load 9 true (.t 72)),
 oK 74 F_witanref01_Times [.t 69,.t 73],
 oO 12 (.alloc 9 1 [.bool false,.int .u64 0,.int .u64 0,.int .u64 0,.int .u64 0,.int .u64 0,.int .u64 0,.int .u64 0,.int .u64 0]),
 oS 9 12 74] ⟨.all,[(6,some 7)],.look 0 (.look 1 (.look 2 (.look 3 (.look 4 (.run 5 true (.pre 6 7 (.fill .done)))))))⟩)
 (.seq (.draw [
 oO 75 (.load 4 true (.t 11)),
 oO 76 (.build [.int .u64 0,.int .u64 0,.int .u64 0,.int .u64 0] [(0,1,.c (.int .u64 9))]),
 oM 77 5,
 oO 78 (.idxA 26 (.t 77) (.c (.int .i64 0))),
 oO 79 (.fldA 1 (.t 78)),
 oO 80 (.load 9 true (.t 79)),
 oK 81 F_witanref06_Prove [.t 75,.t 76,.t 80],
 oO 13 (.alloc 8 1 [.int .u64 0,.int .u64 0,.int .u64 0,.int .u64 0,.int .u64 0,.int .u64 0,.int .u64 0,.int .u64 0]),
 oS 8 13 81] ⟨.all,[(7,some 8)],.look 0 (.look 1 (.look 2 (.look 3 (.look 4 (.look 5 (.run 6 true (.pre 7 8 (.fill .done))))))))⟩)
 (.seq (.draw [
 oM 82 5,
 oM 83 6,
 oO 84 (.load 9 true (.t 12)),
 oO 85 (.load 8 true (.t 13)),
 oK 86 F_judge_Verdict [.t 82,.c (.int .i64 1),.t 83,.t 84,.t 85],
 oO 87 (.bin .eql (.t 86) (.c (.int .i64 0))),
 oM 88 87,
 oG 89 (.mv (.t 5)) 88 true,
 oG 90 (.mv (.t 6)) 88 true,
 oG 91 (.load 9 true (.t 9)) 88 true,
 oG 92 (.load 8 true (.t 10)) 88 true,
 oG 93 (.call (.c (.fn F_judge_Verdict [])) [.t 89,.c (.int .i64 1),.t 90,.t 91,.t 92]) 88 true,
 oG 94 (.bin .neq (.t 93) (.c (.int .i64 0))) 88 true,
 oG 95 (.mv (.t 94)) 88 true,
 oG 96 (.mv (.t 5)) 95 false,
 oG 97 (.mv (.t 6)) 95 false,
 oG 98 (.bin .sub (.t 97) (.c (.int .i64 1))) 95 false,
 oG 99 (.idxA 26 (.t 96) (.t 98)) 95 false,
 oG 100 (.fldA 1 (.t 99)) 95 false,
 oG 101 (.load 9 true (.t 100)) 95 false,
 oG 102 (.mv (.t 5)) 95 false,
 oG 103 (.idxA 26 (.t 102) (.c (.int .i64 0))) 95 false,
 oG 104 (.fldA 1 (.t 103)) 95 false,
 oG 105 (.load 9 true (.t 104)) 95 false,
 oG 106 (.load 9 true (.t 9)) 95 false,
 oG 107 (.load 8 true (.t 10)) 95 false,
 oG 108 (.call (.c (.fn F_witanref06_Holds [])) [.t 101,.t 105,.t 106,.t 107]) 95 false,
 oG 109 (.pick (.t 95) (.c (.bool true)) (.t 108)) 88 true,
 oO 110 (.pick (.t 88) (.t 109) (.c (.bool false))),
 oM 111 110,
 oG 112 (.call (.c (.fn F_witanlaw14_wakes [])) []) 111 true,
 oO 113 (.pick (.t 111) (.t 112) (.c (.bool false))),
 oM 4 113] ⟨.all,[],.look 0 (.look 1 (.look 2 (.look 3 (.run 4 true (.look 5 (.look 6 (.look 7 (.look 8 (.look 9 (.look 10 (.run 11 true (.look 12 (.look 13 (.look 14 (.look 15 (.look 16 (.look 17 (.look 18 (.look 19 (.look 20 (.look 21 (.look 22 (.look 23 (.look 24 (.look 25 (.run 26 true (.look 27 (.look 28 (.look 29 (.run 30 true (.look 31 (.look 32 .done))))))))))))))))))))))))))))))))⟩)
 .ret)))))))))))))))⟩
theorem K_witanlaw14_JudgeOthers:chkFun DK Pg Tryz.f7 A_witanlaw14_JudgeOthers=true:=by kernel_rfl
theorem B_witanlaw14_JudgeOthers {args:List AV} {m:Mem} {K:AV->Mem->Prop} (h:vcFun DK Pg A_witanlaw14_JudgeOthers args m K):ACall Pg F_witanlaw14_JudgeOthers args m K:=call_body mixed Tryz.func7 (by kernel_rfl) K_witanlaw14_JudgeOthers h
noncomputable def A_witankeep_Twin:AFun:=⟨1,7,[.t 2],
 (.seq (.ops [
 oO 2 (.mv (.c (.nils)))])
 (.seq (.ops [
 oO 3 (.mv (.c (.nils)))])
 (.seq (.ops [
 oM 4 3,
 oM 5 0,
 oO 6 (.app 1 1 (.t 4) (.t 5)),
 oM 2 6])
 .ret)))⟩
theorem K_witankeep_Twin:chkFun DK Pg Tryz.f12 A_witankeep_Twin=true:=by kernel_rfl
theorem B_witankeep_Twin {args:List AV} {m:Mem} {K:AV->Mem->Prop} (h:vcFun DK Pg A_witankeep_Twin args m K):ACall Pg F_witankeep_Twin args m K:=call_body mixed Tryz.func12 (by kernel_rfl) K_witankeep_Twin h
noncomputable def A_witankeep_TwinDealers:AFun:=⟨1,31,[.t 2],
 (.seq (.ops [
 oO 2 (.mv (.c (.nils)))])
 (.seq (.ops [
 oO 3 (.mv (.c (.nils)))])
 (.seq (.seq (.ops [
 oO 4 (.mv (.c (.int .i64 0)))])
 (.block 0
 (.loop
 (.seq (.seq (.ops [
 oM 7 4,
 oM 8 0,
 oO 9 (.len (.t 8)),
 oO 10 (.bin .lss (.t 7) (.t 9))])
 (.cond (.t 10)
 .skip
 (.exit 0)))
 (.seq (.block 1
 (.seq (.ops [
 oM 13 0,
 oM 14 4,
 oO 15 (.idxA 26 (.t 13) (.t 14)),
 oO 16 (.load 26 true (.t 15)),
 ⟨some 5,.alloc 26 1 [.int .i64 0,.bool false,.int .u64 0,.int .u64 0,.int .u64 0,.int .u64 0,.int .u64 0,.int .u64 0,.int .u64 0,.int .u64 0,.str ⟨#[]⟩,.int .i64 0,.bool false,.nils,.nils,.bool false,.bool false,.bool false,.int .u64 0,.int .u64 0,.int .u64 0,.int .u64 0,.int .u64 0,.int .u64 0,.int .u64 0,.int .u64 0],none⟩,
 oS 26 5 16])
 (.seq (.ops [
 oO 6 (.mv (.c (.nils)))])
 (.seq (.draw [
 oM 17 6,
 oO 18 (.fldA 13 (.t 5)),
 oO 19 (.load 1 false (.t 18)),
 oO 20 (.app 32 32 (.t 17) (.t 19)),
 oO 21 (.fldA 14 (.t 5)),
 oO 22 (.load 1 false (.t 21)),
 oK 23 F_witankeep_TwinPoints [.t 22],
 oO 24 (.fldA 13 (.t 5)),
 oS 1 24 20,
 oO 25 (.fldA 14 (.t 5)),
 oS 1 25 23] ⟨.all,[],.look 0 (.look 1 (.look 4 (.two false 2 (.two false 3 (.run 5 false (.look 7 (.run 6 false (.run 8 false (.look 9 (.run 10 false .done)))))) 5 (.run 3 false (.look 7 (.run 6 false (.run 8 false (.look 9 (.run 10 false .done))))))) 5 (.run 2 false (.run 3 false (.look 7 (.run 6 false (.run 8 false (.look 9 (.run 10 false .done))))))))))⟩)
 (.ops [
 oM 26 3,
 oO 27 (.load 26 true (.t 5)),
 ⟨some 28,.bsl 26 1 [.int .i64 0,.bool false,.int .u64 0,.int .u64 0,.int .u64 0,.int .u64 0,.int .u64 0,.int .u64 0,.int .u64 0,.int .u64 0,.str ⟨#[]⟩,.int .i64 0,.bool false,.nils,.nils,.bool false,.bool false,.bool false,.int .u64 0,.int .u64 0,.int .u64 0,.int .u64 0,.int .u64 0,.int .u64 0,.int .u64 0,.int .u64 0] [(0,26,.t 27)],none⟩,
 oO 29 (.app 26 240 (.t 26) (.t 28)),
 oM 3 29])))))
 (.ops [
 oM 11 4,
 oO 12 (.bin .add (.t 11) (.c (.int .i64 1))),
 oM 4 12]))))))
 (.seq (.ops [
 oM 30 3,
 oM 2 30])
 .ret))))⟩
theorem K_witankeep_TwinDealers:chkFun DK Pg Tryz.f21 A_witankeep_TwinDealers=true:=by kernel_rfl
theorem B_witankeep_TwinDealers {args:List AV} {m:Mem} {K:AV->Mem->Prop} (h:vcFun DK Pg A_witankeep_TwinDealers args m K):ACall Pg F_witankeep_TwinDealers args m K:=call_body mixed Tryz.func21 (by kernel_rfl) K_witankeep_TwinDealers h
noncomputable def A_judge_Place:AFun:=⟨2,28,[.t 4,.t 5],
 (.seq (.ops [
 oO 4 (.mv (.c (.int .i64 0))),
 oO 5 (.mv (.c (.int .i64 0)))])
 (.seq (.block 0
 (.seq (.ops [
 oM 7 0,
 oK 8 F_judge_dealer [.t 7],
 oO 9 (.un .not (.t 8)),
 oM 10 9,
 oG 11 (.mv (.t 1)) 10 false,
 oG 12 (.call (.c (.fn F_judge_dealer [])) [.t 11]) 10 false,
 oG 13 (.un .not (.t 12)) 10 false,
 oO 14 (.pick (.t 10) (.c (.bool true)) (.t 13)),
 oM 15 14,
 oG 16 (.mv (.t 0)) 15 false,
 oG 17 (.mv (.t 1)) 15 false,
 oG 18 (.bin .eql (.t 16) (.t 17)) 15 false,
 oO 19 (.pick (.t 15) (.c (.bool true)) (.t 18)),
 oM 6 19])
 (.cond (.t 6)
 (.seq (.ops [
 oO 4 (.mv (.c (.int .i64 0))),
 oO 5 (.mv (.c (.int .i64 1)))])
 .ret)
 (.seq (.ops [
 oM 21 1,
 oM 22 0,
 oO 23 (.bin .lss (.t 21) (.t 22)),
 oM 20 23])
 (.cond (.t 20)
 (.seq (.ops [
 oM 24 1,
 oO 25 (.bin .sub (.t 24) (.c (.int .i64 1))),
 oM 4 25,
 oO 5 (.mv (.c (.int .i64 0)))])
 .ret)
 .skip)))))
 (.seq (.ops [
 oM 26 1,
 oO 27 (.bin .sub (.t 26) (.c (.int .i64 2))),
 oM 4 27,
 oO 5 (.mv (.c (.int .i64 0)))])
 .ret)))⟩
theorem K_judge_Place:chkFun DK Pg Tryz.f22 A_judge_Place=true:=by kernel_rfl
theorem B_judge_Place {args:List AV} {m:Mem} {K:AV->Mem->Prop} (h:vcFun DK Pg A_judge_Place args m K):ACall Pg F_judge_Place args m K:=call_body mixed Tryz.func22 (by kernel_rfl) K_judge_Place h
noncomputable def A_judge_Fits:AFun:=⟨4,84,[.t 8,.t 9],
 (.seq (.ops [
 oO 7 (.box 9 1 (.t 3)),
 oO 8 (.mv (.c (.bool false))),
 oO 9 (.mv (.c (.int .i64 0)))])
 (.seq (.ops [
 oM 14 1,
 oM 15 2,
 oK 16 F_judge_Place [.t 14,.t 15],
 oM 13 16,
 oO 17 (.ext (.t 13) 0),
 oO 18 (.ext (.t 13) 1),
 oM 10 17,
 oM 11 18])
 (.seq (.block 0
 (.seq (.ops [
 oM 20 11,
 oO 21 (.bin .neq (.t 20) (.c (.int .i64 0))),
 oM 19 21])
 (.cond (.t 19)
 (.seq (.ops [
 oM 22 11,
 oO 8 (.mv (.c (.bool false))),
 oM 9 22])
 .ret)
 (.seq (.ops [
 oM 24 1,
 oM 25 0,
 oO 26 (.len (.t 25)),
 oO 27 (.bin .gtr (.t 24) (.t 26)),
 oM 28 27,
 oG 29 (.mv (.t 2)) 28 false,
 oG 30 (.mv (.t 0)) 28 false,
 oG 31 (.len (.t 30)) 28 false,
 oG 32 (.bin .gtr (.t 29) (.t 31)) 28 false,
 oO 33 (.pick (.t 28) (.c (.bool true)) (.t 32)),
 oM 34 33,
 oG 35 (.mv (.t 0)) 34 false,
 oG 36 (.mv (.t 1)) 34 false,
 oG 37 (.bin .sub (.t 36) (.c (.int .i64 1))) 34 false,
 oG 38 (.idxA 26 (.t 35) (.t 37)) 34 false,
 oG 39 (.load 26 true (.t 38)) 34 false,
 oG 40 (.mv (.t 10)) 34 false,
 oG 41 (.call (.c (.fn F_judge_posted [])) [.t 39,.t 40]) 34 false,
 oG 42 (.un .not (.t 41)) 34 false,
 oO 43 (.pick (.t 34) (.c (.bool true)) (.t 42)),
 oM 23 43])
 (.cond (.t 23)
 (.seq (.ops [
 oO 8 (.mv (.c (.bool false))),
 oO 9 (.mv (.c (.int .i64 5)))])
 .ret)
 (.seq (.ops [
 oO 45 (.load 9 true (.t 7)),
 oK 46 F_curve_Check [.t 45],
 oO 47 (.bin .neq (.t 46) (.c (.int .i64 0))),
 oM 44 47])
 (.cond (.t 44)
 (.seq (.ops [
 oO 8 (.mv (.c (.bool false))),
 oO 9 (.mv (.c (.int .i64 3)))])
 .ret)
 .skip)))))))
 (.seq (.draw [
 oO 49 (.load 9 true (.t 7)),
 oM 50 1,
 oM 51 2,
 oM 52 0,
 oM 53 1,
 oO 54 (.bin .sub (.t 53) (.c (.int .i64 1))),
 oO 55 (.idxA 26 (.t 52) (.t 54)),
 oO 56 (.fldA 13 (.t 55)),
 oO 57 (.load 1 false (.t 56)),
 oM 58 10,
 oO 59 (.idxA 32 (.t 57) (.t 58)),
 oO 60 (.load 32 true (.t 59)),
 oK 61 F_pair_Open [.t 49,.t 50,.t 51,.t 60],
 oM 48 61,
 oO 62 (.ext (.t 48) 0),
 oO 63 (.ext (.t 48) 1),
 oO 12 (.alloc 1 4 [.int .u64 0]),
 oS 4 12 62,
 oM 11 63] ⟨.all,[(16,some 17)],.look 0 (.look 1 (.look 2 (.look 3 (.look 4 (.look 5 (.look 6 (.look 7 (.look 8 (.look 9 (.look 10 (.look 11 (.run 12 true (.look 13 (.look 14 (.pre 16 17 (.look 15 (.fill (.look 18 .done))))))))))))))))))⟩)
 (.seq (.seq (.ops [
 oM 64 11,
 oO 65 (.bin .neq (.t 64) (.c (.int .i64 0)))])
 (.cond (.t 65)
 (.seq (.ops [
 oM 66 11,
 oO 8 (.mv (.c (.bool false))),
 oM 9 66])
 .ret)
 .skip))
 (.seq (.seq (.draw [
 oO 67 (.load 4 true (.t 12)),
 oK 68 F_field_Prime [.c (.int .i64 1)],
 oK 69 F_limb_Cmp [.t 67,.t 68],
 oO 70 (.bin .geq (.t 69) (.c (.int .i64 0)))] ⟨.all,[],.look 0 (.run 1 true (.run 2 true (.look 3 .done)))⟩)
 (.cond (.t 70)
 (.seq (.ops [
 oO 8 (.mv (.c (.bool false))),
 oO 9 (.mv (.c (.int .i64 0)))])
 .ret)
 .skip))
 (.seq (.draw [
 oM 71 0,
 oM 72 1,
 oO 73 (.bin .sub (.t 72) (.c (.int .i64 1))),
 oO 74 (.idxA 26 (.t 71) (.t 73)),
 oO 75 (.fldA 14 (.t 74)),
 oO 76 (.load 1 false (.t 75)),
 oM 77 2,
 oO 78 (.conv .u64 (.t 77)),
 oO 79 (.build [.int .u64 0,.int .u64 0,.int .u64 0,.int .u64 0] [(0,1,.t 78)]),
 oO 80 (.load 4 true (.t 12)),
 oK 81 F_feld_Fits [.t 76,.t 79,.t 80],
 oO 82 (.ext (.t 81) 0),
 oO 83 (.ext (.t 81) 1),
 oM 8 82,
 oM 9 83] ⟨.all,[],.look 0 (.look 1 (.look 2 (.look 3 (.look 4 (.look 5 (.look 6 (.look 7 (.look 8 (.look 9 (.run 10 false (.look 11 (.look 12 (.look 13 (.look 14 .done))))))))))))))⟩)
 .ret)))))))⟩
theorem K_judge_Fits:chkFun DK Pg Tryz.f24 A_judge_Fits=true:=by kernel_rfl
theorem B_judge_Fits {args:List AV} {m:Mem} {K:AV->Mem->Prop} (h:vcFun DK Pg A_judge_Fits args m K):ACall Pg F_judge_Fits args m K:=call_body mixed Tryz.func24 (by kernel_rfl) K_judge_Fits h
noncomputable def A_judge_Verdict:AFun:=⟨5,52,[.t 10],
 (.seq (.ops [
 oO 8 (.box 9 1 (.t 3)),
 oO 9 (.box 8 1 (.t 4)),
 oO 10 (.mv (.c (.int .i64 0)))])
 (.seq (.ops [
 oM 15 0,
 oM 16 1,
 oM 17 2,
 oO 18 (.load 9 true (.t 8)),
 oK 19 F_judge_Fits [.t 15,.t 16,.t 17,.t 18],
 oM 14 19,
 oO 20 (.ext (.t 14) 0),
 oO 21 (.ext (.t 14) 1),
 oM 11 20,
 oM 12 21])
 (.seq (.seq (.ops [
 oM 22 12,
 oO 23 (.bin .neq (.t 22) (.c (.int .i64 0)))])
 (.cond (.t 23)
 (.seq (.ops [
 oM 24 12,
 oM 10 24])
 .ret)
 .skip))
 (.seq (.draw [
 oM 26 0,
 oM 27 2,
 oO 28 (.bin .sub (.t 27) (.c (.int .i64 1))),
 oO 29 (.idxA 26 (.t 26) (.t 28)),
 oO 30 (.fldA 1 (.t 29)),
 oO 31 (.load 9 true (.t 30)),
 oM 32 0,
 oM 33 1,
 oO 34 (.bin .sub (.t 33) (.c (.int .i64 1))),
 oO 35 (.idxA 26 (.t 32) (.t 34)),
 oO 36 (.fldA 1 (.t 35)),
 oO 37 (.load 9 true (.t 36)),
 oO 38 (.load 9 true (.t 8)),
 oO 39 (.load 8 true (.t 9)),
 oK 40 F_dleq_Holds [.t 31,.t 37,.t 38,.t 39],
 oM 25 40,
 oO 41 (.ext (.t 25) 0),
 oO 42 (.ext (.t 25) 1),
 oM 13 41,
 oM 12 42] ⟨.all,[],.look 0 (.look 1 (.look 2 (.look 3 (.look 4 (.look 5 (.look 6 (.look 7 (.look 8 (.look 9 (.look 10 (.look 11 (.look 12 (.look 13 (.run 14 false (.look 15 (.look 16 (.look 17 (.look 18 (.look 19 .done)))))))))))))))))))⟩)
 (.seq (.block 0
 (.seq (.ops [
 oM 44 12,
 oO 45 (.bin .neq (.t 44) (.c (.int .i64 0))),
 oM 43 45])
 (.cond (.t 43)
 (.seq (.ops [
 oM 46 12,
 oM 10 46])
 .ret)
 (.seq (.ops [
 oM 48 13,
 oO 49 (.un .not (.t 48)),
 oM 47 49])
 (.cond (.t 47)
 (.seq (.ops [
 oO 10 (.mv (.c (.int .i64 12)))])
 .ret)
 (.seq (.ops [
 oM 51 11,
 oM 50 51])
 (.cond (.t 50)
 (.seq (.ops [
 oO 10 (.mv (.c (.int .i64 13)))])
 .ret)
 .skip)))))))
 (.seq (.ops [
 oO 10 (.mv (.c (.int .i64 0)))])
 .ret))))))⟩
theorem K_judge_Verdict:chkFun DK Pg Tryz.f26 A_judge_Verdict=true:=by kernel_rfl
theorem B_judge_Verdict {args:List AV} {m:Mem} {K:AV->Mem->Prop} (h:vcFun DK Pg A_judge_Verdict args m K):ACall Pg F_judge_Verdict args m K:=call_body mixed Tryz.func26 (by kernel_rfl) K_judge_Verdict h
noncomputable def A_witanlaw14_wakes:AFun:=⟨0,37,[.t 0],
 (.seq (.ops [
 oO 0 (.mv (.c (.bool false)))])
 (.seq (.ops [
 oK 8 F_judge_Place [.c (.int .i64 3),.c (.int .i64 1)],
 oM 7 8,
 oO 9 (.ext (.t 7) 0),
 oO 10 (.ext (.t 7) 1),
 oM 1 9,
 oM 2 10])
 (.seq (.ops [
 oK 12 F_judge_Place [.c (.int .i64 1),.c (.int .i64 3)],
 oM 11 12,
 oO 13 (.ext (.t 11) 0),
 oO 14 (.ext (.t 11) 1),
 oM 3 13,
 oM 4 14])
 (.seq (.ops [
 oK 16 F_judge_Place [.c (.int .i64 2),.c (.int .i64 2)],
 oM 15 16,
 oO 17 (.ext (.t 15) 0),
 oO 18 (.ext (.t 15) 1),
 oM 5 17,
 oM 6 18])
 (.seq (.ops [
 oM 19 2,
 oO 20 (.bin .eql (.t 19) (.c (.int .i64 0))),
 oM 21 20,
 oG 22 (.mv (.t 4)) 21 true,
 oG 23 (.bin .eql (.t 22) (.c (.int .i64 0))) 21 true,
 oO 24 (.pick (.t 21) (.t 23) (.c (.bool false))),
 oM 25 24,
 oG 26 (.mv (.t 6)) 25 true,
 oG 27 (.bin .eql (.t 26) (.c (.int .i64 1))) 25 true,
 oO 28 (.pick (.t 25) (.t 27) (.c (.bool false))),
 oM 29 28,
 oG 30 (.mv (.t 1)) 29 true,
 oG 31 (.bin .eql (.t 30) (.c (.int .i64 0))) 29 true,
 oO 32 (.pick (.t 29) (.t 31) (.c (.bool false))),
 oM 33 32,
 oG 34 (.mv (.t 3)) 33 true,
 oG 35 (.bin .eql (.t 34) (.c (.int .i64 1))) 33 true,
 oO 36 (.pick (.t 33) (.t 35) (.c (.bool false))),
 oM 0 36])
 .ret)))))⟩
theorem K_witanlaw14_wakes:chkFun DK Pg Tryz.f29 A_witanlaw14_wakes=true:=by kernel_rfl
theorem B_witanlaw14_wakes {args:List AV} {m:Mem} {K:AV->Mem->Prop} (h:vcFun DK Pg A_witanlaw14_wakes args m K):ACall Pg F_witanlaw14_wakes args m K:=call_body mixed Tryz.func29 (by kernel_rfl) K_witanlaw14_wakes h
noncomputable def A_witanlaw14_Posted:AFun:=⟨5,111,[.t 10],
 (.seq (.ops [
 oO 10 (.mv (.c (.nils)))])
 (.seq (.ops [
 oO 11 (.mv (.c (.nils)))])
 (.seq (.seq (.ops [
 oO 12 (.mv (.c (.int .i64 0)))])
 (.block 0
 (.loop
 (.seq (.seq (.ops [
 oM 19 12,
 oM 20 0,
 oO 21 (.bin .lss (.t 19) (.t 20))])
 (.cond (.t 21)
 .skip
 (.exit 0)))
 (.seq (.block 1
 (.seq (.ops [
 oM 24 2,
 oK 25 F_witankeep_Twin [.t 24],
 oM 26 12,
 oO 27 (.conv .u8 (.t 26)),
 oO 28 (.bsl 1 1 [.int .u8 0] [(0,1,.t 27)]),
 oO 29 (.app 1 1 (.t 25) (.t 28)),
 oM 13 29])
 (.ops [
 oM 30 11,
 oM 31 12,
 oM 32 13,
 oK 33 F_witanref21_Secret [.t 32],
 oK 34 F_witanref01_Base [.t 33],
 ⟨some 35,.build [.int .i64 0,.bool false,.int .u64 0,.int .u64 0,.int .u64 0,.int .u64 0,.int .u64 0,.int .u64 0,.int .u64 0,.int .u64 0,.str ⟨#[]⟩,.int .i64 0,.bool false,.nils,.nils,.bool false,.bool false,.bool false,.int .u64 0,.int .u64 0,.int .u64 0,.int .u64 0,.int .u64 0,.int .u64 0,.int .u64 0,.int .u64 0] [(0,1,.t 31),(1,9,.t 34)],none⟩,
 ⟨some 36,.bsl 26 1 [.int .i64 0,.bool false,.int .u64 0,.int .u64 0,.int .u64 0,.int .u64 0,.int .u64 0,.int .u64 0,.int .u64 0,.int .u64 0,.str ⟨#[]⟩,.int .i64 0,.bool false,.nils,.nils,.bool false,.bool false,.bool false,.int .u64 0,.int .u64 0,.int .u64 0,.int .u64 0,.int .u64 0,.int .u64 0,.int .u64 0,.int .u64 0] [(0,26,.t 35)],none⟩,
 oO 37 (.app 26 240 (.t 30) (.t 36)),
 oM 11 37])))
 (.ops [
 oM 22 12,
 oO 23 (.bin .add (.t 22) (.c (.int .i64 1))),
 oM 12 23]))))))
 (.seq (.seq (.ops [
 oO 14 (.mv (.c (.int .i64 0)))])
 (.block 2
 (.loop
 (.seq (.seq (.ops [
 oM 38 14,
 oM 39 0,
 oO 40 (.bin .lss (.t 38) (.t 39))])
 (.cond (.t 40)
 .skip
 (.exit 2)))
 (.seq (.block 3
 (.seq (.ops [
 oM 43 2,
 oK 44 F_witankeep_Twin [.t 43],
 oM 45 14,
 oO 46 (.conv .u8 (.t 45)),
 oO 47 (.bsl 1 1 [.int .u8 0] [(0,1,.t 46)]),
 oO 48 (.app 1 1 (.t 44) (.t 47)),
 oM 15 48])
 (.seq (.ops [
 oM 50 15,
 oM 51 1,
 oM 52 11,
 oM 53 14,
 oO 54 (.bin .add (.t 53) (.c (.int .i64 1))),
 oK 55 F_witanref21_Post [.t 50,.t 51,.t 52,.t 54],
 oM 49 55,
 oO 56 (.ext (.t 49) 0),
 oO 57 (.ext (.t 49) 1),
 ⟨some 16,.alloc 22 1 [.int .i64 0,.bool false,.int .u64 0,.int .u64 0,.int .u64 0,.int .u64 0,.int .u64 0,.int .u64 0,.int .u64 0,.int .u64 0,.str ⟨#[]⟩,.nils,.nils,.int .i64 0,.int .u64 0,.int .u64 0,.int .u64 0,.int .u64 0,.int .u64 0,.int .u64 0,.int .u64 0,.int .u64 0],none⟩,
 oS 22 16 56,
 oM 17 57])
 (.seq (.seq (.ops [
 oM 58 17,
 oO 59 (.bin .neq (.t 58) (.c (.int .i64 0)))])
 (.cond (.t 59)
 (.seq (.ops [
 oO 10 (.mv (.c (.nils)))])
 .ret)
 .skip))
 (.seq (.draw [
 oM 60 11,
 oM 61 14,
 oM 62 11,
 oM 63 14,
 oM 64 11,
 oM 65 14,
 oO 66 (.fldA 11 (.t 16)),
 oO 67 (.load 1 false (.t 66)),
 oO 68 (.fldA 12 (.t 16)),
 oO 69 (.load 1 false (.t 68)),
 oO 70 (.idxA 26 (.t 60) (.t 61)),
 oO 71 (.fldA 12 (.t 70)),
 ⟨none,.store 1 (.t 71) (.c (.bool true)),none⟩,
 oO 72 (.idxA 26 (.t 62) (.t 63)),
 oO 73 (.fldA 13 (.t 72)),
 oS 1 73 67,
 oO 74 (.idxA 26 (.t 64) (.t 65)),
 oO 75 (.fldA 14 (.t 74)),
 oS 1 75 69] ⟨(.but [11]),[],.look 0 (.look 1 (.look 2 (.look 3 (.look 4 (.look 5 (.look 6 (.look 7 (.look 8 (.look 9 (.look 10 (.look 11 (.run 12 true (.look 13 (.look 14 (.run 15 true (.look 16 (.look 17 (.run 18 false .done))))))))))))))))))⟩)
 (.seq (.ops [
 oO 18 (.mv (.c (.int .i64 0)))])
 (.block 4
 (.loop
 (.seq (.seq (.ops [
 oM 76 18,
 oM 77 3,
 oO 78 (.len (.t 77)),
 oO 79 (.bin .lss (.t 76) (.t 78))])
 (.cond (.t 79)
 .skip
 (.exit 4)))
 (.seq (.block 5
 (.seq (.ops [
 oM 82 3,
 oM 83 18,
 oO 84 (.idxA 1 (.t 82) (.t 83)),
 oO 85 (.load 1 false (.t 84)),
 oM 86 14,
 oO 87 (.bin .eql (.t 85) (.t 86)),
 oM 88 87,
 oG 89 (.mv (.t 0)) 88 true,
 oG 90 (.bin .gtr (.t 89) (.c (.int .i64 1))) 88 true,
 oO 91 (.pick (.t 88) (.t 90) (.c (.bool false)))])
 (.cond (.t 91)
 (.draw [
 oM 92 11,
 oM 93 14,
 oO 94 (.idxA 26 (.t 92) (.t 93)),
 oO 95 (.fldA 13 (.t 94)),
 oO 96 (.load 1 false (.t 95)),
 oM 97 4,
 oO 98 (.conv .u64 (.t 97)),
 oM 99 0,
 oO 100 (.bin .sub (.t 99) (.c (.int .i64 1))),
 oO 101 (.conv .u64 (.t 100)),
 oO 102 (.bin .rem (.t 98) (.t 101)),
 oO 103 (.conv .i64 (.t 102)),
 oO 104 (.idxA 32 (.t 96) (.t 103)),
 oO 105 (.idxP 32 1 (.t 104) (.c (.int .i64 31))),
 oO 106 (.load 1 false (.t 105)),
 oO 107 (.bin .xor (.t 106) (.c (.int .u8 1))),
 oO 108 (.idxA 32 (.t 96) (.t 103)),
 oO 109 (.idxP 32 1 (.t 108) (.c (.int .i64 31))),
 oS 1 109 107] ⟨.all,[],.look 0 (.look 1 (.look 2 (.look 3 (.look 4 (.look 5 (.look 6 (.look 7 (.look 8 (.look 9 (.look 10 (.look 11 (.look 12 (.look 13 (.look 14 (.look 15 (.look 16 (.look 17 (.run 18 false .done))))))))))))))))))⟩)
 .skip)))
 (.ops [
 oM 80 18,
 oO 81 (.bin .add (.t 80) (.c (.int .i64 1))),
 oM 18 81])))))))))))
 (.ops [
 oM 41 14,
 oO 42 (.bin .add (.t 41) (.c (.int .i64 1))),
 oM 14 42]))))))
 (.seq (.ops [
 oM 110 11,
 oM 10 110])
 .ret)))))⟩
theorem K_witanlaw14_Posted:chkFun DK Pg Tryz.f30 A_witanlaw14_Posted=true:=by kernel_rfl
theorem B_witanlaw14_Posted {args:List AV} {m:Mem} {K:AV->Mem->Prop} (h:vcFun DK Pg A_witanlaw14_Posted args m K):ACall Pg F_witanlaw14_Posted args m K:=call_body mixed Tryz.func30 (by kernel_rfl) K_witanlaw14_Posted h
noncomputable def A_witanref21_Secret:AFun:=⟨1,13,[.cell 2 4 true],
 (.seq (.ops [
 oO 2 (.alloc 1 4 [.int .u64 0])])
 (.seq (.ops [
 oM 6 0,
 oO 7 (.bsl 1 1 [.nils] [(0,1,.t 6)]),
 ⟨some 8,.call (.c (.fn F_witanref04_Scalar [])) [.c (.str ⟨#[115,101,99,114,101,116]⟩),.t 7],none⟩,
 oM 5 8,
 oO 9 (.ext (.t 5) 0),
 oO 10 (.ext (.t 5) 1),
 oO 3 (.alloc 1 4 [.int .u64 0]),
 ⟨none,.stA 1 4 4 (.t 3) (.t 9),none⟩,
 oM 4 10])
 (.seq (.ops [
 oO 11 (.load 4 true (.t 3)),
 oK 12 F_witanref21_one [.t 11],
 ⟨none,.stA 1 4 4 (.t 2) (.t 12),none⟩])
 .ret)))⟩
theorem K_witanref21_Secret:chkFun DK Pg Tryz.f31 A_witanref21_Secret=true:=by kernel_rfl
theorem B_witanref21_Secret {args:List AV} {m:Mem} {K:AV->Mem->Prop} (h:vcFun DK Pg A_witanref21_Secret args m K):ACall Pg F_witanref21_Secret args m K:=call_body mixed Tryz.func31 (by kernel_rfl) K_witanref21_Secret h
noncomputable def A_witanref01_Times:AFun:=⟨2,9,[.cell 4 9 true],
 (.seq (.ops [
 oO 2 (.box 1 4 (.t 0)),
 oO 3 (.box 9 1 (.t 1)),
 oO 4 (.alloc 9 1 [.bool false,.int .u64 0,.int .u64 0,.int .u64 0,.int .u64 0,.int .u64 0,.int .u64 0,.int .u64 0,.int .u64 0])])
 (.seq (.ops [
 oO 5 (.load 4 true (.t 2)),
 oO 6 (.load 9 true (.t 3)),
 oK 7 F_witanref01_times [.t 5,.t 6],
 oK 8 F_witanref01_down [.t 7],
 ⟨none,.stA 9 1 9 (.t 4) (.t 8),none⟩])
 .ret))⟩
theorem K_witanref01_Times:chkFun DK Pg Tryz.f32 A_witanref01_Times=true:=by kernel_rfl
theorem B_witanref01_Times {args:List AV} {m:Mem} {K:AV->Mem->Prop} (h:vcFun DK Pg A_witanref01_Times args m K):ACall Pg F_witanref01_Times args m K:=call_body mixed Tryz.func32 (by kernel_rfl) K_witanref01_Times h
noncomputable def A_witanref06_Prove:AFun:=⟨3,28,[.cell 6 8 true],
 (.seq (.ops [
 oO 3 (.box 1 4 (.t 0)),
 oO 4 (.box 1 4 (.t 1)),
 oO 5 (.box 9 1 (.t 2)),
 oO 6 (.alloc 8 1 [.int .u64 0,.int .u64 0,.int .u64 0,.int .u64 0,.int .u64 0,.int .u64 0,.int .u64 0,.int .u64 0])])
 (.seq (.draw [
 oO 8 (.load 4 true (.t 3)),
 oK 9 F_witanref01_Base [.t 8],
 oO 10 (.load 9 true (.t 5)),
 oO 11 (.load 4 true (.t 3)),
 oO 12 (.load 9 true (.t 5)),
 oK 13 F_witanref01_Times [.t 11,.t 12],
 oO 14 (.load 4 true (.t 4)),
 oK 15 F_witanref01_Base [.t 14],
 oO 16 (.load 4 true (.t 4)),
 oO 17 (.load 9 true (.t 5)),
 oK 18 F_witanref01_Times [.t 16,.t 17],
 oO 19 (.bsl 9 5 [.bool false,.int .u64 0,.int .u64 0,.int .u64 0,.int .u64 0,.int .u64 0,.int .u64 0,.int .u64 0,.int .u64 0] [(0,9,.t 9),(9,9,.t 10),(18,9,.t 13),(27,9,.t 15),(36,9,.t 18)]),
 oK 20 F_witanref06_challenge [.t 19],
 oO 7 (.alloc 1 4 [.int .u64 0]),
 oS 4 7 20] ⟨.all,[(13,some 14)],.look 0 (.look 2 (.look 3 (.look 4 (.look 6 (.look 8 (.look 9 (.run 1 true (.run 5 true (.run 7 true (.run 10 true (.run 11 true (.run 12 true (.pre 13 14 (.fill .done))))))))))))))⟩)
 (.seq (.draw [
 oO 21 (.load 4 true (.t 7)),
 oO 22 (.load 4 true (.t 4)),
 oO 23 (.load 4 true (.t 7)),
 oO 24 (.load 4 true (.t 3)),
 oK 25 F_witanref06_mul [.t 23,.t 24],
 oK 26 F_witanref06_sub [.t 22,.t 25],
 oO 27 (.build [.int .u64 0,.int .u64 0,.int .u64 0,.int .u64 0,.int .u64 0,.int .u64 0,.int .u64 0,.int .u64 0] [(0,4,.t 21),(4,4,.t 26)]),
 ⟨none,.stA 8 1 8 (.t 6) (.t 27),none⟩] ⟨.all,[],.look 0 (.look 1 (.look 2 (.look 3 (.run 4 true (.run 5 true (.look 6 (.run 7 false .done)))))))⟩)
 .ret)))⟩
theorem K_witanref06_Prove:chkFun DK Pg Tryz.f33 A_witanref06_Prove=true:=by kernel_rfl
theorem B_witanref06_Prove {args:List AV} {m:Mem} {K:AV->Mem->Prop} (h:vcFun DK Pg A_witanref06_Prove args m K):ACall Pg F_witanref06_Prove args m K:=call_body mixed Tryz.func33 (by kernel_rfl) K_witanref06_Prove h
noncomputable def A_witanref01_Add:AFun:=⟨2,28,[.cell 4 4 true,.t 5],
 (.seq (.ops [
 oO 2 (.box 1 4 (.t 0)),
 oO 3 (.box 1 4 (.t 1)),
 oO 4 (.alloc 1 4 [.int .u64 0]),
 oO 5 (.mv (.c (.int .u64 0)))])
 (.seq (.ops [
 oO 6 (.mv (.c (.int .u64 0)))])
 (.seq (.ops [
 oO 7 (.alloc 1 4 [.int .u64 0])])
 (.seq (.seq (.ops [
 oO 8 (.mv (.c (.int .i64 0)))])
 (.block 0
 (.loop
 (.seq (.seq (.ops [
 oM 9 8,
 oO 10 (.bin .lss (.t 9) (.c (.int .i64 4)))])
 (.cond (.t 10)
 .skip
 (.exit 0)))
 (.seq (.block 1
 (.draw [
 oM 14 8,
 oM 15 8,
 oO 16 (.idxP 4 1 (.t 2) (.t 15)),
 oO 17 (.load 1 false (.t 16)),
 oM 18 8,
 oO 19 (.idxP 4 1 (.t 3) (.t 18)),
 oO 20 (.load 1 false (.t 19)),
 oM 21 6,
 oO 22 (.x64 false F_bits_Add64 (.t 17) (.t 20) (.t 21)),
 oM 13 22,
 oO 23 (.ext (.t 13) 0),
 oO 24 (.ext (.t 13) 1),
 oO 25 (.idxP 4 1 (.t 7) (.t 14)),
 ⟨none,.stA 1 4 1 (.t 25) (.t 23),none⟩,
 oM 6 24] ⟨.all,[],.look 0 (.look 1 (.look 2 (.look 3 (.look 4 (.look 5 (.look 6 (.look 7 (.run 8 true (.look 9 (.look 10 (.look 11 (.look 12 (.run 13 false (.look 14 .done))))))))))))))⟩))
 (.ops [
 oM 11 8,
 oO 12 (.binF .add (.t 11) (.c (.int .i64 1))),
 oM 8 12]))))))
 (.seq (.ops [
 oO 26 (.load 4 true (.t 7)),
 oM 27 6,
 ⟨none,.stA 1 4 4 (.t 4) (.t 26),none⟩,
 oM 5 27])
 .ret)))))⟩
theorem K_witanref01_Add:chkFun DK Pg Tryz.f34 A_witanref01_Add=true:=by kernel_rfl
theorem B_witanref01_Add {args:List AV} {m:Mem} {K:AV->Mem->Prop} (h:vcFun DK Pg A_witanref01_Add args m K):ACall Pg F_witanref01_Add args m K:=call_body mixed Tryz.func34 (by kernel_rfl) K_witanref01_Add h
noncomputable def A_witanref01_Prime:AFun:=⟨1,20,[.cell 2 4 true],
 (.seq (.ops [
 oO 2 (.alloc 1 4 [.int .u64 0])])
 (.seq (.ops [
 oO 6 (.build [.int .u64 0,.int .u64 0,.int .u64 0,.int .u64 0] []),
 oM 7 0,
 oK 8 F_witanref01_small [.t 7],
 oK 9 F_witanref01_Sub [.t 6,.t 8],
 oM 5 9,
 oO 10 (.ext (.t 5) 0),
 oO 11 (.ext (.t 5) 1),
 oO 3 (.alloc 1 4 [.int .u64 0]),
 ⟨none,.stA 1 4 4 (.t 3) (.t 10),none⟩,
 oM 4 11])
 (.seq (.seq (.ops [
 oM 12 0,
 oO 13 (.bin .neq (.t 12) (.c (.int .i64 0))),
 oM 14 13,
 oG 15 (.mv (.t 0)) 14 true,
 oG 16 (.bin .neq (.t 15) (.c (.int .i64 1))) 14 true,
 oO 17 (.pick (.t 14) (.t 16) (.c (.bool false)))])
 (.cond (.t 17)
 (.seq (.ops [
 oO 18 (.build [.int .u64 0,.int .u64 0,.int .u64 0,.int .u64 0] []),
 ⟨none,.stA 1 4 4 (.t 2) (.t 18),none⟩])
 .ret)
 .skip))
 (.seq (.ops [
 oO 19 (.load 4 true (.t 3)),
 ⟨none,.stA 1 4 4 (.t 2) (.t 19),none⟩])
 .ret))))⟩
theorem K_witanref01_Prime:chkFun DK Pg Tryz.f35 A_witanref01_Prime=true:=by kernel_rfl
theorem B_witanref01_Prime {args:List AV} {m:Mem} {K:AV->Mem->Prop} (h:vcFun DK Pg A_witanref01_Prime args m K):ACall Pg F_witanref01_Prime args m K:=call_body mixed Tryz.func35 (by kernel_rfl) K_witanref01_Prime h
noncomputable def A_witanref06_Holds:AFun:=⟨4,35,[.t 8],
 (.seq (.ops [
 oO 4 (.box 9 1 (.t 0)),
 oO 5 (.box 9 1 (.t 1)),
 oO 6 (.box 9 1 (.t 2)),
 oO 7 (.box 8 1 (.t 3)),
 oO 8 (.mv (.c (.bool false)))])
 (.seq (.draw [
 oO 9 (.load 8 true (.t 7)),
 oK 10 F_witanref06_Below [.t 9],
 oM 11 10,
 oG 12 (.load 9 true (.t 4)) 11 true,
 oG 13 (.load 9 true (.t 5)) 11 true,
 oG 14 (.load 9 true (.t 6)) 11 true,
 oG 15 (.fldA 4 (.t 7)) 11 true,
 oG 16 (.load 4 true (.t 15)) 11 true,
 oG 17 (.call (.c (.fn F_witanref01_G [])) []) 11 true,
 oG 18 (.fldA 0 (.t 7)) 11 true,
 oG 19 (.load 4 true (.t 18)) 11 true,
 oG 20 (.load 9 true (.t 4)) 11 true,
 oG 21 (.call (.c (.fn F_witanref01_Two [])) [.t 16,.t 17,.t 19,.t 20]) 11 true,
 oG 22 (.fldA 4 (.t 7)) 11 true,
 oG 23 (.load 4 true (.t 22)) 11 true,
 oG 24 (.load 9 true (.t 5)) 11 true,
 oG 25 (.fldA 0 (.t 7)) 11 true,
 oG 26 (.load 4 true (.t 25)) 11 true,
 oG 27 (.load 9 true (.t 6)) 11 true,
 oG 28 (.call (.c (.fn F_witanref01_Two [])) [.t 23,.t 24,.t 26,.t 27]) 11 true,
 oG 29 (.bsl 9 5 [.bool false,.int .u64 0,.int .u64 0,.int .u64 0,.int .u64 0,.int .u64 0,.int .u64 0,.int .u64 0,.int .u64 0] [(0,9,.t 12),(9,9,.t 13),(18,9,.t 14),(27,9,.t 21),(36,9,.t 28)]) 11 true,
 oG 30 (.call (.c (.fn F_witanref06_challenge [])) [.t 29]) 11 true,
 oG 31 (.fldA 0 (.t 7)) 11 true,
 oG 32 (.load 4 true (.t 31)) 11 true,
 oG 33 (.eqa [.i,.i,.i,.i] false (.t 30) (.t 32)) 11 true,
 oO 34 (.pick (.t 11) (.t 33) (.c (.bool false))),
 oM 8 34] ⟨.all,[],.look 0 (.run 1 true (.look 2 (.look 3 (.look 4 (.look 5 (.look 6 (.look 7 (.look 9 (.look 10 (.look 11 (.look 13 (.look 14 (.look 15 (.look 16 (.look 17 (.look 18 (.look 22 (.look 23 (.run 8 true (.run 12 true (.run 19 true (.run 20 true (.run 21 true (.look 24 (.look 25 (.look 26 .done))))))))))))))))))))))))))⟩)
 .ret))⟩
theorem K_witanref06_Holds:chkFun DK Pg Tryz.f36 A_witanref06_Holds=true:=by kernel_rfl
theorem B_witanref06_Holds {args:List AV} {m:Mem} {K:AV->Mem->Prop} (h:vcFun DK Pg A_witanref06_Holds args m K):ACall Pg F_witanref06_Holds args m K:=call_body mixed Tryz.func36 (by kernel_rfl) K_witanref06_Holds h
noncomputable def A_witanref21_Poly:AFun:=⟨2,31,[.t 4],
 (.seq (.ops [
 oO 4 (.mv (.c (.nils)))])
 (.seq (.ops [
 oO 5 (.mv (.c (.nils)))])
 (.seq (.seq (.ops [
 oO 6 (.mv (.c (.int .i64 0)))])
 (.block 0
 (.loop
 (.seq (.seq (.ops [
 oM 9 6,
 oM 10 1,
 oO 11 (.bin .leq (.t 9) (.t 10))])
 (.cond (.t 11)
 .skip
 (.exit 0)))
 (.seq (.block 1
 (.seq (.ops [
 oM 15 0,
 oM 16 6,
 oK 17 F_witanref21_be4 [.t 16],
 oO 18 (.bsl 1 2 [.nils] [(0,1,.t 15),(1,1,.t 17)]),
 ⟨some 19,.call (.c (.fn F_witanref04_Scalar [])) [.c (.str ⟨#[112,111,108,121]⟩),.t 18],none⟩,
 oM 14 19,
 oO 20 (.ext (.t 14) 0),
 oO 21 (.ext (.t 14) 1),
 oO 7 (.alloc 1 4 [.int .u64 0]),
 ⟨none,.stA 1 4 4 (.t 7) (.t 20),none⟩,
 oM 8 21])
 (.seq (.seq (.ops [
 oM 22 6,
 oO 23 (.bin .eql (.t 22) (.c (.int .i64 0)))])
 (.cond (.t 23)
 (.ops [
 oO 24 (.load 4 true (.t 7)),
 oK 25 F_witanref21_one [.t 24],
 ⟨none,.stA 1 4 4 (.t 7) (.t 25),none⟩])
 .skip))
 (.ops [
 oM 26 5,
 oO 27 (.load 4 true (.t 7)),
 oO 28 (.bsl 4 1 [.int .u64 0,.int .u64 0,.int .u64 0,.int .u64 0] [(0,4,.t 27)]),
 oO 29 (.app 4 32 (.t 26) (.t 28)),
 oM 5 29]))))
 (.ops [
 oM 12 6,
 oO 13 (.bin .add (.t 12) (.c (.int .i64 1))),
 oM 6 13]))))))
 (.seq (.ops [
 oM 30 5,
 oM 4 30])
 .ret))))⟩
theorem K_witanref21_Poly:chkFun DK Pg Tryz.f43 A_witanref21_Poly=true:=by kernel_rfl
theorem B_witanref21_Poly {args:List AV} {m:Mem} {K:AV->Mem->Prop} (h:vcFun DK Pg A_witanref21_Poly args m K):ACall Pg F_witanref21_Poly args m K:=call_body mixed Tryz.func43 (by kernel_rfl) K_witanref21_Poly h
noncomputable def A_witanref01_Cmp:AFun:=⟨2,18,[.t 4],
 (.seq (.ops [
 oO 2 (.box 1 4 (.t 0)),
 oO 3 (.box 1 4 (.t 1)),
 oO 4 (.mv (.c (.int .i64 0)))])
 (.seq (.seq (.ops [
 oO 7 (.load 4 true (.t 2)),
 oO 8 (.load 4 true (.t 3)),
 oO 9 (.eqa [.i,.i,.i,.i] false (.t 7) (.t 8))])
 (.cond (.t 9)
 (.seq (.ops [
 oO 4 (.mv (.c (.int .i64 0)))])
 .ret)
 .skip))
 (.seq (.seq (.ops [
 oO 11 (.load 4 true (.t 2)),
 oO 12 (.load 4 true (.t 3)),
 oK 13 F_witanref01_Sub [.t 11,.t 12],
 oM 10 13,
 oO 14 (.ext (.t 10) 0),
 oO 15 (.ext (.t 10) 1),
 oO 5 (.alloc 1 4 [.int .u64 0]),
 ⟨none,.stA 1 4 4 (.t 5) (.t 14),none⟩,
 oM 6 15])
 (.seq (.ops [
 oM 16 6,
 oO 17 (.bin .eql (.t 16) (.c (.int .u64 1)))])
 (.cond (.t 17)
 (.seq (.ops [
 oO 4 (.mv (.c (.int .i64 (-1))))])
 .ret)
 .skip)))
 (.seq (.ops [
 oO 4 (.mv (.c (.int .i64 1)))])
 .ret))))⟩
theorem K_witanref01_Cmp:chkFun DK Pg Tryz.f49 A_witanref01_Cmp=true:=by kernel_rfl
theorem B_witanref01_Cmp {args:List AV} {m:Mem} {K:AV->Mem->Prop} (h:vcFun DK Pg A_witanref01_Cmp args m K):ACall Pg F_witanref01_Cmp args m K:=call_body mixed Tryz.func49 (by kernel_rfl) K_witanref01_Cmp h
noncomputable def A_field_Prime:AFun:=⟨1,22,[.cell 2 4 true],
 (.seq (.ops [
 oO 2 (.alloc 1 4 [.int .u64 0])])
 (.seq (.ops [
 oM 8 0,
 oK 9 F_field_less [.t 8],
 oM 7 9,
 oO 10 (.ext (.t 7) 0),
 oO 11 (.ext (.t 7) 1),
 oO 3 (.alloc 1 4 [.int .u64 0]),
 ⟨none,.stA 1 4 4 (.t 3) (.t 10),none⟩,
 oM 4 11])
 (.seq (.seq (.ops [
 oM 12 4,
 oO 13 (.un .not (.t 12))])
 (.cond (.t 13)
 (.seq (.ops [
 oO 14 (.build [.int .u64 0,.int .u64 0,.int .u64 0,.int .u64 0] []),
 ⟨none,.stA 1 4 4 (.t 2) (.t 14),none⟩])
 .ret)
 .skip))
 (.seq (.ops [
 oO 16 (.build [.int .u64 0,.int .u64 0,.int .u64 0,.int .u64 0] []),
 oO 17 (.load 4 true (.t 3)),
 oK 18 F_limb_Sub [.t 16,.t 17],
 oM 15 18,
 oO 19 (.ext (.t 15) 0),
 oO 20 (.ext (.t 15) 1),
 oO 5 (.alloc 1 4 [.int .u64 0]),
 ⟨none,.stA 1 4 4 (.t 5) (.t 19),none⟩,
 oM 6 20])
 (.seq (.ops [
 oO 21 (.load 4 true (.t 5)),
 ⟨none,.stA 1 4 4 (.t 2) (.t 21),none⟩])
 .ret)))))⟩
theorem K_field_Prime:chkFun DK Pg Tryz.f50 A_field_Prime=true:=by kernel_rfl
theorem B_field_Prime {args:List AV} {m:Mem} {K:AV->Mem->Prop} (h:vcFun DK Pg A_field_Prime args m K):ACall Pg F_field_Prime args m K:=call_body mixed Tryz.func50 (by kernel_rfl) K_field_Prime h
noncomputable def A_field_Red:AFun:=⟨2,19,[.cell 4 4 true],
 (.seq (.ops [
 oO 3 (.box 1 4 (.t 1)),
 oO 4 (.alloc 1 4 [.int .u64 0])])
 (.seq (.ops [
 oM 8 0,
 oK 9 F_field_less [.t 8],
 oM 7 9,
 oO 10 (.ext (.t 7) 0),
 oO 11 (.ext (.t 7) 1),
 oO 5 (.alloc 1 4 [.int .u64 0]),
 ⟨none,.stA 1 4 4 (.t 5) (.t 10),none⟩,
 oM 6 11])
 (.seq (.seq (.ops [
 oM 12 6,
 oO 13 (.un .not (.t 12))])
 (.cond (.t 13)
 (.seq (.ops [
 oO 14 (.build [.int .u64 0,.int .u64 0,.int .u64 0,.int .u64 0] []),
 ⟨none,.stA 1 4 4 (.t 4) (.t 14),none⟩])
 .ret)
 .skip))
 (.seq (.ops [
 oO 15 (.load 4 true (.t 3)),
 oO 16 (.build [.int .u64 0,.int .u64 0,.int .u64 0,.int .u64 0] []),
 oO 17 (.load 4 true (.t 5)),
 oK 18 F_field_fold [.t 15,.t 16,.t 17],
 ⟨none,.stA 1 4 4 (.t 4) (.t 18),none⟩])
 .ret))))⟩
theorem K_field_Red:chkFun DK Pg Tryz.f51 A_field_Red=true:=by kernel_rfl
theorem B_field_Red {args:List AV} {m:Mem} {K:AV->Mem->Prop} (h:vcFun DK Pg A_field_Red args m K):ACall Pg F_field_Red args m K:=call_body mixed Tryz.func51 (by kernel_rfl) K_field_Red h
noncomputable def A_curve_Times:AFun:=⟨2,18,[.cell 4 9 true,.t 5],
 (.seq (.ops [
 oO 2 (.box 1 4 (.t 0)),
 oO 3 (.box 9 1 (.t 1)),
 oO 4 (.alloc 9 1 [.bool false,.int .u64 0,.int .u64 0,.int .u64 0,.int .u64 0,.int .u64 0,.int .u64 0,.int .u64 0,.int .u64 0]),
 oO 5 (.mv (.c (.int .i64 0)))])
 (.seq (.ops [
 oO 7 (.load 9 true (.t 3)),
 oK 8 F_curve_Check [.t 7],
 oM 6 8])
 (.seq (.seq (.ops [
 oM 9 6,
 oO 10 (.bin .neq (.t 9) (.c (.int .i64 0)))])
 (.cond (.t 10)
 (.seq (.ops [
 oO 11 (.build [.bool false,.int .u64 0,.int .u64 0,.int .u64 0,.int .u64 0,.int .u64 0,.int .u64 0,.int .u64 0,.int .u64 0] []),
 oM 12 6,
 ⟨none,.stA 9 1 9 (.t 4) (.t 11),none⟩,
 oM 5 12])
 .ret)
 .skip))
 (.seq (.draw [
 oO 13 (.load 9 true (.t 3)),
 oK 14 F_curve_spread [.t 13],
 oO 15 (.load 4 true (.t 2)),
 oK 16 F_curve_jac_times [.t 14,.t 15],
 oK 17 F_curve_jac_point [.t 16],
 ⟨none,.stA 9 1 9 (.t 4) (.t 17),none⟩,
 oO 5 (.mv (.c (.int .i64 0)))] ⟨.all,[],.look 0 (.look 2 (.run 1 true (.run 3 false (.run 4 false (.run 5 false (.look 6 .done))))))⟩)
 .ret))))⟩
theorem K_curve_Times:chkFun DK Pg Tryz.f53 A_curve_Times=true:=by kernel_rfl
theorem B_curve_Times {args:List AV} {m:Mem} {K:AV->Mem->Prop} (h:vcFun DK Pg A_curve_Times args m K):ACall Pg F_curve_Times args m K:=call_body mixed Tryz.func53 (by kernel_rfl) K_curve_Times h
noncomputable def A_witanref21_Post:AFun:=⟨4,87,[.cell 8 22 true,.t 9],
 (.seq (.ops [
 ⟨some 8,.alloc 22 1 [.int .i64 0,.bool false,.int .u64 0,.int .u64 0,.int .u64 0,.int .u64 0,.int .u64 0,.int .u64 0,.int .u64 0,.int .u64 0,.str ⟨#[]⟩,.nils,.nils,.int .i64 0,.int .u64 0,.int .u64 0,.int .u64 0,.int .u64 0,.int .u64 0,.int .u64 0,.int .u64 0,.int .u64 0],none⟩,
 oO 9 (.mv (.c (.int .i64 0)))])
 (.seq (.seq (.ops [
 oM 14 1,
 oO 15 (.bin .lss (.t 14) (.c (.int .i64 0))),
 oM 16 15,
 oG 17 (.mv (.t 1)) 16 false,
 oG 18 (.bin .geq (.t 17) (.c (.int .i64 64))) 16 false,
 oO 19 (.pick (.t 16) (.c (.bool true)) (.t 18)),
 oM 20 19,
 oG 21 (.mv (.t 3)) 20 false,
 oG 22 (.bin .lss (.t 21) (.c (.int .i64 1))) 20 false,
 oO 23 (.pick (.t 20) (.c (.bool true)) (.t 22)),
 oM 24 23,
 oG 25 (.mv (.t 3)) 24 false,
 oG 26 (.mv (.t 2)) 24 false,
 oG 27 (.len (.t 26)) 24 false,
 oG 28 (.bin .gtr (.t 25) (.t 27)) 24 false,
 oO 29 (.pick (.t 24) (.c (.bool true)) (.t 28)),
 oM 30 29,
 oG 31 (.mv (.t 2)) 30 false,
 oG 32 (.len (.t 31)) 30 false,
 oG 33 (.bin .gtr (.t 32) (.c (.int .i64 8))) 30 false,
 oO 34 (.pick (.t 30) (.c (.bool true)) (.t 33))])
 (.cond (.t 34)
 (.seq (.ops [
 ⟨some 35,.build [.int .i64 0,.bool false,.int .u64 0,.int .u64 0,.int .u64 0,.int .u64 0,.int .u64 0,.int .u64 0,.int .u64 0,.int .u64 0,.str ⟨#[]⟩,.nils,.nils,.int .i64 0,.int .u64 0,.int .u64 0,.int .u64 0,.int .u64 0,.int .u64 0,.int .u64 0,.int .u64 0,.int .u64 0] [],none⟩,
 oS 22 8 35,
 oO 9 (.mv (.c (.int .i64 1)))])
 .ret)
 .skip))
 (.seq (.seq (.ops [
 oO 10 (.mv (.c (.int .i64 0)))])
 (.block 0
 (.loop
 (.seq (.seq (.ops [
 oM 36 10,
 oM 37 2,
 oO 38 (.len (.t 37)),
 oO 39 (.bin .lss (.t 36) (.t 38))])
 (.cond (.t 39)
 .skip
 (.exit 0)))
 (.seq (.block 1
 (.seq (.ops [
 oM 42 2,
 oM 43 10,
 oO 44 (.idxA 26 (.t 42) (.t 43)),
 oO 45 (.fldA 1 (.t 44)),
 oO 46 (.load 9 true (.t 45)),
 oK 47 F_witanref01_Check [.t 46],
 oO 48 (.un .not (.t 47))])
 (.cond (.t 48)
 (.seq (.ops [
 ⟨some 49,.build [.int .i64 0,.bool false,.int .u64 0,.int .u64 0,.int .u64 0,.int .u64 0,.int .u64 0,.int .u64 0,.int .u64 0,.int .u64 0,.str ⟨#[]⟩,.nils,.nils,.int .i64 0,.int .u64 0,.int .u64 0,.int .u64 0,.int .u64 0,.int .u64 0,.int .u64 0,.int .u64 0,.int .u64 0] [],none⟩,
 oS 22 8 49,
 oO 9 (.mv (.c (.int .i64 3)))])
 .ret)
 .skip)))
 (.ops [
 oM 40 10,
 oO 41 (.bin .add (.t 40) (.c (.int .i64 1))),
 oM 10 41]))))))
 (.seq (.ops [
 oM 50 0,
 oM 51 1,
 oK 52 F_witanref21_Poly [.t 50,.t 51],
 oM 11 52])
 (.seq (.ops [
 oM 53 11,
 oK 54 F_witanref06_Commit [.t 53],
 ⟨some 55,.build [.int .i64 0,.bool false,.int .u64 0,.int .u64 0,.int .u64 0,.int .u64 0,.int .u64 0,.int .u64 0,.int .u64 0,.int .u64 0,.str ⟨#[]⟩,.nils,.nils,.int .i64 0,.int .u64 0,.int .u64 0,.int .u64 0,.int .u64 0,.int .u64 0,.int .u64 0,.int .u64 0,.int .u64 0] [(0,1,.c (.int .i64 2)),(12,1,.t 54)],none⟩,
 ⟨some 12,.alloc 22 1 [.int .i64 0,.bool false,.int .u64 0,.int .u64 0,.int .u64 0,.int .u64 0,.int .u64 0,.int .u64 0,.int .u64 0,.int .u64 0,.str ⟨#[]⟩,.nils,.nils,.int .i64 0,.int .u64 0,.int .u64 0,.int .u64 0,.int .u64 0,.int .u64 0,.int .u64 0,.int .u64 0,.int .u64 0],none⟩,
 oS 22 12 55])
 (.seq (.seq (.ops [
 oO 13 (.mv (.c (.int .i64 1)))])
 (.block 2
 (.loop
 (.seq (.seq (.ops [
 oM 56 13,
 oM 57 2,
 oO 58 (.len (.t 57)),
 oO 59 (.bin .leq (.t 56) (.t 58))])
 (.cond (.t 59)
 .skip
 (.exit 2)))
 (.seq (.block 3
 (.seq (.ops [
 oM 62 13,
 oM 63 3,
 oO 64 (.bin .neq (.t 62) (.t 63))])
 (.cond (.t 64)
 (.draw [
 oO 65 (.fldA 11 (.t 12)),
 oO 66 (.load 1 false (.t 65)),
 oM 67 0,
 oK 68 F_witanref21_Secret [.t 67],
 oM 69 2,
 oM 70 13,
 oO 71 (.bin .sub (.t 70) (.c (.int .i64 1))),
 oO 72 (.idxA 26 (.t 69) (.t 71)),
 oO 73 (.fldA 1 (.t 72)),
 oO 74 (.load 9 true (.t 73)),
 oK 75 F_witanref01_Times [.t 68,.t 74],
 oM 76 3,
 oM 77 13,
 oM 78 11,
 oM 79 13,
 oK 80 F_witanref06_Int [.t 79],
 oK 81 F_witanref06_Eval [.t 78,.t 80],
 oK 82 F_witanref06_Seal [.t 75,.t 76,.t 77,.t 81],
 oO 83 (.bsl 32 1 (List.replicate 32 (.int .u8 0)) [(0,32,.t 82)]),
 oO 84 (.app 32 32 (.t 66) (.t 83)),
 oO 85 (.fldA 11 (.t 12)),
 oS 1 85 84] ⟨.all,[],.look 0 (.look 1 (.look 2 (.look 4 (.look 5 (.look 6 (.look 7 (.look 8 (.look 9 (.look 11 (.look 12 (.look 13 (.look 14 (.run 3 true (.run 10 true (.run 15 true (.run 16 true (.run 17 true (.run 18 true (.run 19 false (.look 20 (.run 21 false .done)))))))))))))))))))))⟩)
 .skip)))
 (.ops [
 oM 60 13,
 oO 61 (.bin .add (.t 60) (.c (.int .i64 1))),
 oM 13 61]))))))
 (.seq (.ops [
 oO 86 (.load 22 true (.t 12)),
 oS 22 8 86,
 oO 9 (.mv (.c (.int .i64 0)))])
 .ret)))))))⟩
theorem K_witanref21_Post:chkFun DK Pg Tryz.f56 A_witanref21_Post=true:=by kernel_rfl
theorem B_witanref21_Post {args:List AV} {m:Mem} {K:AV->Mem->Prop} (h:vcFun DK Pg A_witanref21_Post args m K):ACall Pg F_witanref21_Post args m K:=call_body mixed Tryz.func56 (by kernel_rfl) K_witanref21_Post h
noncomputable def A_curve_Base:AFun:=⟨1,8,[.cell 2 9 true],
 (.seq (.ops [
 oO 1 (.box 1 4 (.t 0)),
 oO 2 (.alloc 9 1 [.bool false,.int .u64 0,.int .u64 0,.int .u64 0,.int .u64 0,.int .u64 0,.int .u64 0,.int .u64 0,.int .u64 0])])
 (.seq (.draw [
 oK 3 F_curve_base [],
 oK 4 F_curve_spread [.t 3],
 oO 5 (.load 4 true (.t 1)),
 oK 6 F_curve_jac_times [.t 4,.t 5],
 oK 7 F_curve_jac_point [.t 6],
 ⟨none,.stA 9 1 9 (.t 2) (.t 7),none⟩] ⟨.all,[],.look 2 (.run 0 true (.run 1 true (.run 3 false (.run 4 false (.run 5 false .done)))))⟩)
 .ret))⟩
theorem K_curve_Base:chkFun DK Pg Tryz.f61 A_curve_Base=true:=by kernel_rfl
theorem B_curve_Base {args:List AV} {m:Mem} {K:AV->Mem->Prop} (h:vcFun DK Pg A_curve_Base args m K):ACall Pg F_curve_Base args m K:=call_body mixed Tryz.func61 (by kernel_rfl) K_curve_Base h
noncomputable def A_feld_Fits:AFun:=⟨3,23,[.t 6,.t 7],
 (.seq (.ops [
 oO 4 (.box 1 4 (.t 1)),
 oO 5 (.box 1 4 (.t 2)),
 oO 6 (.mv (.c (.bool false))),
 oO 7 (.mv (.c (.int .i64 0)))])
 (.seq (.ops [
 oM 11 0,
 oO 12 (.load 4 true (.t 4)),
 oK 13 F_feld_At [.t 11,.t 12],
 oM 10 13,
 oO 14 (.ext (.t 10) 0),
 oO 15 (.ext (.t 10) 1),
 oO 8 (.alloc 9 1 [.bool false,.int .u64 0,.int .u64 0,.int .u64 0,.int .u64 0,.int .u64 0,.int .u64 0,.int .u64 0,.int .u64 0]),
 ⟨none,.stA 9 1 9 (.t 8) (.t 14),none⟩,
 oM 9 15])
 (.seq (.seq (.ops [
 oM 16 9,
 oO 17 (.bin .neq (.t 16) (.c (.int .i64 0)))])
 (.cond (.t 17)
 (.seq (.ops [
 oM 18 9,
 oO 6 (.mv (.c (.bool false))),
 oM 7 18])
 .ret)
 .skip))
 (.seq (.draw [
 oO 19 (.load 4 true (.t 5)),
 oK 20 F_curve_Base [.t 19],
 oO 21 (.load 9 true (.t 8)),
 oO 22 (.eqa [.b,.i,.i,.i,.i,.i,.i,.i,.i] false (.t 20) (.t 21)),
 oM 6 22,
 oO 7 (.mv (.c (.int .i64 0)))] ⟨.all,[],.look 0 (.look 2 (.run 1 true (.look 3 (.look 4 (.look 5 .done)))))⟩)
 .ret))))⟩
theorem K_feld_Fits:chkFun DK Pg Tryz.f63 A_feld_Fits=true:=by kernel_rfl
theorem B_feld_Fits {args:List AV} {m:Mem} {K:AV->Mem->Prop} (h:vcFun DK Pg A_feld_Fits args m K):ACall Pg F_feld_Fits args m K:=call_body mixed Tryz.func63 (by kernel_rfl) K_feld_Fits h
noncomputable def A_witankeep_TwinPoints:AFun:=⟨1,7,[.t 2],
 (.seq (.ops [
 oO 2 (.mv (.c (.nils)))])
 (.seq (.ops [
 oO 3 (.mv (.c (.nils)))])
 (.seq (.ops [
 oM 4 3,
 oM 5 0,
 oO 6 (.app 9 72 (.t 4) (.t 5)),
 oM 2 6])
 .ret)))⟩
theorem K_witankeep_TwinPoints:chkFun DK Pg Tryz.f79 A_witankeep_TwinPoints=true:=by kernel_rfl
theorem B_witankeep_TwinPoints {args:List AV} {m:Mem} {K:AV->Mem->Prop} (h:vcFun DK Pg A_witankeep_TwinPoints args m K):ACall Pg F_witankeep_TwinPoints args m K:=call_body mixed Tryz.func79 (by kernel_rfl) K_witankeep_TwinPoints h
noncomputable def A_judge_dealer:AFun:=⟨1,9,[.t 2],
 (.seq (.ops [
 oO 2 (.mv (.c (.bool false)))])
 (.seq (.ops [
 oM 3 0,
 oO 4 (.bin .geq (.t 3) (.c (.int .i64 1))),
 oM 5 4,
 oG 6 (.mv (.t 0)) 5 true,
 oG 7 (.bin .leq (.t 6) (.c (.int .i64 8))) 5 true,
 oO 8 (.pick (.t 5) (.t 7) (.c (.bool false))),
 oM 2 8])
 .ret))⟩
theorem K_judge_dealer:chkFun DK Pg Tryz.f80 A_judge_dealer=true:=by kernel_rfl
theorem B_judge_dealer {args:List AV} {m:Mem} {K:AV->Mem->Prop} (h:vcFun DK Pg A_judge_dealer args m K):ACall Pg F_judge_dealer args m K:=call_body mixed Tryz.func80 (by kernel_rfl) K_judge_dealer h
noncomputable def A_judge_posted:AFun:=⟨2,34,[.t 4],
 (.seq (.ops [
 oO 2 (.box 26 1 (.t 0)),
 oO 4 (.mv (.c (.bool false)))])
 (.seq (.seq (.ops [
 oO 7 (.fldA 12 (.t 2)),
 oO 8 (.load 1 false (.t 7)),
 oO 9 (.un .not (.t 8)),
 oM 10 9,
 oG 11 (.mv (.t 1)) 10 false,
 oG 12 (.fldA 13 (.t 2)) 10 false,
 oG 13 (.load 1 false (.t 12)) 10 false,
 oG 14 (.len (.t 13)) 10 false,
 oG 15 (.bin .geq (.t 11) (.t 14)) 10 false,
 oO 16 (.pick (.t 10) (.c (.bool true)) (.t 15)),
 oM 17 16,
 oG 18 (.fldA 14 (.t 2)) 17 false,
 oG 19 (.load 1 false (.t 18)) 17 false,
 oG 20 (.len (.t 19)) 17 false,
 oG 21 (.bin .gtr (.t 20) (.c (.int .i64 64))) 17 false,
 oO 22 (.pick (.t 17) (.c (.bool true)) (.t 21))])
 (.cond (.t 22)
 (.seq (.ops [
 oO 4 (.mv (.c (.bool false)))])
 .ret)
 .skip))
 (.seq (.seq (.ops [
 oO 23 (.fldA 14 (.t 2)),
 oO 24 (.load 1 false (.t 23)),
 oO 25 (.len (.t 24)),
 oO 26 (.mv (.c (.int .i64 0)))])
 (.block 0
 (.loop
 (.seq (.ops [
 oO 27 (.bin .lss (.t 26) (.t 25))])
 (.seq (.cond (.t 27)
 .skip
 (.exit 0))
 (.seq (.block 1
 (.seq (.ops [
 oO 28 (.idxA 9 (.t 24) (.t 26)),
 oO 29 (.load 9 true (.t 28)),
 oO 6 (.alloc 9 1 [.bool false,.int .u64 0,.int .u64 0,.int .u64 0,.int .u64 0,.int .u64 0,.int .u64 0,.int .u64 0,.int .u64 0]),
 ⟨none,.stA 9 1 9 (.t 6) (.t 29),none⟩])
 (.seq (.ops [
 oO 30 (.load 9 true (.t 6)),
 oK 31 F_curve_Check [.t 30],
 oO 32 (.bin .neq (.t 31) (.c (.int .i64 0)))])
 (.cond (.t 32)
 (.seq (.ops [
 oO 4 (.mv (.c (.bool false)))])
 .ret)
 .skip))))
 (.ops [
 oO 33 (.bin .add (.t 26) (.c (.int .i64 1))),
 oM 26 33])))))))
 (.seq (.ops [
 oO 4 (.mv (.c (.bool true)))])
 .ret))))⟩
theorem K_judge_posted:chkFun DK Pg Tryz.f81 A_judge_posted=true:=by kernel_rfl
theorem B_judge_posted {args:List AV} {m:Mem} {K:AV->Mem->Prop} (h:vcFun DK Pg A_judge_posted args m K):ACall Pg F_judge_posted args m K:=call_body mixed Tryz.func81 (by kernel_rfl) K_judge_posted h
noncomputable def A_curve_Check:AFun:=⟨1,33,[.t 2],
 (.seq (.ops [
 oO 1 (.box 9 1 (.t 0)),
 oO 2 (.mv (.c (.int .i64 0)))])
 (.seq (.seq (.ops [
 oO 4 (.fldA 0 (.t 1)),
 oO 5 (.load 1 false (.t 4))])
 (.cond (.t 5)
 (.seq (.seq (.ops [
 oO 6 (.load 9 true (.t 1)),
 oO 7 (.build [.bool false,.int .u64 0,.int .u64 0,.int .u64 0,.int .u64 0,.int .u64 0,.int .u64 0,.int .u64 0,.int .u64 0] [(0,1,.c (.bool true))]),
 oO 8 (.eqa [.b,.i,.i,.i,.i,.i,.i,.i,.i] true (.t 6) (.t 7))])
 (.cond (.t 8)
 (.seq (.ops [
 oO 2 (.mv (.c (.int .i64 3)))])
 .ret)
 .skip))
 (.seq (.ops [
 oO 2 (.mv (.c (.int .i64 0)))])
 .ret))
 .skip))
 (.seq (.ops [
 oK 9 F_field_Prime [.c (.int .i64 0)],
 oO 3 (.alloc 1 4 [.int .u64 0]),
 ⟨none,.stA 1 4 4 (.t 3) (.t 9),none⟩])
 (.seq (.seq (.draw [
 oO 10 (.fldA 1 (.t 1)),
 oO 11 (.load 4 true (.t 10)),
 oO 12 (.load 4 true (.t 3)),
 oK 13 F_limb_Cmp [.t 11,.t 12],
 oO 14 (.bin .geq (.t 13) (.c (.int .i64 0))),
 oM 15 14,
 oG 16 (.fldA 5 (.t 1)) 15 false,
 oG 17 (.load 4 true (.t 16)) 15 false,
 oG 18 (.load 4 true (.t 3)) 15 false,
 oG 19 (.call (.c (.fn F_limb_Cmp [])) [.t 17,.t 18]) 15 false,
 oG 20 (.bin .geq (.t 19) (.c (.int .i64 0))) 15 false,
 oO 21 (.pick (.t 15) (.c (.bool true)) (.t 20)),
 oM 22 21,
 oG 23 (.fldA 5 (.t 1)) 22 false,
 oG 24 (.load 4 true (.t 23)) 22 false,
 oG 25 (.fldA 5 (.t 1)) 22 false,
 oG 26 (.load 4 true (.t 25)) 22 false,
 oG 27 (.call (.c (.fn F_curve_mul [])) [.t 24,.t 26]) 22 false,
 oG 28 (.fldA 1 (.t 1)) 22 false,
 oG 29 (.load 4 true (.t 28)) 22 false,
 oG 30 (.call (.c (.fn F_curve_right [])) [.t 29]) 22 false,
 oG 31 (.eqa [.i,.i,.i,.i] true (.t 27) (.t 30)) 22 false,
 oO 32 (.pick (.t 22) (.c (.bool true)) (.t 31))] ⟨.all,[],.look 0 (.look 1 (.look 2 (.run 3 true (.look 4 (.look 5 (.look 6 (.look 7 (.look 8 (.run 9 true (.look 10 (.look 11 (.look 12 (.look 13 (.look 14 (.look 15 (.look 16 (.look 18 (.look 19 (.run 17 true (.run 20 true (.look 21 (.look 22 .done))))))))))))))))))))))⟩)
 (.cond (.t 32)
 (.seq (.ops [
 oO 2 (.mv (.c (.int .i64 3)))])
 .ret)
 .skip))
 (.seq (.ops [
 oO 2 (.mv (.c (.int .i64 0)))])
 .ret)))))⟩
theorem K_curve_Check:chkFun DK Pg Tryz.f82 A_curve_Check=true:=by kernel_rfl
theorem B_curve_Check {args:List AV} {m:Mem} {K:AV->Mem->Prop} (h:vcFun DK Pg A_curve_Check args m K):ACall Pg F_curve_Check args m K:=call_body mixed Tryz.func82 (by kernel_rfl) K_curve_Check h
noncomputable def A_pair_Open:AFun:=⟨4,26,[.cell 8 4 true,.t 9],
 (.seq (.ops [
 oO 4 (.box 9 1 (.t 0)),
 oO 7 (.box 1 32 (.t 3)),
 oO 8 (.alloc 1 4 [.int .u64 0]),
 oO 9 (.mv (.c (.int .i64 0)))])
 (.seq (.ops [
 oO 13 (.load 9 true (.t 4)),
 oM 14 1,
 oM 15 2,
 oO 16 (.load 32 true (.t 7)),
 oK 17 F_pair_turned [.t 13,.t 14,.t 15,.t 16],
 oM 12 17,
 oO 18 (.ext (.t 12) 0),
 oO 19 (.ext (.t 12) 1),
 oO 10 (.alloc 1 32 [.int .u8 0]),
 oS 32 10 18,
 oM 11 19])
 (.seq (.seq (.ops [
 oM 20 11,
 oO 21 (.bin .neq (.t 20) (.c (.int .i64 0)))])
 (.cond (.t 21)
 (.seq (.ops [
 oO 22 (.build [.int .u64 0,.int .u64 0,.int .u64 0,.int .u64 0] []),
 oM 23 11,
 ⟨none,.stA 1 4 4 (.t 8) (.t 22),none⟩,
 oM 9 23])
 .ret)
 .skip))
 (.seq (.ops [
 oO 24 (.load 32 true (.t 10)),
 oK 25 F_limb_Of [.t 24],
 ⟨none,.stA 1 4 4 (.t 8) (.t 25),none⟩,
 oO 9 (.mv (.c (.int .i64 0)))])
 .ret))))⟩
theorem K_pair_Open:chkFun DK Pg Tryz.f83 A_pair_Open=true:=by kernel_rfl
theorem B_pair_Open {args:List AV} {m:Mem} {K:AV->Mem->Prop} (h:vcFun DK Pg A_pair_Open args m K):ACall Pg F_pair_Open args m K:=call_body mixed Tryz.func83 (by kernel_rfl) K_pair_Open h
noncomputable def A_limb_Cmp:AFun:=⟨2,26,[.t 4],
 (.seq (.ops [
 oO 2 (.box 1 4 (.t 0)),
 oO 3 (.box 1 4 (.t 1)),
 oO 4 (.mv (.c (.int .i64 0)))])
 (.seq (.seq (.ops [
 oO 5 (.mv (.c (.int .i64 3)))])
 (.block 0
 (.loop
 (.seq (.seq (.ops [
 oM 6 5,
 oO 7 (.bin .geq (.t 6) (.c (.int .i64 0)))])
 (.cond (.t 7)
 .skip
 (.exit 0)))
 (.seq (.block 1
 (.block 2
 (.seq (.draw [
 oM 11 5,
 oO 12 (.idxP 4 1 (.t 2) (.t 11)),
 oO 13 (.load 1 false (.t 12)),
 oM 14 5,
 oO 15 (.idxP 4 1 (.t 3) (.t 14)),
 oO 16 (.load 1 false (.t 15)),
 oO 17 (.bin .lss (.t 13) (.t 16)),
 oM 10 17] ⟨.no,[],.flat⟩)
 (.cond (.t 10)
 (.seq (.ops [
 oO 4 (.mv (.c (.int .i64 (-1))))])
 .ret)
 (.seq (.draw [
 oM 19 5,
 oO 20 (.idxP 4 1 (.t 2) (.t 19)),
 oO 21 (.load 1 false (.t 20)),
 oM 22 5,
 oO 23 (.idxP 4 1 (.t 3) (.t 22)),
 oO 24 (.load 1 false (.t 23)),
 oO 25 (.bin .gtr (.t 21) (.t 24)),
 oM 18 25] ⟨.no,[],.flat⟩)
 (.cond (.t 18)
 (.seq (.ops [
 oO 4 (.mv (.c (.int .i64 1)))])
 .ret)
 .skip))))))
 (.ops [
 oM 8 5,
 oO 9 (.bin .sub (.t 8) (.c (.int .i64 1))),
 oM 5 9]))))))
 (.seq (.ops [
 oO 4 (.mv (.c (.int .i64 0)))])
 .ret)))⟩
theorem K_limb_Cmp:chkFun DK Pg Tryz.f84 A_limb_Cmp=true:=by kernel_rfl
theorem B_limb_Cmp {args:List AV} {m:Mem} {K:AV->Mem->Prop} (h:vcFun DK Pg A_limb_Cmp args m K):ACall Pg F_limb_Cmp args m K:=call_body mixed Tryz.func84 (by kernel_rfl) K_limb_Cmp h
noncomputable def A_witanref01_Check:AFun:=⟨1,45,[.t 2],
 (.seq (.ops [
 oO 1 (.box 9 1 (.t 0)),
 oO 2 (.mv (.c (.bool false)))])
 (.seq (.seq (.ops [
 oO 3 (.fldA 0 (.t 1)),
 oO 4 (.load 1 false (.t 3))])
 (.cond (.t 4)
 (.seq (.ops [
 oO 5 (.fldA 1 (.t 1)),
 oO 6 (.load 4 true (.t 5)),
 oO 7 (.build [.int .u64 0,.int .u64 0,.int .u64 0,.int .u64 0] []),
 oO 8 (.eqa [.i,.i,.i,.i] false (.t 6) (.t 7)),
 oM 9 8,
 oG 10 (.fldA 5 (.t 1)) 9 true,
 oG 11 (.load 4 true (.t 10)) 9 true,
 oG 12 (.build [.int .u64 0,.int .u64 0,.int .u64 0,.int .u64 0] []) 9 true,
 oG 13 (.eqa [.i,.i,.i,.i] false (.t 11) (.t 12)) 9 true,
 oO 14 (.pick (.t 9) (.t 13) (.c (.bool false))),
 oM 2 14])
 .ret)
 .skip))
 (.seq (.draw [
 oO 15 (.fldA 1 (.t 1)),
 oO 16 (.load 4 true (.t 15)),
 oK 17 F_witanref01_Prime [.c (.int .i64 0)],
 oK 18 F_witanref01_Cmp [.t 16,.t 17],
 oO 19 (.bin .lss (.t 18) (.c (.int .i64 0))),
 oM 20 19,
 oG 21 (.fldA 5 (.t 1)) 20 true,
 oG 22 (.load 4 true (.t 21)) 20 true,
 oG 23 (.call (.c (.fn F_witanref01_Prime [])) [.c (.int .i64 0)]) 20 true,
 oG 24 (.call (.c (.fn F_witanref01_Cmp [])) [.t 22,.t 23]) 20 true,
 oG 25 (.bin .lss (.t 24) (.c (.int .i64 0))) 20 true,
 oO 26 (.pick (.t 20) (.t 25) (.c (.bool false))),
 oM 27 26,
 oG 28 (.fldA 5 (.t 1)) 27 true,
 oG 29 (.load 4 true (.t 28)) 27 true,
 oG 30 (.fldA 5 (.t 1)) 27 true,
 oG 31 (.load 4 true (.t 30)) 27 true,
 oG 32 (.call (.c (.fn F_witanref01_mul [])) [.t 29,.t 31]) 27 true,
 oG 33 (.fldA 1 (.t 1)) 27 true,
 oG 34 (.load 4 true (.t 33)) 27 true,
 oG 35 (.fldA 1 (.t 1)) 27 true,
 oG 36 (.load 4 true (.t 35)) 27 true,
 oG 37 (.call (.c (.fn F_witanref01_mul [])) [.t 34,.t 36]) 27 true,
 oG 38 (.fldA 1 (.t 1)) 27 true,
 oG 39 (.load 4 true (.t 38)) 27 true,
 oG 40 (.call (.c (.fn F_witanref01_mul [])) [.t 37,.t 39]) 27 true,
 oG 41 (.build [.int .u64 0,.int .u64 0,.int .u64 0,.int .u64 0] [(0,1,.c (.int .u64 7))]) 27 true,
 oG 42 (.call (.c (.fn F_witanref01_add [])) [.t 40,.t 41]) 27 true,
 oG 43 (.eqa [.i,.i,.i,.i] false (.t 32) (.t 42)) 27 true,
 oO 44 (.pick (.t 27) (.t 43) (.c (.bool false))),
 oM 2 44] ⟨.all,[],.look 0 (.look 1 (.run 2 true (.run 3 true (.look 4 (.look 5 (.look 6 (.look 7 (.run 8 true (.run 9 true (.look 10 (.look 11 (.look 12 (.look 13 (.look 14 (.look 15 (.look 16 (.look 18 (.look 19 (.look 20 (.look 21 (.look 23 (.look 24 (.look 26 (.run 17 true (.run 22 true (.run 25 true (.run 27 true (.look 28 (.look 29 (.look 30 .done))))))))))))))))))))))))))))))⟩)
 .ret)))⟩
theorem K_witanref01_Check:chkFun DK Pg Tryz.f86 A_witanref01_Check=true:=by kernel_rfl
theorem B_witanref01_Check {args:List AV} {m:Mem} {K:AV->Mem->Prop} (h:vcFun DK Pg A_witanref01_Check args m K):ACall Pg F_witanref01_Check args m K:=call_body mixed Tryz.func86 (by kernel_rfl) K_witanref01_Check h
noncomputable def A_witanref06_Int:AFun:=⟨1,6,[.cell 2 4 true],
 (.seq (.ops [
 oO 2 (.alloc 1 4 [.int .u64 0])])
 (.seq (.ops [
 oM 3 0,
 oO 4 (.conv .u64 (.t 3)),
 oO 5 (.build [.int .u64 0,.int .u64 0,.int .u64 0,.int .u64 0] [(0,1,.t 4)]),
 ⟨none,.stA 1 4 4 (.t 2) (.t 5),none⟩])
 .ret))⟩
theorem K_witanref06_Int:chkFun DK Pg Tryz.f89 A_witanref06_Int=true:=by kernel_rfl
theorem B_witanref06_Int {args:List AV} {m:Mem} {K:AV->Mem->Prop} (h:vcFun DK Pg A_witanref06_Int args m K):ACall Pg F_witanref06_Int args m K:=call_body mixed Tryz.func89 (by kernel_rfl) K_witanref06_Int h
noncomputable def A_dleq_Holds:AFun:=⟨4,82,[.t 8,.t 9],
 (.seq (.ops [
 oO 4 (.box 9 1 (.t 0)),
 oO 5 (.box 9 1 (.t 1)),
 oO 6 (.box 9 1 (.t 2)),
 oO 7 (.box 8 1 (.t 3)),
 oO 8 (.mv (.c (.bool false))),
 oO 9 (.mv (.c (.int .i64 0)))])
 (.seq (.seq (.ops [
 oO 17 (.load 9 true (.t 4)),
 oK 18 F_curve_Check [.t 17],
 oO 19 (.bin .neq (.t 18) (.c (.int .i64 0))),
 oM 20 19,
 oG 21 (.load 9 true (.t 5)) 20 false,
 oG 22 (.call (.c (.fn F_curve_Check [])) [.t 21]) 20 false,
 oG 23 (.bin .neq (.t 22) (.c (.int .i64 0))) 20 false,
 oO 24 (.pick (.t 20) (.c (.bool true)) (.t 23)),
 oM 25 24,
 oG 26 (.load 9 true (.t 6)) 25 false,
 oG 27 (.call (.c (.fn F_curve_Check [])) [.t 26]) 25 false,
 oG 28 (.bin .neq (.t 27) (.c (.int .i64 0))) 25 false,
 oO 29 (.pick (.t 25) (.c (.bool true)) (.t 28))])
 (.cond (.t 29)
 (.seq (.ops [
 oO 8 (.mv (.c (.bool false))),
 oO 9 (.mv (.c (.int .i64 3)))])
 .ret)
 .skip))
 (.seq (.ops [
 oK 30 F_field_Prime [.c (.int .i64 1)],
 oO 10 (.alloc 1 4 [.int .u64 0]),
 ⟨none,.stA 1 4 4 (.t 10) (.t 30),none⟩])
 (.seq (.seq (.ops [
 oO 31 (.fldA 0 (.t 7)),
 oO 32 (.load 4 true (.t 31)),
 oO 33 (.load 4 true (.t 10)),
 oK 34 F_limb_Cmp [.t 32,.t 33],
 oO 35 (.bin .geq (.t 34) (.c (.int .i64 0))),
 oM 36 35,
 oG 37 (.fldA 4 (.t 7)) 36 false,
 oG 38 (.load 4 true (.t 37)) 36 false,
 oG 39 (.load 4 true (.t 10)) 36 false,
 oG 40 (.call (.c (.fn F_limb_Cmp [])) [.t 38,.t 39]) 36 false,
 oG 41 (.bin .geq (.t 40) (.c (.int .i64 0))) 36 false,
 oO 42 (.pick (.t 36) (.c (.bool true)) (.t 41))])
 (.cond (.t 42)
 (.seq (.ops [
 oO 8 (.mv (.c (.bool false))),
 oO 9 (.mv (.c (.int .i64 0)))])
 .ret)
 .skip))
 (.seq (.draw [
 oO 44 (.fldA 4 (.t 7)),
 oO 45 (.load 4 true (.t 44)),
 oK 46 F_curve_Base [.t 45],
 oO 47 (.fldA 0 (.t 7)),
 oO 48 (.load 4 true (.t 47)),
 oO 49 (.load 9 true (.t 4)),
 oK 50 F_dleq_times [.t 48,.t 49],
 oK 51 F_curve_Add [.t 46,.t 50],
 oM 43 51,
 oO 52 (.ext (.t 43) 0),
 oO 53 (.ext (.t 43) 1),
 oO 11 (.alloc 9 1 [.bool false,.int .u64 0,.int .u64 0,.int .u64 0,.int .u64 0,.int .u64 0,.int .u64 0,.int .u64 0,.int .u64 0]),
 oS 9 11 52,
 oM 12 53] ⟨.all,[(11,some 12)],.look 0 (.look 1 (.look 3 (.look 4 (.look 5 (.run 2 true (.run 6 true (.run 7 true (.look 8 (.look 9 (.pre 11 12 (.look 10 (.fill (.look 13 .done)))))))))))))⟩)
 (.seq (.ops [
 oO 55 (.fldA 4 (.t 7)),
 oO 56 (.load 4 true (.t 55)),
 oO 57 (.load 9 true (.t 5)),
 oO 58 (.fldA 0 (.t 7)),
 oO 59 (.load 4 true (.t 58)),
 oO 60 (.load 9 true (.t 6)),
 oK 61 F_curve_Two [.t 56,.t 57,.t 59,.t 60],
 oM 54 61,
 oO 62 (.ext (.t 54) 0),
 oO 63 (.ext (.t 54) 1),
 oO 13 (.alloc 9 1 [.bool false,.int .u64 0,.int .u64 0,.int .u64 0,.int .u64 0,.int .u64 0,.int .u64 0,.int .u64 0,.int .u64 0]),
 ⟨none,.stA 9 1 9 (.t 13) (.t 62),none⟩,
 oM 14 63])
 (.seq (.ops [
 oO 65 (.load 9 true (.t 4)),
 oO 66 (.load 9 true (.t 5)),
 oO 67 (.load 9 true (.t 6)),
 oO 68 (.load 9 true (.t 11)),
 oO 69 (.load 9 true (.t 13)),
 oO 70 (.bsl 9 5 [.bool false,.int .u64 0,.int .u64 0,.int .u64 0,.int .u64 0,.int .u64 0,.int .u64 0,.int .u64 0,.int .u64 0] [(0,9,.t 65),(9,9,.t 66),(18,9,.t 67),(27,9,.t 68),(36,9,.t 69)]),
 oK 71 F_dleq_challenge [.t 70],
 oM 64 71,
 oO 72 (.ext (.t 64) 0),
 oO 73 (.ext (.t 64) 1),
 oO 15 (.alloc 1 4 [.int .u64 0]),
 ⟨none,.stA 1 4 4 (.t 15) (.t 72),none⟩,
 oM 16 73])
 (.seq (.ops [
 oM 74 16,
 oO 75 (.bin .eql (.t 74) (.c (.int .i64 0))),
 oM 76 75,
 oG 77 (.load 4 true (.t 15)) 76 true,
 oG 78 (.fldA 0 (.t 7)) 76 true,
 oG 79 (.load 4 true (.t 78)) 76 true,
 oG 80 (.eqa [.i,.i,.i,.i] false (.t 77) (.t 79)) 76 true,
 oO 81 (.pick (.t 76) (.t 80) (.c (.bool false))),
 oM 8 81,
 oO 9 (.mv (.c (.int .i64 0)))])
 .ret))))))))⟩
theorem K_dleq_Holds:chkFun DK Pg Tryz.f90 A_dleq_Holds=true:=by kernel_rfl
theorem B_dleq_Holds {args:List AV} {m:Mem} {K:AV->Mem->Prop} (h:vcFun DK Pg A_dleq_Holds args m K):ACall Pg F_dleq_Holds args m K:=call_body mixed Tryz.func90 (by kernel_rfl) K_dleq_Holds h
noncomputable def A_witanref01_Base:AFun:=⟨1,6,[.cell 2 9 true],
 (.seq (.ops [
 oO 1 (.box 1 4 (.t 0)),
 oO 2 (.alloc 9 1 [.bool false,.int .u64 0,.int .u64 0,.int .u64 0,.int .u64 0,.int .u64 0,.int .u64 0,.int .u64 0,.int .u64 0])])
 (.seq (.draw [
 oO 3 (.load 4 true (.t 1)),
 oK 4 F_witanref01_G [],
 oK 5 F_witanref01_Times [.t 3,.t 4],
 ⟨none,.stA 9 1 9 (.t 2) (.t 5),none⟩] ⟨.all,[],.look 0 (.run 1 true (.run 2 false (.run 3 false .done)))⟩)
 .ret))⟩
theorem K_witanref01_Base:chkFun DK Pg Tryz.f92 A_witanref01_Base=true:=by kernel_rfl
theorem B_witanref01_Base {args:List AV} {m:Mem} {K:AV->Mem->Prop} (h:vcFun DK Pg A_witanref01_Base args m K):ACall Pg F_witanref01_Base args m K:=call_body mixed Tryz.func92 (by kernel_rfl) K_witanref01_Base h
noncomputable def A_witanref04_Scalar:AFun:=⟨2,34,[.cell 4 4 true,.t 5],
 (.seq (.ops [
 oO 4 (.alloc 1 4 [.int .u64 0]),
 oO 5 (.mv (.c (.bool false)))])
 (.seq (.ops [
 oM 11 0,
 oM 12 1,
 oK 13 F_witanref04_Joined [.t 11,.t 12],
 oM 10 13,
 oO 14 (.ext (.t 10) 0),
 oO 15 (.ext (.t 10) 1),
 oM 6 14,
 oM 7 15])
 (.seq (.seq (.ops [
 oM 16 7,
 oO 17 (.un .not (.t 16))])
 (.cond (.t 17)
 (.seq (.ops [
 oO 18 (.build [.int .u64 0,.int .u64 0,.int .u64 0,.int .u64 0] []),
 oS 4 4 18,
 oO 5 (.mv (.c (.bool false)))])
 .ret)
 .skip))
 (.seq (.ops [
 oM 19 6,
 oO 20 (.bsl 1 1 [.int .u8 0] [(0,1,.c (.int .u8 0))]),
 oO 21 (.bsl 1 2 [.nils] [(0,1,.t 19),(1,1,.t 20)]),
 oK 22 F_witanref04_join [.t 21],
 oK 23 F_witanref04_Sum256 [.t 22],
 oO 8 (.alloc 1 32 [.int .u8 0]),
 oS 32 8 23])
 (.seq (.ops [
 oM 24 6,
 oO 25 (.bsl 1 1 [.int .u8 0] [(0,1,.c (.int .u8 1))]),
 oO 26 (.bsl 1 2 [.nils] [(0,1,.t 24),(1,1,.t 25)]),
 oK 27 F_witanref04_join [.t 26],
 oK 28 F_witanref04_Sum256 [.t 27],
 oO 9 (.alloc 1 32 [.int .u8 0]),
 oS 32 9 28])
 (.seq (.draw [
 oO 29 (.load 32 true (.t 8)),
 oK 30 F_witanref01_Of [.t 29],
 oO 31 (.load 32 true (.t 9)),
 oK 32 F_witanref01_Of [.t 31],
 oK 33 F_witanref01_Wide [.c (.int .i64 1),.t 30,.t 32],
 oS 4 4 33,
 oO 5 (.mv (.c (.bool true)))] ⟨.all,[],.look 0 (.look 2 (.run 1 true (.run 3 false (.run 4 false (.run 5 false (.look 6 .done))))))⟩)
 .ret))))))⟩
theorem K_witanref04_Scalar:chkFun DK Pg Tryz.f93 A_witanref04_Scalar=true:=by kernel_rfl
theorem B_witanref04_Scalar {args:List AV} {m:Mem} {K:AV->Mem->Prop} (h:vcFun DK Pg A_witanref04_Scalar args m K):ACall Pg F_witanref04_Scalar args m K:=call_body mixed Tryz.func93 (by kernel_rfl) K_witanref04_Scalar h
noncomputable def A_witanref21_one:AFun:=⟨1,8,[.cell 2 4 true],
 (.seq (.ops [
 oO 1 (.box 1 4 (.t 0)),
 oO 2 (.alloc 1 4 [.int .u64 0])])
 (.seq (.seq (.ops [
 oO 3 (.load 4 true (.t 1)),
 oO 4 (.build [.int .u64 0,.int .u64 0,.int .u64 0,.int .u64 0] []),
 oO 5 (.eqa [.i,.i,.i,.i] false (.t 3) (.t 4))])
 (.cond (.t 5)
 (.seq (.ops [
 oO 6 (.build [.int .u64 0,.int .u64 0,.int .u64 0,.int .u64 0] [(0,1,.c (.int .u64 1))]),
 ⟨none,.stA 1 4 4 (.t 2) (.t 6),none⟩])
 .ret)
 .skip))
 (.seq (.ops [
 oO 7 (.load 4 true (.t 1)),
 ⟨none,.stA 1 4 4 (.t 2) (.t 7),none⟩])
 .ret)))⟩
theorem K_witanref21_one:chkFun DK Pg Tryz.f94 A_witanref21_one=true:=by kernel_rfl
theorem B_witanref21_one {args:List AV} {m:Mem} {K:AV->Mem->Prop} (h:vcFun DK Pg A_witanref21_one args m K):ACall Pg F_witanref21_one args m K:=call_body mixed Tryz.func94 (by kernel_rfl) K_witanref21_one h
noncomputable def A_witanref01_down:AFun:=⟨1,27,[.cell 2 9 true],
 (.seq (.ops [
 oO 1 (.box 12 1 (.t 0)),
 oO 2 (.alloc 9 1 [.bool false,.int .u64 0,.int .u64 0,.int .u64 0,.int .u64 0,.int .u64 0,.int .u64 0,.int .u64 0,.int .u64 0])])
 (.seq (.seq (.ops [
 oO 5 (.fldA 8 (.t 1)),
 oO 6 (.load 4 true (.t 5)),
 oO 7 (.build [.int .u64 0,.int .u64 0,.int .u64 0,.int .u64 0] []),
 oO 8 (.eqa [.i,.i,.i,.i] false (.t 6) (.t 7))])
 (.cond (.t 8)
 (.seq (.ops [
 oK 9 F_witanref01_Inf [],
 ⟨none,.stA 9 1 9 (.t 2) (.t 9),none⟩])
 .ret)
 .skip))
 (.seq (.ops [
 oO 10 (.fldA 8 (.t 1)),
 oO 11 (.load 4 true (.t 10)),
 oK 12 F_witanref01_Inv [.c (.int .i64 0),.t 11],
 oO 3 (.alloc 1 4 [.int .u64 0]),
 ⟨none,.stA 1 4 4 (.t 3) (.t 12),none⟩])
 (.seq (.ops [
 oO 13 (.load 4 true (.t 3)),
 oO 14 (.load 4 true (.t 3)),
 oK 15 F_witanref01_mul [.t 13,.t 14],
 oO 4 (.alloc 1 4 [.int .u64 0]),
 ⟨none,.stA 1 4 4 (.t 4) (.t 15),none⟩])
 (.seq (.draw [
 oO 16 (.fldA 0 (.t 1)),
 oO 17 (.load 4 true (.t 16)),
 oO 18 (.load 4 true (.t 4)),
 oK 19 F_witanref01_mul [.t 17,.t 18],
 oO 20 (.fldA 4 (.t 1)),
 oO 21 (.load 4 true (.t 20)),
 oO 22 (.load 4 true (.t 4)),
 oO 23 (.load 4 true (.t 3)),
 oK 24 F_witanref01_mul [.t 22,.t 23],
 oK 25 F_witanref01_mul [.t 21,.t 24],
 oO 26 (.build [.bool false,.int .u64 0,.int .u64 0,.int .u64 0,.int .u64 0,.int .u64 0,.int .u64 0,.int .u64 0,.int .u64 0] [(1,4,.t 19),(5,4,.t 25)]),
 ⟨none,.stA 9 1 9 (.t 2) (.t 26),none⟩] ⟨.all,[],.look 0 (.look 1 (.look 2 (.look 4 (.look 5 (.look 6 (.look 7 (.run 3 true (.run 8 true (.run 9 true (.look 10 (.run 11 false .done)))))))))))⟩)
 .ret)))))⟩
theorem K_witanref01_down:chkFun DK Pg Tryz.f95 A_witanref01_down=true:=by kernel_rfl
theorem B_witanref01_down {args:List AV} {m:Mem} {K:AV->Mem->Prop} (h:vcFun DK Pg A_witanref01_down args m K):ACall Pg F_witanref01_down args m K:=call_body mixed Tryz.func95 (by kernel_rfl) K_witanref01_down h
noncomputable def A_witanref01_times:AFun:=⟨2,24,[.cell 4 12 true],
 (.seq (.ops [
 oO 2 (.box 1 4 (.t 0)),
 oO 3 (.box 9 1 (.t 1)),
 oO 4 (.alloc 12 1 (List.replicate 12 (.int .u64 0)))])
 (.seq (.ops [
 oK 7 F_witanref01_Inf [],
 oK 8 F_witanref01_up [.t 7],
 oO 5 (.alloc 12 1 (List.replicate 12 (.int .u64 0))),
 ⟨none,.stA 12 1 12 (.t 5) (.t 8),none⟩])
 (.seq (.seq (.ops [
 oO 6 (.mv (.c (.int .i64 255)))])
 (.block 0
 (.loop
 (.seq (.seq (.ops [
 oM 9 6,
 oO 10 (.bin .geq (.t 9) (.c (.int .i64 0)))])
 (.cond (.t 10)
 .skip
 (.exit 0)))
 (.seq (.block 1
 (.seq (.ops [
 oO 13 (.load 12 true (.t 5)),
 oK 14 F_witanref01_twice [.t 13],
 ⟨none,.stA 12 1 12 (.t 5) (.t 14),none⟩])
 (.seq (.ops [
 oO 15 (.load 4 true (.t 2)),
 oM 16 6,
 oK 17 F_witanref01_Bit [.t 15,.t 16],
 oO 18 (.bin .eql (.t 17) (.c (.int .i64 1)))])
 (.cond (.t 18)
 (.draw [
 oO 19 (.load 12 true (.t 5)),
 oO 20 (.load 9 true (.t 3)),
 oK 21 F_witanref01_up [.t 20],
 oK 22 F_witanref01_plus [.t 19,.t 21],
 ⟨none,.stA 12 1 12 (.t 5) (.t 22),none⟩] ⟨.all,[],.look 0 (.look 1 (.run 2 true (.run 3 false (.run 4 false .done))))⟩)
 .skip))))
 (.ops [
 oM 11 6,
 oO 12 (.bin .sub (.t 11) (.c (.int .i64 1))),
 oM 6 12]))))))
 (.seq (.ops [
 oO 23 (.load 12 true (.t 5)),
 ⟨none,.stA 12 1 12 (.t 4) (.t 23),none⟩])
 .ret))))⟩
theorem K_witanref01_times:chkFun DK Pg Tryz.f96 A_witanref01_times=true:=by kernel_rfl
theorem B_witanref01_times {args:List AV} {m:Mem} {K:AV->Mem->Prop} (h:vcFun DK Pg A_witanref01_times args m K):ACall Pg F_witanref01_times args m K:=call_body mixed Tryz.func96 (by kernel_rfl) K_witanref01_times h
noncomputable def A_witanref06_challenge:AFun:=⟨1,27,[.cell 2 4 true],
 (.seq (.ops [
 oO 2 (.alloc 1 4 [.int .u64 0])])
 (.seq (.ops [
 oO 3 (.mv (.c (.nils)))])
 (.seq (.seq (.ops [
 oO 4 (.mv (.c (.int .i64 0)))])
 (.block 0
 (.loop
 (.seq (.seq (.ops [
 oM 7 4,
 oM 8 0,
 oO 9 (.len (.t 8)),
 oO 10 (.bin .lss (.t 7) (.t 9))])
 (.cond (.t 10)
 .skip
 (.exit 0)))
 (.seq (.block 1
 (.ops [
 oM 13 3,
 oM 14 0,
 oM 15 4,
 oO 16 (.idxA 9 (.t 14) (.t 15)),
 oO 17 (.load 9 true (.t 16)),
 oK 18 F_witanref01_PointBytes [.t 17],
 oO 19 (.bsl 1 1 [.nils] [(0,1,.t 18)]),
 oO 20 (.app 1 24 (.t 13) (.t 19)),
 oM 3 20]))
 (.ops [
 oM 11 4,
 oO 12 (.bin .add (.t 11) (.c (.int .i64 1))),
 oM 4 12]))))))
 (.seq (.ops [
 oM 22 3,
 ⟨some 23,.call (.c (.fn F_witanref04_Scalar [])) [.c (.str ⟨#[100,108,101,113]⟩),.t 22],none⟩,
 oM 21 23,
 oO 24 (.ext (.t 21) 0),
 oO 25 (.ext (.t 21) 1),
 oO 5 (.alloc 1 4 [.int .u64 0]),
 ⟨none,.stA 1 4 4 (.t 5) (.t 24),none⟩,
 oM 6 25])
 (.seq (.ops [
 oO 26 (.load 4 true (.t 5)),
 ⟨none,.stA 1 4 4 (.t 2) (.t 26),none⟩])
 .ret)))))⟩
theorem K_witanref06_challenge:chkFun DK Pg Tryz.f97 A_witanref06_challenge=true:=by kernel_rfl
theorem B_witanref06_challenge {args:List AV} {m:Mem} {K:AV->Mem->Prop} (h:vcFun DK Pg A_witanref06_challenge args m K):ACall Pg F_witanref06_challenge args m K:=call_body mixed Tryz.func97 (by kernel_rfl) K_witanref06_challenge h
noncomputable def A_witanref06_sub:AFun:=⟨2,8,[.cell 4 4 true],
 (.seq (.ops [
 oO 2 (.box 1 4 (.t 0)),
 oO 3 (.box 1 4 (.t 1)),
 oO 4 (.alloc 1 4 [.int .u64 0])])
 (.seq (.ops [
 oO 5 (.load 4 true (.t 2)),
 oO 6 (.load 4 true (.t 3)),
 oK 7 F_witanref01_FSub [.c (.int .i64 1),.t 5,.t 6],
 ⟨none,.stA 1 4 4 (.t 4) (.t 7),none⟩])
 .ret))⟩
theorem K_witanref06_sub:chkFun DK Pg Tryz.f98 A_witanref06_sub=true:=by kernel_rfl
theorem B_witanref06_sub {args:List AV} {m:Mem} {K:AV->Mem->Prop} (h:vcFun DK Pg A_witanref06_sub args m K):ACall Pg F_witanref06_sub args m K:=call_body mixed Tryz.func98 (by kernel_rfl) K_witanref06_sub h
noncomputable def A_witanref06_mul:AFun:=⟨2,8,[.cell 4 4 true],
 (.seq (.ops [
 oO 2 (.box 1 4 (.t 0)),
 oO 3 (.box 1 4 (.t 1)),
 oO 4 (.alloc 1 4 [.int .u64 0])])
 (.seq (.ops [
 oO 5 (.load 4 true (.t 2)),
 oO 6 (.load 4 true (.t 3)),
 oK 7 F_witanref01_FMul [.c (.int .i64 1),.t 5,.t 6],
 ⟨none,.stA 1 4 4 (.t 4) (.t 7),none⟩])
 .ret))⟩
theorem K_witanref06_mul:chkFun DK Pg Tryz.f99 A_witanref06_mul=true:=by kernel_rfl
theorem B_witanref06_mul {args:List AV} {m:Mem} {K:AV->Mem->Prop} (h:vcFun DK Pg A_witanref06_mul args m K):ACall Pg F_witanref06_mul args m K:=call_body mixed Tryz.func99 (by kernel_rfl) K_witanref06_mul h
noncomputable def A_witanref01_Sub:AFun:=⟨2,28,[.cell 4 4 true,.t 5],
 (.seq (.ops [
 oO 2 (.box 1 4 (.t 0)),
 oO 3 (.box 1 4 (.t 1)),
 oO 4 (.alloc 1 4 [.int .u64 0]),
 oO 5 (.mv (.c (.int .u64 0)))])
 (.seq (.ops [
 oO 6 (.mv (.c (.int .u64 0)))])
 (.seq (.ops [
 oO 7 (.alloc 1 4 [.int .u64 0])])
 (.seq (.seq (.ops [
 oO 8 (.mv (.c (.int .i64 0)))])
 (.block 0
 (.loop
 (.seq (.seq (.ops [
 oM 9 8,
 oO 10 (.bin .lss (.t 9) (.c (.int .i64 4)))])
 (.cond (.t 10)
 .skip
 (.exit 0)))
 (.seq (.block 1
 (.draw [
 oM 14 8,
 oM 15 8,
 oO 16 (.idxP 4 1 (.t 2) (.t 15)),
 oO 17 (.load 1 false (.t 16)),
 oM 18 8,
 oO 19 (.idxP 4 1 (.t 3) (.t 18)),
 oO 20 (.load 1 false (.t 19)),
 oM 21 6,
 oO 22 (.x64 true F_bits_Sub64 (.t 17) (.t 20) (.t 21)),
 oM 13 22,
 oO 23 (.ext (.t 13) 0),
 oO 24 (.ext (.t 13) 1),
 oO 25 (.idxP 4 1 (.t 7) (.t 14)),
 ⟨none,.stA 1 4 1 (.t 25) (.t 23),none⟩,
 oM 6 24] ⟨.all,[],.look 0 (.look 1 (.look 2 (.look 3 (.look 4 (.look 5 (.look 6 (.look 7 (.run 8 true (.look 9 (.look 10 (.look 11 (.look 12 (.run 13 false (.look 14 .done))))))))))))))⟩))
 (.ops [
 oM 11 8,
 oO 12 (.binF .add (.t 11) (.c (.int .i64 1))),
 oM 8 12]))))))
 (.seq (.ops [
 oO 26 (.load 4 true (.t 7)),
 oM 27 6,
 ⟨none,.stA 1 4 4 (.t 4) (.t 26),none⟩,
 oM 5 27])
 .ret)))))⟩
theorem K_witanref01_Sub:chkFun DK Pg Tryz.f101 A_witanref01_Sub=true:=by kernel_rfl
theorem B_witanref01_Sub {args:List AV} {m:Mem} {K:AV->Mem->Prop} (h:vcFun DK Pg A_witanref01_Sub args m K):ACall Pg F_witanref01_Sub args m K:=call_body mixed Tryz.func101 (by kernel_rfl) K_witanref01_Sub h
noncomputable def A_witanref01_small:AFun:=⟨1,7,[.cell 2 4 true],
 (.seq (.ops [
 oO 2 (.alloc 1 4 [.int .u64 0])])
 (.seq (.seq (.ops [
 oM 3 0,
 oO 4 (.bin .eql (.t 3) (.c (.int .i64 1)))])
 (.cond (.t 4)
 (.seq (.ops [
 oO 5 (.build [.int .u64 0,.int .u64 0,.int .u64 0,.int .u64 0] [(0,1,.c (.int .u64 4624529908474429119)),(1,1,.c (.int .u64 4994812053365940164)),(2,1,.c (.int .u64 1)),(3,1,.c (.int .u64 0))]),
 ⟨none,.stA 1 4 4 (.t 2) (.t 5),none⟩])
 .ret)
 .skip))
 (.seq (.ops [
 oO 6 (.build [.int .u64 0,.int .u64 0,.int .u64 0,.int .u64 0] [(0,1,.c (.int .u64 4294968273))]),
 ⟨none,.stA 1 4 4 (.t 2) (.t 6),none⟩])
 .ret)))⟩
theorem K_witanref01_small:chkFun DK Pg Tryz.f102 A_witanref01_small=true:=by kernel_rfl
theorem B_witanref01_small {args:List AV} {m:Mem} {K:AV->Mem->Prop} (h:vcFun DK Pg A_witanref01_small args m K):ACall Pg F_witanref01_small args m K:=call_body mixed Tryz.func102 (by kernel_rfl) K_witanref01_small h
noncomputable def A_witanref06_Below:AFun:=⟨1,17,[.t 2],
 (.seq (.ops [
 oO 1 (.box 8 1 (.t 0)),
 oO 2 (.mv (.c (.bool false)))])
 (.seq (.ops [
 oK 4 F_witanref01_Prime [.c (.int .i64 1)],
 oO 3 (.alloc 1 4 [.int .u64 0]),
 ⟨none,.stA 1 4 4 (.t 3) (.t 4),none⟩])
 (.seq (.ops [
 oO 5 (.fldA 0 (.t 1)),
 oO 6 (.load 4 true (.t 5)),
 oO 7 (.load 4 true (.t 3)),
 oK 8 F_witanref01_Cmp [.t 6,.t 7],
 oO 9 (.bin .lss (.t 8) (.c (.int .i64 0))),
 oM 10 9,
 oG 11 (.fldA 4 (.t 1)) 10 true,
 oG 12 (.load 4 true (.t 11)) 10 true,
 oG 13 (.load 4 true (.t 3)) 10 true,
 oG 14 (.call (.c (.fn F_witanref01_Cmp [])) [.t 12,.t 13]) 10 true,
 oG 15 (.bin .lss (.t 14) (.c (.int .i64 0))) 10 true,
 oO 16 (.pick (.t 10) (.t 15) (.c (.bool false))),
 oM 2 16])
 .ret)))⟩
theorem K_witanref06_Below:chkFun DK Pg Tryz.f103 A_witanref06_Below=true:=by kernel_rfl
theorem B_witanref06_Below {args:List AV} {m:Mem} {K:AV->Mem->Prop} (h:vcFun DK Pg A_witanref06_Below args m K):ACall Pg F_witanref06_Below args m K:=call_body mixed Tryz.func103 (by kernel_rfl) K_witanref06_Below h
noncomputable def A_witanref01_Two:AFun:=⟨4,17,[.cell 8 9 true],
 (.seq (.ops [
 oO 4 (.box 1 4 (.t 0)),
 oO 5 (.box 9 1 (.t 1)),
 oO 6 (.box 1 4 (.t 2)),
 oO 7 (.box 9 1 (.t 3)),
 oO 8 (.alloc 9 1 [.bool false,.int .u64 0,.int .u64 0,.int .u64 0,.int .u64 0,.int .u64 0,.int .u64 0,.int .u64 0,.int .u64 0])])
 (.seq (.draw [
 oO 9 (.load 4 true (.t 4)),
 oO 10 (.load 9 true (.t 5)),
 oK 11 F_witanref01_times [.t 9,.t 10],
 oO 12 (.load 4 true (.t 6)),
 oO 13 (.load 9 true (.t 7)),
 oK 14 F_witanref01_times [.t 12,.t 13],
 oK 15 F_witanref01_plus [.t 11,.t 14],
 oK 16 F_witanref01_down [.t 15],
 ⟨none,.stA 9 1 9 (.t 8) (.t 16),none⟩] ⟨.all,[],.look 0 (.look 1 (.look 3 (.look 4 (.run 2 true (.run 5 false (.run 6 false (.run 7 false (.run 8 false .done))))))))⟩)
 .ret))⟩
theorem K_witanref01_Two:chkFun DK Pg Tryz.f104 A_witanref01_Two=true:=by kernel_rfl
theorem B_witanref01_Two {args:List AV} {m:Mem} {K:AV->Mem->Prop} (h:vcFun DK Pg A_witanref01_Two args m K):ACall Pg F_witanref01_Two args m K:=call_body mixed Tryz.func104 (by kernel_rfl) K_witanref01_Two h
noncomputable def A_witanref01_G:AFun:=⟨0,4,[.cell 0 9 true],
 (.seq (.ops [
 oO 0 (.alloc 9 1 [.bool false,.int .u64 0,.int .u64 0,.int .u64 0,.int .u64 0,.int .u64 0,.int .u64 0,.int .u64 0,.int .u64 0])])
 (.seq (.ops [
 oO 1 (.build [.int .u64 0,.int .u64 0,.int .u64 0,.int .u64 0] [(0,1,.c (.int .u64 6481385041966929816)),(1,1,.c (.int .u64 188021827762530521)),(2,1,.c (.int .u64 6170039885052185351)),(3,1,.c (.int .u64 8772561819708210092))]),
 oO 2 (.build [.int .u64 0,.int .u64 0,.int .u64 0,.int .u64 0] [(0,1,.c (.int .u64 11261198710074299576)),(1,1,.c (.int .u64 18237243440184513561)),(2,1,.c (.int .u64 6747795201694173352)),(3,1,.c (.int .u64 5204712524664259685))]),
 oO 3 (.build [.bool false,.int .u64 0,.int .u64 0,.int .u64 0,.int .u64 0,.int .u64 0,.int .u64 0,.int .u64 0,.int .u64 0] [(1,4,.t 1),(5,4,.t 2)]),
 ⟨none,.stA 9 1 9 (.t 0) (.t 3),none⟩])
 .ret))⟩
theorem K_witanref01_G:chkFun DK Pg Tryz.f105 A_witanref01_G=true:=by kernel_rfl
theorem B_witanref01_G {args:List AV} {m:Mem} {K:AV->Mem->Prop} (h:vcFun DK Pg A_witanref01_G args m K):ACall Pg F_witanref01_G args m K:=call_body mixed Tryz.func105 (by kernel_rfl) K_witanref01_G h
noncomputable def A_draw_Scalar:AFun:=⟨2,35,[.cell 4 4 true,.t 5],
 (.seq (.ops [
 oO 4 (.alloc 1 4 [.int .u64 0]),
 oO 5 (.mv (.c (.int .i64 0)))])
 (.seq (.ops [
 oM 11 0,
 oM 12 1,
 oK 13 F_draw_joined [.t 11,.t 12],
 oM 10 13,
 oO 14 (.ext (.t 10) 0),
 oO 15 (.ext (.t 10) 1),
 oM 6 14,
 oM 7 15])
 (.seq (.seq (.ops [
 oM 16 7,
 oO 17 (.un .not (.t 16))])
 (.cond (.t 17)
 (.seq (.ops [
 oO 18 (.build [.int .u64 0,.int .u64 0,.int .u64 0,.int .u64 0] []),
 ⟨none,.stA 1 4 4 (.t 4) (.t 18),none⟩,
 oO 5 (.mv (.c (.int .i64 4)))])
 .ret)
 .skip))
 (.seq (.ops [
 oM 19 6,
 oO 20 (.bsl 1 1 [.int .u8 0] [(0,1,.c (.int .u8 0))]),
 oK 21 F_draw_with [.t 19,.t 20],
 oK 22 F_sha_Sum [.t 21],
 oK 23 F_limb_Of [.t 22],
 oM 24 6,
 oO 25 (.bsl 1 1 [.int .u8 0] [(0,1,.c (.int .u8 1))]),
 oK 26 F_draw_with [.t 24,.t 25],
 oK 27 F_sha_Sum [.t 26],
 oK 28 F_limb_Of [.t 27],
 oO 8 (.alloc 1 4 [.int .u64 0]),
 oO 9 (.alloc 1 4 [.int .u64 0]),
 ⟨none,.stA 1 4 4 (.t 8) (.t 23),none⟩,
 ⟨none,.stA 1 4 4 (.t 9) (.t 28),none⟩])
 (.seq (.draw [
 oO 29 (.load 4 true (.t 8)),
 oO 30 (.load 4 true (.t 9)),
 oK 31 F_field_Prime [.c (.int .i64 1)],
 oK 32 F_limb_Mod [.t 29,.t 30,.t 31],
 oO 33 (.ext (.t 32) 0),
 oO 34 (.ext (.t 32) 1),
 ⟨none,.stA 1 4 4 (.t 4) (.t 33),none⟩,
 oM 5 34] ⟨.all,[],.look 0 (.look 1 (.run 2 true (.run 3 false (.look 4 (.look 5 (.run 6 false (.look 7 .done)))))))⟩)
 .ret)))))⟩
theorem K_draw_Scalar:chkFun DK Pg Tryz.f107 A_draw_Scalar=true:=by kernel_rfl
theorem B_draw_Scalar {args:List AV} {m:Mem} {K:AV->Mem->Prop} (h:vcFun DK Pg A_draw_Scalar args m K):ACall Pg F_draw_Scalar args m K:=call_body mixed Tryz.func107 (by kernel_rfl) K_draw_Scalar h
end Go.Proofs.YtfolpdmbpbbimaaGreat
end

