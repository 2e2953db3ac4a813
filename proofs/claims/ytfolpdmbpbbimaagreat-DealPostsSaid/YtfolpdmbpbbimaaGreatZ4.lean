/- Texts of a proof, one behind the other; the last of these: The told forms of the functions that this seat reaches, each held against the program by a closed test; no condition. -/
import Derived.Test.YtfolpdmbpbbimaaGreatZ3
import Derived.Test.YtfolpdmbpbbimaaGreatProg
set_option linter.unusedVariables false
set_option linter.unusedSimpArgs false
set_option maxRecDepth 100000
section
namespace Go.Wit
theorem eS:∀ {l1 l2:List Nat},l1.Nodup->(∀ x,x ∈ l1->x ∈ l2)->l1.length<=l2.length
  | [],l2,_,_=>Nat.zero_le _
  | x :: r, l2, hn, hs => by
    obtain⟨s,t,rfl⟩:=List.append_of_mem (hs x (.head _))
    have hn':=List.nodup_cons.1 hn
    have:=eS (l1:=r) (l2:=s++t) hn'.2 (fun y hy=>by
      have hy':=hs y (.tail _ hy)
      rcases List.mem_append.1 hy' with h | h
      · exact List.mem_append.2 (.inl h)
      · rcases List.mem_cons.1 h with h | h
        · exact absurd (h ▸ hy) hn'.1
        · exact List.mem_append.2 (.inr h))
    simp only [List.length_cons,List.length_append]at this ⊢
    omega
section
variable {P:Program} {C0:Ctx} {n:Nat} {m0:Mem} {w0:World} {L0:Lay} {ops:Array Oper} {l:List AOpr} {keep:Keep}
theorem HRel.perm {C:Ctx} {hs hs':List HB} {e:Env} {m:Mem} {a:Act} {w:World} {L:Lay} (p:hs.Perm hs') (H:HRel C n hs e m a w L):HRel C n hs' e m a w L:=by
 have hX:XH C hs=XH C hs':=by
  funext b;apply propext
  simp only [XH,p.mem_iff]
 have hcx:CX C hs m w L=CX C hs' m w L:=by unfold CX;rw [hX]
 refine⟨H.size,H.defers,H.memC,by rw [<- hcx];exact H.memX,by rw [<- hcx];exact H.env,fun h hh=>H.hid h (p.mem_iff.2 hh),?_⟩
 exact(p.pairwise_iff (fun {x y} h h1 h2 h3=>h h2 h1 h3.symm)).1 H.pair
theorem fillK_sound {C:Ctx} {ps:List (Nat × AV)} {a:Act} {w:World}:∀ {fs:FS} {hs:List HB} {e:Env} {m:Mem} {L:Lay} {K:Env->Mem->Prop},HRel C n hs e m a w L->(∀ h,h ∈ hs->∃ q,q ∈ fs/\q.1=h.i/\rD l ps q=some (h.d,h.val,h.blk))->
    (∀ q,q ∈ fs->∃ h,h ∈ hs/\h.i=q.1)->(hs.map (·.i)).Nodup->(fs.map (·.1)).Nodup->fillK l ps fs e m K->∃ e' m' L',K e' m'/\HRel C n [] e' m' a w L'/\∃ t,m'=m++t
  | [], hs, e, m, L, K, H, h1, h2, h3, h4, hK => by
    cases hs with
    | nil=>exact ⟨e,m,L,hK,H,[],by simp⟩
    | cons h r=>obtain ⟨q,hq,_⟩:=h1 h (.head _);simp at hq
  | q :: r, hs, e, m, L, K, H, h1, h2, h3, h4, hK => by
    obtain⟨h,hh,hi⟩:=h2 q (.head _)
    have h4':=List.nodup_cons.1 h4
    have hf:rD l ps q=some (h.d,h.val,h.blk):=by
      obtain⟨q',k1,k2,k3⟩:=h1 h hh
      rcases List.mem_cons.1 k1 with rfl | k1
      · exact k3
      · exact absurd (List.mem_map.2 ⟨q',k1,by rw [k2,hi]⟩) h4'.1
    obtain⟨s,t,rfl⟩:=List.append_of_mem hh
    have hp:(s++h::t).Perm (h::(s++t)):=List.perm_middle
    have hnd:((h::(s++t)).map (·.i)).Nodup:=((hp.map _).nodup_iff).1 h3
    rw [List.map_cons]at hnd
    have hnd':=List.nodup_cons.1 hnd
    obtain⟨L2,H2⟩:=(H.perm hp).tell
    change (match rD l ps q with | some (d,val,blk)=>memK (m++ [some blk]) fun m'=>putK e (some d) (val m.length) fun e'=>fillK l ps r e' m' K | none=>False)at hK
    rw [hf]at hK
    simp only [cU,jF]at hK
    obtain⟨e',m',L',r1,r2,u,r3⟩:=fillK_sound (fs:=r) H2 (fun h' hh'=>by
      obtain⟨q',k1,k2,k3⟩:=h1 h' (hp.mem_iff.2 (.tail _ hh'))
      rcases List.mem_cons.1 k1 with rfl | k1
      · exact absurd (List.mem_map.2 ⟨h',hh',by rw [<- k2,hi]⟩) hnd'.1
      · exact⟨q',k1,k2,k3⟩) (fun q' hq'=>by
      obtain⟨h',k1,k2⟩:=h2 q' (.tail _ hq')
      rcases List.mem_cons.1 (hp.mem_iff.1 k1)with rfl | k1
      · exact absurd (List.mem_map.2 ⟨q',hq',by rw [<- k2,hi]⟩) h4'.1
      · exact⟨h',k1,k2⟩) hnd'.2 h4'.2 hK
    exact⟨e',m',L',r1,r2,[some h.blk] ++ u,by rw [r3,List.append_assoc]⟩
def Closed (ops:Array Oper) (listed:Array Bool):Prop:= ∀ j k,listed.getD j false=true->bndB ops j k=true->listed.getD k false=true
theorem Closed.anc {ops:Array Oper} {listed:Array Bool} (h:Closed ops listed) {j i:Nat} (ha:Anc ops j i):(∀ k,bndB ops j k=true->listed.getD k false=true)->listed.getD i false=true:=by
 induction ha with
 | base j i hb=>exact fun hj=>hj i hb
 | step j k i hb _ ih=>exact fun hj=>ih (fun q hq=>h k q (hj k hb) hq)
theorem Closed.set {ops:Array Oper} {listed:Array Bool} (h:Closed ops listed) {i:Nat} (hi:i ∈ Region.ready .any ops listed):Closed ops (listed.setIfInBounds i true):=by
 have up:∀ k,listed.getD k false=true->(listed.setIfInBounds i true).getD k false=true:=by
  intro k hk
  by_cases hki:k=i
  · subst hki
    have:k<listed.size:=by
     rcases Nat.lt_or_ge k listed.size with h1 | h1
     · exact h1
     · rw [Array.getD_eq_getD_getElem?,Array.getElem?_eq_none h1]at hk;simp at hk
    rw [Array.getD_eq_getD_getElem?,Array.getElem?_setIfInBounds_self_of_lt this];rfl
  · rw [getD_set_ne false (Ne.symm hki)];exact hk
 intro j k hj hb
 by_cases hji:j=i
 · subst hji
   obtain⟨_,oj,h2,h3⟩:=mem_ready.1 hi
   unfold bndB at hb
   rw [h2]at hb
   simp only at hb
   obtain⟨ed,he1,he2⟩:=Array.any_eq_true'.1 hb
   simp only [Bool.and_eq_true,beq_iff_eq]at he2
   rw [<- he2.2]
   exact up _ (h3 ed he1 he2.1)
 · rw [getD_set_ne false (Ne.symm hji)]at hj
   exact up k (h j k hj hb)
structure Lst (ops:Array Oper) (LC Ex:List Nat) (listed:Array Bool):Prop where
 closed:Closed ops listed
 size:listed.size=ops.size
 iff:∀ j,j<ops.size->(listed.getD j false=true ↔ j ∈ LC\/j ∈ Ex)
theorem getD_lt {listed:Array Bool} {j:Nat} (h:listed.getD j false=true):j<listed.size:=by
 rcases Nat.lt_or_ge j listed.size with h1 | h1
 · exact h1
 · rw [Array.getD_eq_getD_getElem?,Array.getElem?_eq_none h1]at h;simp at h
theorem getD_tf {listed:Array Bool} {j:Nat} (h:j<listed.size):listed.getD j true=listed.getD j false:=by
 simp [Array.getD_eq_getD_getElem?,h]
theorem Lst.ready {LC Ex:List Nat} {listed:Array Bool} (hl:Lst ops LC Ex listed) {j:Nat} (h:j ∈ Region.ready .any ops listed):j<ops.size/\j ∉ LC/\j ∉ Ex/\∃ oj,ops[j]? = some oj/\∀ e,e ∈ oj.after->Region.binds .any e=true->e.on ∈ LC\/e.on ∈ Ex:=by
 obtain⟨h1,oj,h2,h3⟩:=mem_ready.1 h
 have hlt:=(Array.getElem?_eq_some_iff.1 h2).1
 rw [getD_tf (by rw [hl.size];exact hlt)]at h1
 have hn:¬ (j ∈ LC\/j ∈ Ex):=fun hj=>by rw [(hl.iff j hlt).2 hj]at h1;cases h1
 refine⟨hlt,fun h=>hn (.inl h),fun h=>hn (.inr h),oj,h2,fun e he hb=> ?_⟩
 have:=h3 e he hb
 exact(hl.iff _ (by rw [<- hl.size];exact getD_lt this)).1 this
theorem Lst.mk_ready {LC Ex:List Nat} {listed:Array Bool} (hl:Lst ops LC Ex listed) {j:Nat} (hlt:j<ops.size) (h1:j ∉ LC) (h2:j ∉ Ex) {S:List Nat} (hp:prIn ops j S=true) (hS:∀ x,x ∈ S->x<ops.size/\(x ∈ LC\/x ∈ Ex)):j ∈ Region.ready .any ops listed:=by
 refine mem_ready.2 ⟨?_,ops[j],Array.getElem?_eq_getElem hlt,fun e he hb=> ?_⟩
 · rw [getD_tf (by rw [hl.size];exact hlt)]
   cases h:listed.getD j false with
   | false=>rfl
   | true=>exact ((hl.iff j hlt).1 h).elim (fun h=>absurd h h1) (fun h=>absurd h h2)
 · unfold prIn at hp
   rw [Array.getElem?_eq_getElem hlt]at hp
   simp only at hp
   have:=Array.all_eq_true'.1 hp e he
   rw [hb]at this
   simp only [Bool.not_true,Bool.false_or]at this
   obtain⟨k1,k2⟩:=hS e.on (by simpa using this)
   exact(hl.iff _ k1).2 k2
theorem Lst.setL {LC Ex:List Nat} {listed:Array Bool} (hl:Lst ops LC Ex listed) {i:Nat} (hi:i<ops.size) (hr:i ∈ Region.ready .any ops listed):Lst ops (i::LC) Ex (listed.setIfInBounds i true):=by
 refine⟨hl.closed.set hr,by rw [Array.size_setIfInBounds];exact hl.size,fun j hj=> ?_⟩
 by_cases hji:j=i
 · subst hji
   rw [Array.getD_eq_getD_getElem?,Array.getElem?_setIfInBounds_self_of_lt (by rw [hl.size];exact hi)]
   simp
 · rw [getD_set_ne false (Ne.symm hji),hl.iff j hj]
   simp [hji]
theorem Lst.setE {LC Ex:List Nat} {listed:Array Bool} (hl:Lst ops LC Ex listed) {i:Nat} (hi:i<ops.size) (hr:i ∈ Region.ready .any ops listed):Lst ops LC (i::Ex) (listed.setIfInBounds i true):=by
 refine⟨hl.closed.set hr,by rw [Array.size_setIfInBounds];exact hl.size,fun j hj=> ?_⟩
 by_cases hji:j=i
 · subst hji
   rw [Array.getD_eq_getD_getElem?,Array.getElem?_setIfInBounds_self_of_lt (by rw [hl.size];exact hi)]
   simp
 · rw [getD_set_ne false (Ne.symm hji),hl.iff j hj]
   simp [hji]
theorem prIn_of {j:Nat} {oj:Oper} (hoj:ops[j]? = some oj) {S:List Nat} (h:∀ e,e ∈ oj.after->Region.binds .any e=true->e.on ∈ S):prIn ops j S=true:=by
 unfold prIn
 rw [hoj]
 simp only
 rw [Array.all_eq_true']
 intro e he
 cases hb:Region.binds .any e with
 | false=>rfl
 | true=>simpa using h e he hb
theorem first_ready {LC Ex:List Nat} {listed:Array Bool} (hl:Lst ops LC Ex listed):∀ {T S:List Nat},chkT ops T S=true->(∀ x,x ∈ T->x<ops.size/\x ∉ LC)->(∀ x,x ∈ S->x<ops.size/\(x ∈ LC\/x ∈ Ex))->(∃ t,t ∈ T/\t ∉ Ex)->∃ j,j ∈ Region.ready .any ops listed
  | [],S,_,_,_,⟨t,h,_⟩=>by simp at h
  | t :: ts, S, hc, hT, hS, hex => by
    simp only [chkT,Bool.and_eq_true]at hc
    by_cases ht:t ∈ Ex
    · refine first_ready hl hc.2 (fun x hx=>hT x (.tail _ hx)) (fun x hx=> ?_) ?_
      · rcases List.mem_cons.1 hx with rfl | hx
        · exact⟨(hT x (.head _)).1,.inr ht⟩
        · exact hS x hx
      · obtain⟨u,hu,hu2⟩:=hex
        rcases List.mem_cons.1 hu with rfl | hu
        · exact absurd ht hu2
        · exact⟨u,hu,hu2⟩
    · exact⟨t,hl.mk_ready (hT t (.head _)).1 (hT t (.head _)).2 ht hc.1 hS⟩
theorem HRel.rel {C:Ctx} {e:Env} {m:Mem} {a:Act} {w:World} {L:Lay} (H:HRel C n [] e m a w L):Rel C n e m a w L:=
 ⟨H.size,H.defers,H.memC,fun t=>(H.env t).less (fun b hb=>hb.imp .inl id)⟩
theorem tF {fs:FS} {pv:List Nat} {i:Nat} {ao:AOpr} (h:dstNot l fs pv i=true) (hao:l[i]? = some ao):∀ d,ao.dst=some d->d ∉ pv/\fdNe l fs d=true:=by
 intro d hd
 unfold dstNot at h
 rw [hao]at h
 simp only [hd,Bool.and_eq_true,Bool.not_eq_true']at h
 exact⟨by have:=h.1;simpa using this,h.2⟩
def qP (P:Program) (ops:Array Oper) (Q:Exit->Act->World->Prop) (S:World->Prop) (isL nd:Nat->Bool):Nat->Array Bool->Act->World->Prop
  | 0,listed,a,w=>Region.ready .any ops listed= [] /\ Q .normal a w
  | fuel + 1, listed, a, w =>
    (Region.ready .any ops listed= [] -> Q .normal a w)/\
    ∀ i ∈ Region.ready .any ops listed,wpOp P ops Q i (fun a' w'=>((isL i=true->w'=w)/\(isL i=false->nd i=true->S w'))/\qP P ops Q S isL nd fuel (listed.setIfInBounds i true) a' w') a w
theorem wpAny_of_N {Q:Exit->Act->World->Prop} {S:World->Prop} {isL nd:Nat->Bool}:∀ (fuel:Nat) (listed:Array Bool) (a:Act) (w:World),qP P ops Q S isL nd fuel listed a w->wpAny P .any ops Q fuel listed a w
 | 0,_,_,_,h=>h
 | fuel+1,_,_,_,h=>⟨h.1,fun i hi=>wpOp_mono (fun a' w' h'=>wpAny_of_N fuel _ a' w' h'.2) (h.2 i hi)⟩
theorem wpAnyN_first {Q:Exit->Act->World->Prop} {S S':World->Prop} {isL nd:Nat->Bool} {i:Nat} {oi:Oper} {v:Value} (hi:ops[i]? = some oi) (hiL:isL i=true) (hsel:∀ (j:Nat) (o:Oper) cs b,ops[j]? = some o->o.op ≠ .select cs b)
    (hQ:∀ c a w,Q (.panic c) (a.put oi.dst v) w->Q (.panic c) a w) (hSS:(∀ w,S' w)\/((∀ w,S w->S' w)/\∀ j,nd j=false->Anc ops j i)):
    ∀ (fuel : Nat) (listed : Array Bool) (a : Act) (w : World), Closed ops listed →
      (∀ j oj,ops[j]? = some oj->j ≠ i->listed.getD j true=false->(∀ e ∈ oj.after,Region.binds .any e=true->e.on ≠ i)->oi.apart ops oj=true)->
      i ∈ Region.ready .any ops listed->YieldsIf P ops S' oi v a->S' w->
      qP P ops Q S isL nd fuel (listed.setIfInBounds i true) (a.put oi.dst v) w->qP P ops Q S isL nd (fuel+1) listed a w:=by
  intro fuel
  induction fuel with
  | zero =>
    intro listed a w _ _ hr hy hS H
    refine⟨fun h=>(by rw [h]at hr;cases hr),fun j hj=> ?_⟩
    by_cases hji:j=i
    · subst hji;exact hy.wpOp hi hS ⟨⟨fun _=>rfl,fun h=>by rw [hiL]at h;cases h⟩,H⟩
    · have:=ready_mono hj hji
      rw [H.1]at this
      cases this
  | succ fuel ih =>
    intro listed a w hcl hfree hr hy hS H
    refine⟨fun h=>(by rw [h]at hr;cases hr),fun j hj=> ?_⟩
    by_cases hji:j=i
    · subst hji;exact hy.wpOp hi hS ⟨⟨fun _=>rfl,fun h=>by rw [hiL]at h;cases h⟩,H⟩
    · have h1:=H.2 j (ready_mono hj hji)
      obtain⟨hjun,oj,hoj,hall⟩:=mem_ready.1 hj
      have hiun:¬ listed.getD i false=true:=fun h=>by
        have h0:=(mem_ready.1 hr).1
        rcases Nat.lt_or_ge i listed.size with h' | h'
        · simp [Array.getD_eq_getD_getElem?,h']at h0 h;rw [h0]at h;cases h
        · simp [Array.getD_eq_getD_getElem?,Array.getElem?_eq_none h']at h
      have hdir:∀ k,bndB ops j k=true->listed.getD k false=true:=fun k hb=>by
        unfold bndB at hb
        rw [hoj]at hb
        simp only at hb
        obtain⟨ed,he1,he2⟩:=Array.any_eq_true'.1 hb
        simp only [Bool.and_eq_true,beq_iff_eq]at he2
        rw [<- he2.2]
        exact hall ed he1 he2.1
      have hnot:∀ e ∈ oj.after,Region.binds .any e=true->e.on ≠ i:=fun e he hb heq=>hiun (by rw [<- heq];exact hall e he hb)
      have hS2:∀ w',((isL j=true->w'=w)/\(isL j=false->nd j=true->S w'))->S' w':=fun w' hw'=>by
        rcases hSS with h | ⟨h,h'⟩
        · exact h w'
        · cases hL:isL j with
          | true=>rw [hw'.1 hL];exact hS
          | false =>
            refine h w' (hw'.2 hL ?_)
            cases hn:nd j with
            | true=>rfl
            | false=>exact absurd (hcl.anc (h' j hn) hdir) hiun
      have h2:=wpOp_putIf hoj (hfree j oj hoj hji hjun hnot) (fun cs b=>hsel i oi cs b hi) (fun cs b=>hsel j oj cs b hoj) hQ hy h1
      have hfree':∀ k ok,ops[k]? = some ok->k ≠ i->(listed.setIfInBounds j true).getD k true=false->
          (∀ e ∈ ok.after,Region.binds .any e=true->e.on ≠ i)->oi.apart ops ok=true:=fun k ok hk hki hun hno=>by
        refine hfree k ok hk hki ?_ hno
        by_cases hjk:j=k
        · subst hjk;exact hjun
        · rw [getD_set_ne true hjk]at hun;exact hun
      refine wpOp_mono (fun a' w' h3=>⟨h3.2.1,ih (listed.setIfInBounds j true) a' w' (hcl.set hj) hfree' (ready_mono hr (Ne.symm hji)) h3.1 (hS2 w' h3.2.1) ?_⟩) h2
      rw [Array.setIfInBounds_comm _ _ hji]
      exact h3.2.2
theorem wpAnyN_done {Q:Exit->Act->World->Prop} {S:World->Prop} {isL nd:Nat->Bool} {listed:Array Bool} {a:Act} {w:World} (hr:Region.ready .any ops listed= []) (h:Q .normal a w):∀ fuel,qP P ops Q S isL nd fuel listed a w
 | 0=>⟨hr,h⟩
 | _+1=>⟨fun _=>h,by rw [hr];simp⟩
theorem run_step {lkA lk:List Nat} {fs0:FS} {Kf:Env->Mem->Prop} {Qf:Act->World->Prop} {i:Nat} {p:DPlan} {fs:FS} {Ex LC pre pv:List Nat} {fuel:Nat} {kp kc:Bool}
    (ih : ∀ (listed : Array Bool) (ps : List (Nat × AV)) (hs : List HB) (e g : Env) (m : Mem) (a : Act) (w : World) (L : Lay), St C0 m0 w0 L0 n l keep (kc && kp) fs pre pv Ex ps hs e g m a w L → Lst ops (i :: LC) Ex listed →
        jR P l keep (flM keep m0) m0 fs0 Kf p ps e g m->qP P ops (fun x a w=>x= .normal/\Qf a w) (SP (C0.here m0 w0 L0) keep m0) lkA.contains (ndB1 ops lk) fuel listed a w)
    (ckA:lkA.contains i=false) (ckc:(kc || !kp)=true) (ckp:(kp || !(ndB1 ops lk i))=true) (c1:chkI P n ops l i=true) (c6:dstNot l fs pv i=true)
    {listed:Array Bool} {ps:List (Nat × AV)} {hs:List HB} {e g:Env} {m:Mem} {a:Act} {w:World} {L:Lay} (S:St C0 m0 w0 L0 n l keep kc fs pre pv Ex ps hs e g m a w L) (hl:Lst ops LC Ex listed) (hir:i ∈ Region.ready .any ops listed)
    (hvc:match l[i]? with | some o=>vcOp P o e m fun e' m'=>keepK keep kp m0 m' (match o.dst with | none=>jR P l keep (flM keep m0) m0 fs0 Kf p ps e' g m' | some d=>putK g (some d) (flt (e'.get d)) fun g'=>jR P l keep (flM keep m0) m0 fs0 Kf p ps e' g' m') | none=>False):
    wpOp P ops (fun x a w=>x= .normal/\Qf a w) i (fun a' w'=>((lkA.contains i=true->w'=w)/\(lkA.contains i=false->ndB1 ops lk i=true->SP (C0.here m0 w0 L0) keep m0 w'))/\qP P ops (fun x a w=>x= .normal/\Qf a w) (SP (C0.here m0 w0 L0) keep m0) lkA.contains (ndB1 ops lk) fuel (listed.setIfInBounds i true) a' w') a w:=by
  obtain⟨o,ao,ho,hao,hco⟩:=mF c1
  have hilt:=(Array.getElem?_eq_some_iff.1 ho).1
  obtain⟨hde,hdn,hop⟩:=uT hco
  have hdN:=tF c6 hao
  rw [hao]at hvc
  simp only at hvc
  unfold wpOp
  rw [ho]
  simp only
  have hop':=op_sound (P:=P) (C:=CX (C0.here m0 w0 L0) hs m w L) (ops:=ops) (o:=o) (Q:=fun x a w=>x= .normal/\Qf a w)
    (next:=fun a' w'=>((lkA.contains i=true->w'=w)/\(lkA.contains i=false->ndB1 ops lk i=true->SP (C0.here m0 w0 L0) keep m0 w'))/\qP P ops (fun x a w=>x= .normal/\Qf a w) (SP (C0.here m0 w0 L0) keep m0) lkA.contains (ndB1 ops lk) fuel (listed.setIfInBounds i true) a' w')
    ⟨S.H.size,S.H.defers,S.H.memX,S.H.env⟩ hco hvc (fun e' m' r w' L' hk hr hun=>by
      obtain⟨hk1,hk2⟩:=xC hk
      have H':HRel (C0.here m0 w0 L0) n hs e' m' (a.put o.dst r) w' L':=S.H.step hr.mem hr.env hr.size hr.defers (fun h hh=>by
        rw [hde]
        cases hq:ao.dst with
        | none=>rfl
        | some d =>
          obtain⟨_,q,q1,q2,blk0,q3,_⟩:=S.hmem h hh
          rw [<- q2]at q3
          exact dX (fun h5=>jZ (hdN d hq).2 q1 q3 h5))
      obtain⟨g',hg1,hg2,hg3⟩ :∃ g',jR P l keep (flM keep m0) m0 fs0 Kf p ps e' g' m'/\GR (C0.here m0 w0 L0) m0 w0 L0 g' (a.put o.dst r)/\(∀ d,g.get d= .un->ao.dst ≠ some d->g'.get d= .un):=by
        cases hq:ao.dst with
        | none =>
          rw [hq]at hk2
          refine⟨g,hk2,?_,fun d h _=>h⟩
          rw [hde,hq];exact S.G
        | some d =>
          rw [hq]at hk2
          simp only [jF]at hk2
          refine⟨_,hk2,fun t=> ?_,fun d' hd' hne=>lU hd' hne⟩
          rcases Env.set_upd g d (flt (e'.get d)) t with h | ⟨h1,h2⟩ | ⟨h1,h2⟩
          · rw [show (putE g (some d) (flt (e'.get d))).get t= .un from h];exact .un _
          · rw [show (putE g (some d) (flt (e'.get d))).get t=g.get t from h2,hde,hq,dX h1];exact S.G t
          · rw [show (putE g (some d) (flt (e'.get d))).get t=_ from h2,h1];exact flt_vr (hr.env d)
      have S':St C0 m0 w0 L0 n l keep (kc && kp) fs pre pv Ex ps hs e' g' m' (a.put o.dst r) w' L':=⟨H',hg2,fun h=>hk1 (by simp only [Bool.and_eq_true]at h;exact h.2),fun q hq d val blk hf=>by
        obtain⟨u1,u2⟩:=S.eun q hq d val blk hf
        have:ao.dst ≠ some d:=fun h=>jZ (hdN _ h).2 hq hf rfl
        exact⟨hun d u1 this,hg3 d u2 this⟩,S.ex,S.hmem,S.hall,S.hnd,S.sf,fun s hs'=>by
        obtain⟨f,d',val',blk',v,sz,sv,b,p1,p2,p3,p4,p5,p6,p7,p8,p9,p10⟩:=S.pps s hs'
        refine⟨f,d',val',blk',v,sz,sv,b,p1,p2,p3,p4,p5,p6,p7,?_,p9,p10⟩
        rw [hde]
        cases hq:ao.dst with
        | none=>exact p8
        | some d=>rw [dX (fun h=>(hdN d hq).1 (by rw [<- h];exact p9))];exact p8⟩
      exact⟨⟨fun h=>absurd (ckA.symm.trans h) Bool.false_ne_true,fun _ h=>by
        have h1:kp=true:=by rw [h]at ckp;simpa using ckp
        have h2:kc=true:=by rw [h1]at ckc;simpa using ckc
        exact⟨_,keepS S'.H.memC (S'.keepc (by rw [h1,h2];rfl))⟩⟩,ih _ ps hs e' g' m' _ w' L' S' (hl.setL hilt hir) hg1⟩)
  split
  · rename_i hw;rw [if_pos hw]at hop';exact .inl hop'
  · rename_i hw;rw [if_neg hw]at hop';exact⟨⟨fun _=>trivial,hop'.1.2⟩,hop'.2⟩
theorem plan_sound {lkA lk:List Nat} (hR0:MRel (C0.here m0 w0 L0) m0 w0 L0) (hns:Region.noSelect ops=true) {fs0:FS} {Kf:Env->Mem->Prop} {Qf:Act->World->Prop} (hK:∀ e m a w L,Kf e m->Rel (C0.here m0 w0 L0) n e m a w L->Qf a w):
    ∀ (p : DPlan) (kc : Bool) (fs : FS) (LC pre pv : List Nat), (fs = fs0 ∨ fs = []) → chkFS P n ops l fs = true → jH P n ops l lkA lk p kc fs LC pre pv = true → (∀ j, j ∈ LC → j < ops.size ∧ j ∉ fsI fs) → (∀ j, j ∈ fsI fs → j < ops.size ∧ lkA.contains j = false) →
      ∀ (fuel : Nat) (listed : Array Bool) (Ex : List Nat) (ps : List (Nat × AV)) (hs : List HB) (e g : Env) (m : Mem) (a : Act) (w : World) (L : Lay), St C0 m0 w0 L0 n l keep kc fs pre pv Ex ps hs e g m a w L → Ex.Nodup → p.need + (fsI fs).length ≤ fuel + Ex.length → Lst ops LC Ex listed →
        jR P l keep (flM keep m0) m0 fs0 Kf p ps e g m->qP P ops (fun x a w=>x= .normal/\Qf a w) (SP (C0.here m0 w0 L0) keep m0) lkA.contains (ndB1 ops lk) fuel listed a w:=by
  have exSub:∀ {kc:Bool} {fs:FS} {pre pv Ex ps hs e g m a w L},St C0 m0 w0 L0 n l keep kc fs pre pv Ex ps hs e g m a w L->∀ j,j ∈ Ex->j ∈ fsI fs:=by
    intro kc fs pre pv Ex ps hs e g m a w L S j hj
    rcases S.ex j hj with⟨q,h1,h2⟩ | h1
    · exact kZ.2 (.inl ⟨q,h1,h2⟩)
    · obtain⟨f,_,_,_,_,_,_,_,p1,_⟩:=S.pps j h1
      exact kZ.2 (.inr ⟨_,p1,rfl⟩)
  have toS:∀ {kc:Bool} {fs:FS} {pre pv Ex ps hs e g m a w L},St C0 m0 w0 L0 n l keep kc fs pre pv Ex ps hs e g m a w L->kc=true->SP (C0.here m0 w0 L0) keep m0 w:=fun S hk=>⟨_,keepS S.H.memC (S.keepc hk)⟩
  intro p
  induction p with
  | flat=>intro kc fs LC pre pv _ _ hc;simp [jH]at hc
  | done =>
    intro kc fs LC pre pv _ _ hc hLC hfl fuel listed Ex ps hs e g m a w L S hnd hfuel hl hvc
    simp only [jH,Bool.and_eq_true,List.isEmpty_iff]at hc
    obtain⟨rfl,hall⟩:=hc
    refine wpAnyN_done ?_ ⟨rfl,hK e m a w L hvc ?_⟩ _
    · cases hr:Region.ready .any ops listed with
      | nil=>rfl
      | cons j r =>
        obtain⟨h1,h2,_⟩:=hl.ready (j:=j) (by rw [hr];exact .head _)
        have:=List.all_eq_true.1 hall j (List.mem_range.2 h1)
        exact absurd (by simpa using this) h2
    · have:hs= [] :=by
        cases hs with
        | nil=>rfl
        | cons h r=>obtain ⟨_,q,hq,_⟩:=S.hmem h (.head _);simp at hq
      subst this
      exact S.H.rel
  | look i p ih =>
    intro kc fs LC pre pv hfs0 hfs hc hLC hfl fuel listed Ex ps hs e g m a w L S hnd hfuel hl hvc
    simp only [jH,Bool.and_eq_true,Bool.not_eq_true']at hc
    obtain⟨clA,clk,c1,c2,c3,c4,c5,c6,c7⟩:=hc
    have c2':i ∉ LC:=by simpa using c2
    have c3':i ∉ fsI fs:=by simpa using c3
    obtain⟨o,ao,ho,hao,hco⟩:=mF c1
    have hilt:=(Array.getElem?_eq_some_iff.1 ho).1
    obtain⟨hde,hdn,hop⟩:=uT hco
    have hdN:=tF c6 hao
    change (match l[i]? with | some o=>vcLook o e g m (flM keep m0) fun e g=>jR P l keep (flM keep m0) m0 fs0 Kf p ps e g m | none=>False)at hvc
    rw [hao]at hvc
    simp only at hvc
    have hExLen:=eS hnd (exSub S)
    simp only [DPlan.need]at hfuel
    obtain⟨fuel,rfl⟩ :∃ f,fuel=f+1:=⟨fuel - 1,by omega⟩
    obtain⟨r,e',g',k1,k2,k3,k4,k5,k6,k7⟩:=look_sound hR0 S.H S.G hco (ops:=ops) (fun h hh hd=>by
      obtain⟨_,q,q1,q2,blk0,q3,_⟩:=S.hmem h hh
      rw [<- q2]at q3
      exact jZ (hdN _ hd).2 q1 q3 rfl) hvc
    have hiEx:i ∉ Ex:=fun h=>c3' (exSub S i h)
    have hready:i ∈ Region.ready .any ops listed:=hl.mk_ready hilt c2' hiEx c4 (fun x hx=>⟨(hLC x hx).1,.inl hx⟩)
    have hfree:Region.free .any ops listed i=true:=by
      unfold Region.free
      rw [ho]
      simp only
      rw [List.all_eq_true]
      intro j hj
      have:=List.all_eq_true.1 c5 j hj
      have hjlt:=List.mem_range.1 hj
      simp only [Bool.or_eq_true,beq_iff_eq]at this ⊢
      rcases this with h | h | h | h
      · exact .inl (.inl h)
      · refine .inl (.inr ?_)
        rw [getD_tf (by rw [hl.size];exact hjlt)]
        exact(hl.iff j hjlt).2 (.inl (by simpa using h))
      · right
        unfold bndB at h
        rw [Array.getElem?_eq_getElem hjlt]at h ⊢
        simp only [Bool.or_eq_true]at h ⊢
        exact .inl h
      · right
        unfold apt at h
        rw [ho,Array.getElem?_eq_getElem hjlt]at h
        rw [Array.getElem?_eq_getElem hjlt]
        simp only [Bool.or_eq_true]at h ⊢
        exact .inr h
    have hregI:regI l i=uJ ao.op:=by unfold regI;rw [hao]
    refine wpAnyN_first ho clA (Region.noSelect_spec hns) (fun c a w h=>by cases h.1) (S':=fun w'=>uJ ao.op=true\/SP (C0.here m0 w0 L0) keep m0 w') ?_ fuel listed a w hl.closed (Region.free_spec ho hfree) hready k1 ?_ ?_
    · simp only [Bool.or_eq_true,Bool.and_eq_true]at clk
      rcases clk with h | ⟨_,h⟩
      · exact .inl fun w=> .inl (by rw [<- hregI];exact h)
      · refine .inr ⟨fun w h=> .inr h,fun j hj=> ?_⟩
        unfold ndB1 at hj
        simp only [Bool.not_eq_false']at hj
        exact bndT_anc (List.all_eq_true.1 hj i (by simpa using h))
    · simp only [Bool.or_eq_true,Bool.and_eq_true]at clk
      rcases clk with h | ⟨h,_⟩
      · exact .inl (by rw [<- hregI];exact h)
      · exact .inr (toS S h)
    · refine ih kc fs (i::LC) pre pv hfs0 hfs c7 (fun j hj=> ?_) hfl fuel _ Ex ps hs e' g' m (a.put o.dst r) w L ⟨k3,k4,S.keepc,fun q hq d val blk hf=> ?_,S.ex,S.hmem,S.hall,S.hnd,S.sf,fun s hs'=> ?_⟩ hnd (by omega) (hl.setL hilt hready) k2
      · rcases List.mem_cons.1 hj with rfl | hj
        · exact⟨hilt,c3'⟩
        · exact hLC j hj
      · obtain⟨u1,u2⟩:=S.eun q hq d val blk hf
        have:ao.dst ≠ some d:=fun h=>jZ (hdN _ h).2 hq hf rfl
        exact⟨k6 d u1 this,k7 d u2 this⟩
      · obtain⟨f,d',val',blk',v,sz,sv,b,p1,p2,p3,p4,p5,p6,p7,p8,p9,p10⟩:=S.pps s hs'
        refine⟨f,d',val',blk',v,sz,sv,b,p1,p2,p3,p4,p5,p6,p7,?_,p9,p10⟩
        rw [hde]
        cases hq:ao.dst with
        | none=>exact p8
        | some d=>rw [dX (fun h=>(hdN d hq).1 (by rw [<- h];exact p9))];exact p8
  | run i kp p ih =>
    intro kc fs LC pre pv hfs0 hfs hc hLC hfl fuel listed Ex ps hs e g m a w L S hnd hfuel hl hvc
    simp only [jH,Bool.and_eq_true,Bool.not_eq_true']at hc
    obtain⟨ckA,ckp,ck1,ck2,c1,c2,c3,c4,c5,c6,c7⟩:=hc
    have c2':i ∉ LC:=by simpa using c2
    have c3':i ∉ fsI fs:=by simpa using c3
    obtain⟨o,ao,ho,hao,hco⟩:=mF c1
    have hilt:=(Array.getElem?_eq_some_iff.1 ho).1
    obtain⟨hde,hdn,hop⟩:=uT hco
    have hdN:=tF c6 hao
    have hkp:ndB1 ops lk i=true->kp=true:=fun h=>by rw [h]at ckp;simpa using ckp
    change (match l[i]? with | some o=>vcOp P o e m fun e' m'=>keepK keep kp m0 m' (match o.dst with | none=>jR P l keep (flM keep m0) m0 fs0 Kf p ps e' g m' | some d=>putK g (some d) (flt (e'.get d)) fun g'=>jR P l keep (flM keep m0) m0 fs0 Kf p ps e' g' m') | none=>False)at hvc
    rw [hao]at hvc
    simp only at hvc
    simp only [DPlan.need]at hfuel
    induction fuel generalizing listed Ex hs a w with
    | zero=>have:=eS hnd (exSub S);omega
    | succ fuel ihf =>
      have hiEx:i ∉ Ex:=fun h=>c3' (exSub S i h)
      have hir:=hl.mk_ready hilt c2' hiEx c4 (fun x hx=>⟨(hLC x hx).1,.inl hx⟩)
      refine⟨fun h0=>by rw [h0]at hir;simp at hir,fun j hj=> ?_⟩
      obtain⟨j1,j2,j3,oj,j4,j5⟩:=hl.ready hj
      by_cases hji:j=i
      · subst hji
        unfold wpOp
        rw [ho]
        simp only
        have hop':=op_sound (P:=P) (C:=CX (C0.here m0 w0 L0) hs m w L) (ops:=ops) (o:=o) (Q:=fun x a w=>x= .normal/\Qf a w)
          (next:=fun a' w'=>((lkA.contains j=true->w'=w)/\(lkA.contains j=false->ndB1 ops lk j=true->SP (C0.here m0 w0 L0) keep m0 w'))/\qP P ops (fun x a w=>x= .normal/\Qf a w) (SP (C0.here m0 w0 L0) keep m0) lkA.contains (ndB1 ops lk) fuel (listed.setIfInBounds j true) a' w')
          ⟨S.H.size,S.H.defers,S.H.memX,S.H.env⟩ hco hvc (fun e' m' r w' L' hk hr hun=>by
            have hkeep:((kc && kp)=true->keepR keep m0 m')/\(match ao.dst with | none=>jR P l keep (flM keep m0) m0 fs0 Kf p ps e' g m' | some d=>putK g (some d) (flt (e'.get d)) fun g'=>jR P l keep (flM keep m0) m0 fs0 Kf p ps e' g' m'):=
              ⟨fun h1=>(xC hk).1 (by simp only [Bool.and_eq_true]at h1;exact h1.2),(xC hk).2⟩
            obtain⟨hk1,hk2⟩:=hkeep
            have H':HRel (C0.here m0 w0 L0) n hs e' m' (a.put o.dst r) w' L':=S.H.step hr.mem hr.env hr.size hr.defers (fun h hh=>by
              rw [hde]
              cases hq:ao.dst with
              | none=>rfl
              | some d =>
                obtain⟨_,q,q1,q2,blk0,q3,_⟩:=S.hmem h hh
                rw [<- q2]at q3
                exact dX (fun h5=>jZ (hdN d hq).2 q1 q3 h5))
            obtain⟨g',hg1,hg2,hg3⟩ :∃ g',jR P l keep (flM keep m0) m0 fs0 Kf p ps e' g' m'/\GR (C0.here m0 w0 L0) m0 w0 L0 g' (a.put o.dst r)/\(∀ d,g.get d= .un->ao.dst ≠ some d->g'.get d= .un):=by
              cases hq:ao.dst with
              | none =>
                rw [hq]at hk2
                refine⟨g,hk2,?_,fun d h _=>h⟩
                rw [hde,hq];exact S.G
              | some d =>
                rw [hq]at hk2
                simp only [jF]at hk2
                refine⟨_,hk2,fun t=> ?_,fun d' hd' hne=>lU hd' hne⟩
                rcases Env.set_upd g d (flt (e'.get d)) t with h | ⟨h1,h2⟩ | ⟨h1,h2⟩
                · rw [show (putE g (some d) (flt (e'.get d))).get t= .un from h];exact .un _
                · rw [show (putE g (some d) (flt (e'.get d))).get t=g.get t from h2,hde,hq,dX h1];exact S.G t
                · rw [show (putE g (some d) (flt (e'.get d))).get t=_ from h2,h1];exact flt_vr (hr.env d)
            have S':St C0 m0 w0 L0 n l keep (kc && kp) fs pre pv Ex ps hs e' g' m' (a.put o.dst r) w' L':=⟨H',hg2,hk1,fun q hq d val blk hf=>by
              obtain⟨u1,u2⟩:=S.eun q hq d val blk hf
              have:ao.dst ≠ some d:=fun h=>jZ (hdN _ h).2 hq hf rfl
              exact⟨hun d u1 this,hg3 d u2 this⟩,S.ex,S.hmem,S.hall,S.hnd,S.sf,fun s hs'=>by
              obtain⟨f,d',val',blk',v,sz,sv,b,p1,p2,p3,p4,p5,p6,p7,p8,p9,p10⟩:=S.pps s hs'
              refine⟨f,d',val',blk',v,sz,sv,b,p1,p2,p3,p4,p5,p6,p7,?_,p9,p10⟩
              rw [hde]
              cases hq:ao.dst with
              | none=>exact p8
              | some d=>rw [dX (fun h=>(hdN d hq).1 (by rw [<- h];exact p9))];exact p8⟩
            exact⟨⟨fun h=>absurd (ckA.symm.trans h) Bool.false_ne_true,fun _ hnd'=>toS S' (by
              have hkt:kp=true:=hkp hnd'
              have:kc=true:=by
                simp only [hkt,Bool.not_true,Bool.false_and,Bool.or_false]at ck1
                exact ck1
              rw [this,hkt];rfl)⟩,ih (kc && kp) fs (j::LC) pre pv hfs0 hfs c7 (fun x hx=>by
              rcases List.mem_cons.1 hx with rfl | hx
              · exact⟨hilt,c3'⟩
              · exact hLC x hx) hfl fuel _ Ex ps hs e' g' m' _ w' L' S' hnd (by omega) (hl.setL hilt hir) hg1⟩)
        split
        · rename_i hw;rw [if_pos hw]at hop';exact .inl hop'
        · rename_i hw;rw [if_neg hw]at hop';exact⟨⟨fun _=>trivial,hop'.1.2⟩,hop'.2⟩
      · have hsafe:=List.all_eq_true.1 c5 j (List.mem_range.2 j1)
        simp only [Bool.or_eq_true,beq_iff_eq,Bool.not_eq_true']at hsafe
        have hpr:prIn ops j (LC++fsI fs)=true:=prIn_of j4 (fun e he hb=>(j5 e he hb).elim (fun h=>List.mem_append.2 (.inl h)) (fun h=>List.mem_append.2 (.inr (exSub S _ h))))
        have hjj:(∃ q,q ∈ fs/\q.1=j)\/(j ∈ pre/\∀ q,q ∈ fs->q.2=some j->q.1 ∈ Ex):=by
          rcases hsafe with h | h | h | h | h
          · exact absurd h hji
          · exact absurd (by simpa using h) j2
          · left
            obtain⟨q,h1,h2⟩:=List.mem_map.1 (show j ∈ fs.map (·.1) by simpa using h)
            exact⟨q,h1,h2⟩
          · refine .inr ⟨by simpa using h,fun q hq hs=> ?_⟩
            simp only [chkFS,Bool.and_eq_true]at hfs
            have:=List.all_eq_true.1 hfs.2.2 q hq
            simp only [hs,Bool.and_eq_true]at this
            have hb:=this.2.2.2.1
            unfold bndB at hb
            rw [j4]at hb
            simp only at hb
            obtain⟨ed,he1,he2⟩:=Array.any_eq_true'.1 hb
            simp only [Bool.and_eq_true,beq_iff_eq]at he2
            rcases j5 ed he1 he2.1 with h | h
            · rw [he2.2]at h
              exact absurd (kZ.2 (.inl ⟨q,hq,rfl⟩)) (hLC _ h).2
            · rw [<- he2.2];exact h
          · rw [hpr]at h;cases h
        have hfLA:lkA.contains j=false:=by
          refine(hfl j ?_).2
          rcases hjj with⟨q,h1,h2⟩ | ⟨hp,_⟩
          · exact kZ.2 (.inl ⟨q,h1,h2⟩)
          · obtain⟨f,_,_,_,_,_,_,_,p1,_⟩:=S.pps j hp
            exact kZ.2 (.inr ⟨_,p1,rfl⟩)
        have hkc:kc=true:=by
          simp only [Bool.or_eq_true,Bool.and_eq_true]at ck1
          rcases ck1 with h | h
          · exact h
          · have:fs= [] :=by simpa using h.2
            subst this
            rcases hjj with⟨q,hq,_⟩ | ⟨hp,_⟩
            · simp at hq
            · obtain⟨f,_,_,_,_,_,_,_,p1,_⟩:=S.pps j hp
              simp at p1
        refine S.fstep hfs j3 hjj (fun hs' a' w' S'=>⟨⟨fun h=>absurd (hfLA.symm.trans h) Bool.false_ne_true,fun _ _=>toS S' hkc⟩,?_⟩)
        exact ihf _ _ _ _ _ S' (List.nodup_cons.2 ⟨j3,hnd⟩) (by rw [List.length_cons];omega) (hl.setE j1 hj)
  | two kp i p j0 q0 ihp ihq =>
    intro kc fs LC pre pv hfs0 hfs hc hLC hfl fuel listed Ex ps hs e g m a w L S hnd hfuel hl hvc
    simp only [jH,Bool.and_eq_true,Bool.not_eq_true']at hc
    obtain⟨ck1,ck2,⟨a1,a2,a3,a4,a4',a5,a6,a7⟩,⟨b1,b2,b3,b4,b4',b5,b6,b7⟩,c5⟩:=hc
    have ck0:(kc || !kp)=true:=by
      simp only [Bool.or_eq_true,Bool.and_eq_true]at ck1 ⊢
      exact ck1.imp id (·.1)
    simp only [DPlan.need]at hfuel
    obtain⟨oi,_,hoi,_⟩:=mF a3
    obtain⟨oj,_,hoj,_⟩:=mF b3
    have hilt:=(Array.getElem?_eq_some_iff.1 hoi).1
    have hjlt:=(Array.getElem?_eq_some_iff.1 hoj).1
    obtain⟨v1,v2⟩ :(match l[i]? with | some o=>vcOp P o e m fun e' m'=>keepK keep kp m0 m' (match o.dst with | none=>jR P l keep (flM keep m0) m0 fs0 Kf p ps e' g m' | some d=>putK g (some d) (flt (e'.get d)) fun g'=>jR P l keep (flM keep m0) m0 fs0 Kf p ps e' g' m') | none=>False)/\
      (match l[j0]? with | some o=>vcOp P o e m fun e' m'=>keepK keep kp m0 m' (match o.dst with | none=>jR P l keep (flM keep m0) m0 fs0 Kf q0 ps e' g m' | some d=>putK g (some d) (flt (e'.get d)) fun g'=>jR P l keep (flM keep m0) m0 fs0 Kf q0 ps e' g' m') | none=>False):=hvc
    have hiE:i ∉ fsI fs:=by simpa using a4'
    have hjE:j0 ∉ fsI fs:=by simpa using b4'
    induction fuel generalizing listed Ex hs a w with
    | zero=>have:=eS hnd (exSub S);omega
    | succ fuel ihf =>
      have hir:=hl.mk_ready hilt (by simpa using a4) (fun h=>hiE (exSub S i h)) a5 (fun x hx=>⟨(hLC x hx).1,.inl hx⟩)
      refine⟨fun h0=>by rw [h0]at hir;simp at hir,fun j hj=> ?_⟩
      obtain⟨j1,j2,j3,oj,j4,j5⟩:=hl.ready hj
      by_cases hji:j=i
      · subst hji
        exact run_step (fun listed' ps' hs' e' g' m' a' w' L' S' hl' hv'=>ihp (kc && kp) fs (j::LC) pre pv hfs0 hfs a7 (fun x hx=>by
          rcases List.mem_cons.1 hx with rfl | hx
          · exact⟨hilt,hiE⟩
          · exact hLC x hx) hfl fuel listed' Ex ps' hs' e' g' m' a' w' L' S' hnd (by omega) hl' hv') a1 ck0 (by simpa using a2) a3 a6 S hl hj v1
      by_cases hjj0:j=j0
      · subst hjj0
        exact run_step (fun listed' ps' hs' e' g' m' a' w' L' S' hl' hv'=>ihq (kc && kp) fs (j::LC) pre pv hfs0 hfs b7 (fun x hx=>by
          rcases List.mem_cons.1 hx with rfl | hx
          · exact⟨hjlt,hjE⟩
          · exact hLC x hx) hfl fuel listed' Ex ps' hs' e' g' m' a' w' L' S' hnd (by omega) hl' hv') b1 ck0 (by simpa using b2) b3 b6 S hl hj v2
      · have hsafe:=List.all_eq_true.1 c5 j (List.mem_range.2 j1)
        simp only [Bool.or_eq_true,beq_iff_eq,Bool.not_eq_true']at hsafe
        have hpr:prIn ops j (LC++fsI fs)=true:=prIn_of j4 (fun e he hb=>(j5 e he hb).elim (fun h=>List.mem_append.2 (.inl h)) (fun h=>List.mem_append.2 (.inr (exSub S _ h))))
        have hjj:(∃ q,q ∈ fs/\q.1=j)\/(j ∈ pre/\∀ q,q ∈ fs->q.2=some j->q.1 ∈ Ex):=by
          rcases hsafe with h | h | h | h | h | h
          · exact absurd h hji
          · exact absurd h hjj0
          · exact absurd (by simpa using h) j2
          · left
            obtain⟨q,h1,h2⟩:=List.mem_map.1 (show j ∈ fs.map (·.1) by simpa using h)
            exact⟨q,h1,h2⟩
          · refine .inr ⟨by simpa using h,fun q hq hs=> ?_⟩
            simp only [chkFS,Bool.and_eq_true]at hfs
            have:=List.all_eq_true.1 hfs.2.2 q hq
            simp only [hs,Bool.and_eq_true]at this
            have hb:=this.2.2.2.1
            unfold bndB at hb
            rw [j4]at hb
            simp only at hb
            obtain⟨ed,he1,he2⟩:=Array.any_eq_true'.1 hb
            simp only [Bool.and_eq_true,beq_iff_eq]at he2
            rcases j5 ed he1 he2.1 with h | h
            · rw [he2.2]at h
              exact absurd (kZ.2 (.inl ⟨q,hq,rfl⟩)) (hLC _ h).2
            · rw [<- he2.2];exact h
          · rw [hpr]at h;cases h
        have hfLA:lkA.contains j=false:=by
          refine(hfl j ?_).2
          rcases hjj with⟨q,h1,h2⟩ | ⟨hp,_⟩
          · exact kZ.2 (.inl ⟨q,h1,h2⟩)
          · obtain⟨f,_,_,_,_,_,_,_,p1,_⟩:=S.pps j hp
            exact kZ.2 (.inr ⟨_,p1,rfl⟩)
        have hkc:kc=true:=by
          simp only [Bool.or_eq_true,Bool.and_eq_true]at ck1
          rcases ck1 with h | h
          · exact h
          · have:fs= [] :=by simpa using h.2
            subst this
            rcases hjj with⟨q,hq,_⟩ | ⟨hp,_⟩
            · simp at hq
            · obtain⟨f,_,_,_,_,_,_,_,p1,_⟩:=S.pps j hp
              simp at p1
        refine S.fstep hfs j3 hjj (fun hs' a' w' S'=>⟨⟨fun h=>absurd (hfLA.symm.trans h) Bool.false_ne_true,fun _ _=>toS S' hkc⟩,?_⟩)
        exact ihf _ _ _ _ _ S' (List.nodup_cons.2 ⟨j3,hnd⟩) (by rw [List.length_cons];omega) (hl.setE j1 hj)
  | pre f s p ih =>
    intro kc fs LC pre pv hfs0 hfs hc hLC hfl fuel listed Ex ps hs e g m a w L S hnd hfuel hl hvc
    simp only [jH,Bool.and_eq_true,Bool.not_eq_true']at hc
    obtain⟨ck,c1,c2,c3,c4⟩:=hc
    have c1':(f,some s) ∈ fs:=by simpa using c1
    have c3':s ∉ pre:=by simpa using c3
    split at c4
    case h_2=>cases c4
    rename_i sz d v hs0
    simp only [Bool.and_eq_true,bne_iff_ne,Nat.blt_eq]at c4
    obtain⟨c5,c6,c7,c8,c9⟩:=c4
    change (match fOfL l f,sOf l s with | some (d,_,blk),some (sz,d',v)=>dG ((d == d') && (det2 true (e.get v) && (storeB sz (e.get v) blk).isSome)) (sS (e.get v) fun x=>jR P l keep (flM keep m0) m0 fs0 Kf p ((s,x)::ps) e g m) False | _,_=>False)at hvc
    rw [hs0]at hvc
    split at hvc
    case h_2=>exact hvc.elim
    rename_i d1 val blk sz1 d2 v1 hf0 heq
    simp only [Option.some.injEq,Prod.mk.injEq]at heq
    obtain⟨rfl,rfl,rfl⟩:=heq
    obtain⟨hb,hvc2⟩:=dB hvc
    rw [qY]at hvc2
    simp only [Bool.and_eq_true,beq_iff_eq]at hb
    obtain⟨rfl,hb2,hb3⟩:=hb
    obtain⟨b,hb4⟩:=Option.isSome_iff_exists.1 hb3
    have hlook:∀ s',s' ≠ s->List.lookup s' ((s,e.get v)::ps)=List.lookup s' ps:=by
      intro s' hne
      rw [List.lookup_cons]
      have:(s' == s)=false:=by simpa using hne
      rw [this]
    refine ih kc fs LC (s::pre) (v::pv) hfs0 hfs c9 hLC hfl fuel listed Ex _ hs e g m a w L ⟨S.H,S.G,S.keepc,S.eun,fun j hj=>(S.ex j hj).imp id (.tail _),fun h hh=> ?_,S.hall,S.hnd,S.sf,fun s' hs'=> ?_⟩ hnd hfuel hl hvc2
    · obtain⟨k1,q,k2,k3,blk0,k4,k5⟩:=S.hmem h hh
      refine⟨k1,q,k2,k3,blk0,k4,k5.imp id (fun⟨s',u1,u2,u3⟩=>⟨s',u1,u2,?_⟩)⟩
      have hne:s' ≠ s:=by
        rintro rfl
        rcases S.ex s' u2 with⟨q',h1,h2⟩ | h1
        · simp only [chkFS,Bool.and_eq_true]at hfs
          exact uP (aBn hfs.1) h1 k2 u1 h2
        · exact c3' h1
      rw [<- u3]
      simp only [rD,u1,hlook s' hne]
    · rcases List.mem_cons.1 hs' with rfl | hs'
      · refine⟨f,d1,val,blk,e.get v,sz,v,b,c1',c2,hf0,hs0,by rw [List.lookup_cons];simp,hb2,hb4,uU hb2 (.inl rfl) (S.H.env v),.head _,c5,c6,c7,c8⟩
      · obtain⟨f,d',val',blk',v',sz,sv,b,p1,p2,p3,p4,p5,p6,p7,p8,p9,p10⟩:=S.pps s' hs'
        exact⟨f,d',val',blk',v',sz,sv,b,p1,p2,p3,p4,by rw [hlook s' (fun h=>c3' (h ▸ hs'))];exact p5,p6,p7,p8,.tail _ p9,p10⟩
  | fill p ih =>
    intro kc fs LC pre pv hfs0 hfs hc hLC hfl fuel listed Ex ps hs e g m a w L S hnd hfuel hl hvc
    simp only [jH,Bool.and_eq_true,Bool.not_eq_true']at hc
    obtain⟨ck,c0,c1,c2,c3,c4⟩:=hc
    have hfs':=hfs
    simp only [chkFS,Bool.and_eq_true]at hfs'
    have hnd0:=aBn hfs'.1
    have hfe:fs=fs0:=hfs0.elim id (fun h=>by subst h;simp at c0)
    have hpre:∀ q,q ∈ fs->∀ s,q.2=some s->s ∈ pre:=fun q hq s hs=>by
      have:=List.all_eq_true.1 c1 q hq
      simp only [hs]at this
      simpa using this
    simp only [DPlan.need]at hfuel
    change fillK l ps fs0 e m (fun e m=>jR P l keep (flM keep m0) m0 fs0 Kf p ps e g m)at hvc
    rw [<- hfe]at hvc
    have full:∀ {fuel:Nat} {listed:Array Bool} {Ex:List Nat} {hs:List HB} {a:Act} {w:World},St C0 m0 w0 L0 n l keep kc fs pre pv Ex ps hs e g m a w L->Ex.Nodup->p.need+(fsI fs).length<=fuel+Ex.length->Lst ops LC Ex listed->(∀ t,t ∈ fsI fs->t ∈ Ex)->
        qP P ops (fun x a w=>x= .normal/\Qf a w) (SP (C0.here m0 w0 L0) keep m0) lkA.contains (ndB1 ops lk) fuel listed a w:=by
      intro fuel listed Ex hs a w S hnd hfuel hl hall
      have hExLen:=eS hnd (exSub S)
      obtain⟨e',m',L',k1,k2,t,k3⟩:=fillK_sound S.H (fs:=fs) (fun h hh=>by
        obtain⟨u1,q,u2,u3,blk0,u4,u5⟩:=S.hmem h hh
        refine⟨q,u2,u3,?_⟩
        rcases u5 with⟨v1,v2⟩ | ⟨s,v1,v2,v3⟩
        · cases hq:q.2 with
          | none =>
            rw [<- u3]at u4
            simp only [rD,u4,hq,v1]
          | some s=>exact absurd (hall s (kZ.2 (.inr ⟨q,u2,hq⟩))) (v2 s hq)
        · exact v3) (fun q hq=>S.hall q hq (hall _ (kZ.2 (.inl ⟨q,hq,rfl⟩)))) S.hnd (List.nodup_append.1 hnd0).1 hvc
      refine ih kc [] (fsI fs++LC) [] [] (.inr rfl) (by simp [chkFS,fsI,ndN,fdDist]) c4 (fun j hj=>⟨?_,by simp [fsI]⟩) (fun j hj=>by simp [fsI]at hj) fuel listed [] ps [] e' g m' a w L' ⟨k2,S.G,fun hc=> ?_,fun q hq=>by simp at hq,fun j hj=>by simp at hj,fun h hh=>by simp at hh,fun q hq=>by simp at hq,by simp,fun q hq=>by simp at hq,fun s hs=>by simp at hs⟩ .nil (by simp [fsI];omega) ⟨hl.closed,hl.size,fun j hj=> ?_⟩ (by rw [<- hfe];exact k1)
      · rcases List.mem_append.1 hj with h | h
        · exact(hfl j h).1
        · exact(hLC j h).1
      · rw [k3];exact keepR_app (S.keepc hc) t
      · rw [hl.iff j hj,List.mem_append]
        constructor
        · rintro(h | h)
          · exact .inl (.inr h)
          · exact .inl (.inl (exSub S j h))
        · rintro((h | h) | h)
          · exact .inr (hall j h)
          · exact .inl h
          · simp at h
    clear hvc
    induction fuel generalizing listed Ex hs a w with
    | zero =>
      refine full S hnd hfuel hl (fun t ht=> ?_)
      by_cases h:t ∈ Ex
      · exact h
      · have:=eS (l1:=t::Ex) (l2:=fsI fs) (List.nodup_cons.2 ⟨h,hnd⟩) (fun x hx=>by
          rcases List.mem_cons.1 hx with rfl | hx
          · exact ht
          · exact exSub S x hx)
        rw [List.length_cons]at this
        omega
    | succ fuel ihf =>
      by_cases hall:∀ t,t ∈ fsI fs->t ∈ Ex
      · exact full S hnd hfuel hl hall
      · obtain⟨t,ht⟩:=Classical.not_forall.1 hall
        obtain⟨ht1,ht2⟩:=Classical.not_imp.1 ht
        refine⟨fun h0=> ?_,fun j hj=> ?_⟩
        · obtain⟨j,hj⟩:=first_ready hl c2 (fun x hx=>⟨(hfl x hx).1,fun h=>(hLC x h).2 hx⟩) (fun x hx=>⟨(hLC x hx).1,.inl hx⟩) ⟨t,ht1,ht2⟩
          rw [h0]at hj;simp at hj
        · obtain⟨j1,j2,j3,oj,j4,j5⟩:=hl.ready hj
          have hedge:∀ f,bndB ops j f=true->f ∈ LC\/f ∈ Ex:=by
            intro f hb
            unfold bndB at hb
            rw [j4]at hb
            simp only at hb
            obtain⟨ed,he1,he2⟩:=Array.any_eq_true'.1 hb
            simp only [Bool.and_eq_true,beq_iff_eq]at he2
            rw [<- he2.2]
            exact j5 ed he1 he2.1
          have hjf:j ∈ fsI fs:=by
            have:=List.all_eq_true.1 c3 j (List.mem_range.2 j1)
            simp only [Bool.or_eq_true]at this
            rcases this with h | h | h
            · exact absurd (by simpa using h) j2
            · simpa using h
            · rcases hedge t (List.all_eq_true.1 h t ht1)with h | h
              · exact absurd ht1 (hLC t h).2
              · exact absurd h ht2
          have hjj:(∃ q,q ∈ fs/\q.1=j)\/(j ∈ pre/\∀ q,q ∈ fs->q.2=some j->q.1 ∈ Ex):=by
            rcases kZ.1 hjf with h | ⟨q,h1,h2⟩
            · exact .inl h
            · refine .inr ⟨hpre q h1 j h2,fun q' hq' hs=> ?_⟩
              have:=List.all_eq_true.1 hfs'.2.2 q' hq'
              simp only [hs,Bool.and_eq_true]at this
              rcases hedge _ this.2.2.2.1 with h | h
              · exact absurd (kZ.2 (.inl ⟨q',hq',rfl⟩)) (hLC _ h).2
              · exact h
          refine S.fstep hfs j3 hjj (fun hs' a' w' S'=>⟨⟨fun h=>absurd ((hfl j hjf).2.symm.trans h) Bool.false_ne_true,fun _ _=>toS S' ck⟩,?_⟩)
          exact ihf _ _ _ _ _ S' (List.nodup_cons.2 ⟨j3,hnd⟩) (by rw [List.length_cons];omega) (hl.setE j1 hj)
end
noncomputable def chkDraw2 (P:Program) (n:Nat) (ops:Array Oper) (l:List AOpr) (d:DInfo):Bool:=
 Region.noSelect ops && (Nat.ble (d.p.need+(fsI d.fs).length) ops.size && (((fsI d.fs).all fun j=>Nat.blt j ops.size && !(d.p.looks.contains j)) && (chkFS P n ops l d.fs && jH P n ops l d.p.looks (d.p.loads l) d.p true d.fs [] [] [])))
noncomputable def killF (l:List AOpr) (fs:FS):Env->(Env->Prop)->Prop:=
 List.rec (motive:=fun _=>Env->(Env->Prop)->Prop) (fun e K=>K e) (fun p _ ih e K=>match fOfL l p.1 with | some (d,_,_)=>Env.setK 12 e d .un fun e=>ih e K | none=>False) fs
theorem killF_spec {l:List AOpr}:∀ {fs:FS} {e:Env} {K:Env->Prop},killF l fs e K->∃ e',K e'/\(∀ t,e'.get t= .un\/e'.get t=e.get t)/\∀ q,q ∈ fs->∀ d val blk,fOfL l q.1=some (d,val,blk)->e'.get d= .un
  | [],e,K,h=>⟨e,h,fun t=> .inr rfl,fun q hq=>by simp at hq⟩
  | p :: r, e, K, h => by
    change (match fOfL l p.1 with | some (d,_,_)=>Env.setK 12 e d .un fun e=>killF l r e K | none=>False)at h
    split at h
    case h_2=>exact h.elim
    rename_i d val blk hf
    rw [Env.setK_eq]at h
    obtain⟨e',k1,k2,k3⟩:=killF_spec h
    have hun:∀ t,(e.set d .un).get t= .un\/(e.set d .un).get t=e.get t:=fun t=>by
      rcases Env.set_upd e d .un t with h | ⟨_,h⟩ | ⟨_,h⟩
      · exact .inl h
      · exact .inr h
      · exact .inl h
    refine⟨e',k1,fun t=> ?_,fun q hq d' val' blk' hf'=> ?_⟩
    · rcases k2 t with h | h
      · exact .inl h
      · rw [h];exact hun t
    · rcases List.mem_cons.1 hq with rfl | hq
      · rw [hf]at hf'
        simp only [Option.some.injEq,Prod.mk.injEq]at hf'
        obtain⟨rfl,_,_⟩:=hf'
        rcases k2 d with h | h
        · exact h
        · rw [h]
          rcases Env.set_upd e d .un d with h | ⟨h1,h⟩ | ⟨_,h⟩
          · exact h
          · exact absurd rfl h1
          · exact h
      · exact k3 q hq d' val' blk' hf'
noncomputable def DK:DrawKit where
  chk P n ops l d:=match d.p with
    | .flat=>DK0.chk P n ops l d
    | _=>chkDraw2 P n ops l d
  vc P l d e m K:=match d.p with
    | .flat=>DK0.vc P l d e m K
    | _=>killF l d.fs e fun e=>resK e d.keep fun keep=>flMK keep m fun mS=>jR P l keep mS m d.fs K d.p [] e e m
  sound:=by
    intro P n ops l d id hm hc C e m a w L K hrel hvc Q hQ
    have main:chkDraw2 P n ops l d=true->(killF l d.fs e fun e=>resK e d.keep fun keep=>flMK keep m fun mS=>jR P l keep mS m d.fs K d.p [] e e m)->(Code.region id ops true).wp P Q a w:=by
      intro hc hvc
      simp only [chkDraw2,Bool.and_eq_true,Nat.ble_eq]at hc
      obtain⟨h1,h2,h3,h4,h5⟩:=hc
      obtain⟨e',k0,k2,k3⟩:=killF_spec hvc
      obtain⟨keep,k1⟩:=resK_spec k0
      rw [flMK_eq]at k1
      let w1:World:= {w with drawn:=w.drawn+1}
      have hrel':Rel C n e' m a w1 L:=⟨hrel.size,hrel.defers,hrel.mem.drawn _,fun t=>by
        rcases k2 t with h | h
        · rw [h];exact .un _
        · rw [h];exact hrel.env t⟩
      have hR0:=hrel'.mem.here
      have S0:St C m w1 L n l keep true d.fs [] [] [] [] [] e' e' m a w1 L:=⟨HRel.start hrel',fun t=>hrel'.env t,fun _=>xB _ _,fun q hq d' val blk hf=>⟨k3 q hq d' val blk hf,k3 q hq d' val blk hf⟩,fun j hj=>by simp at hj,fun h hh=>by simp at hh,fun q _ hq=>by simp at hq,by simp,fun q _ s _ hs=>by simp at hs,fun s hs=>by simp at hs⟩
      refine Code.wp_mono (Q:=fun x a' w'=>x= .normal/\Q .normal a' w') (by rintro x a' w' ⟨rfl,h⟩;exact h) ?_
      refine wp_region_any hm (wpAny_of_N (S:=SP (C.here m w1 L) keep m) (isL:=d.p.looks.contains) (nd:=ndB1 ops (d.p.loads l)) _ _ _ _ ?_)
      refine plan_sound hR0 h1 (fs0:=d.fs) (Kf:=K) (Qf:=fun a w=>Q .normal a w) (fun e2 m2 a2 w2 L2 hk hr=> ?_) d.p true d.fs [] [] [] (.inl rfl) h4 h5 (fun j hj=>by simp at hj) (fun j hj=>by
        have:=List.all_eq_true.1 h3 j hj
        simp only [Bool.and_eq_true,Nat.blt_eq,Bool.not_eq_true']at this
        exact this) ops.size _ [] [] [] e' e' m a w1 L S0 .nil (by simpa using h2) ⟨fun j k hj=>by
        exfalso
        rw [Array.getD_eq_getD_getElem?,Array.getElem?_replicate]at hj
        split at hj <;> simp at hj,by simp,fun j hj=> ?_⟩ k1
      · obtain⟨b1,b2⟩:=hrel'.mem.back hr.mem
        exact hQ e2 m2 a2 w2 L2 hk ⟨hr.size,hr.defers,b1,hr.env⟩
      · simp [Array.getD_eq_getD_getElem?,hj]
    cases hp:d.p with
    | flat =>
      rw [hp]at hc hvc
      exact DK0.sound (P:=P) (n:=n) (ops:=ops) (l:=l) (ord:=d) hm hc hrel hvc hQ
    | _ =>
      rw [hp]at hc hvc
      exact main hc (by rw [hp];exact hvc)
end Go.Wit
end

section
set_option maxHeartbeats 1000000
namespace Go.Proofs.YtfolpdmbpbbimaaGreat
open Go Go.Wit
noncomputable abbrev Pg:Program:=Tryz.prog
def oT (a b c t v:Nat):AOpr:=⟨none,.stA a b c (.t t) (.t v),none⟩
def oI (d:Nat) (k:Int):AOpr:=⟨some d,.mv (.c (.int .i64 k)),none⟩
def oB (d:Nat) (b:Bool):AOpr:=⟨some d,.mv (.c (.bool b)),none⟩
def oW (d:Nat) (o:BinOp) (a b:Nat):AOpr:=⟨some d,.bin o (.t a) (.t b),none⟩
def oV (d:Nat) (o:BinOp) (a:Nat) (k:IntKind) (n:Int):AOpr:=⟨some d,.bin o (.t a) (.c (.int k n)),none⟩
def oE (d a k:Nat):AOpr:=⟨some d,.ext (.t a) k,none⟩
def oL (d a:Nat):AOpr:=⟨some d,.len (.t a),none⟩
def oF (d k a:Nat):AOpr:=⟨some d,.fldA k (.t a),none⟩
def oD (d z:Nat) (b:Bool) (a:Nat):AOpr:=⟨some d,.load z b (.t a),none⟩
def oX (d z a b:Nat):AOpr:=⟨some d,.idxA z (.t a) (.t b),none⟩
def oU (d a:Nat):AOpr:=⟨some d,.un .not (.t a),none⟩
def oQ (d f:Nat) (l:List Nat):AOpr:=⟨some d,.call (.c (.fn f [])) (l.map .t),none⟩
def sO (l:List AOpr) (c:ACode):ACode:= .seq (.ops l) c
abbrev BT (A:AFun) (f:FuncId):Prop:= ∀ {args:List AV} {m:Mem} {K:AV->Mem->Prop},vcFun DK Pg A args m K->ACall Pg f args m K
def oM (d s:Nat):AOpr:=⟨some d,.mv (.t s),none⟩
def oK (d f:Nat) (l:List Opn):AOpr:=⟨some d,.call (.c (.fn f [])) l,none⟩
def oO (d:Nat) (o:AOp):AOpr:=⟨some d,o,none⟩
def oG (d:Nat) (o:AOp) (t:Nat) (b:Bool):AOpr:=⟨some d,o,some (t,b)⟩
def oS (z a b:Nat):AOpr:=⟨none,.store z (.t a) (.t b),none⟩
abbrev gW:Nat:=10
abbrev iD:Nat:=16
abbrev iA:Nat:=20
abbrev dV:Nat:=21
abbrev lG:Nat:=22
abbrev fC:Nat:=23
abbrev iL:Nat:=25
abbrev gJ:Nat:=28
abbrev cP:Nat:=31
abbrev bD:Nat:=32
abbrev fD:Nat:=33
abbrev dR:Nat:=34
abbrev bI:Nat:=35
abbrev gM:Nat:=37
abbrev jJ:Nat:=38
abbrev iG:Nat:=39
abbrev fQ:Nat:=43
abbrev hZ:Nat:=45
abbrev kW:Nat:=48
abbrev dQ:Nat:=49
abbrev dJ:Nat:=50
abbrev kM:Nat:=51
abbrev kR:Nat:=52
abbrev dW:Nat:=53
abbrev cF:Nat:=54
abbrev gN:Nat:=55
abbrev cR:Nat:=56
abbrev dL:Nat:=57
abbrev fM:Nat:=58
abbrev jO:Nat:=59
abbrev dM:Nat:=60
abbrev fI:Nat:=61
abbrev iF:Nat:=63
abbrev fY:Nat:=72
abbrev fG:Nat:=73
abbrev iO:Nat:=74
abbrev eM:Nat:=79
abbrev iX:Nat:=80
abbrev cG:Nat:=82
abbrev mJ:Nat:=83
abbrev iP:Nat:=84
abbrev bW:Nat:=85
abbrev bU:Nat:=86
abbrev dY:Nat:=87
abbrev fS:Nat:=88
abbrev eV:Nat:=89
abbrev iB:Nat:=91
abbrev cE:Nat:=92
abbrev cQ:Nat:=93
abbrev eU:Nat:=94
abbrev fX:Nat:=95
abbrev hU:Nat:=96
abbrev eL:Nat:=97
abbrev iZ:Nat:=98
abbrev dP:Nat:=99
abbrev jP:Nat:=100
abbrev cA:Nat:=101
abbrev dA:Nat:=102
abbrev kP:Nat:=105
abbrev mN:Nat:=106
abbrev iS:Nat:=107
abbrev kN:Nat:=108
abbrev kD:Nat:=109
abbrev vI:Nat:=110
abbrev kU:Nat:=112
abbrev gZ:Nat:=114
abbrev gO:Nat:=115
abbrev kV:Nat:=123
abbrev dK:Nat:=124
abbrev fA:Nat:=125
abbrev iE:Nat:=126
abbrev fJ:Nat:=127
abbrev dE:Nat:=128
abbrev dZ:Nat:=129
abbrev gL:Nat:=130
abbrev kL:Nat:=131
abbrev mI:Nat:=132
abbrev mH:Nat:=133
abbrev jN:Nat:=134
abbrev lH:Nat:=135
abbrev gF:Nat:=136
abbrev fR:Nat:=137
abbrev fT:Nat:=138
abbrev gK:Nat:=139
abbrev cD:Nat:=140
abbrev nE:Nat:=141
abbrev iQ:Nat:=142
abbrev pI:Nat:=144
abbrev sJ:Nat:=147
abbrev sI:Nat:=148
abbrev eH:Nat:=155
abbrev vJ:Nat:=159
abbrev fH:Nat:=160
abbrev kT:Nat:=161
abbrev aR:Nat:=162
abbrev lL:Nat:=163
abbrev dI:Nat:=164
abbrev mK:Nat:=165
abbrev aK:Nat:=166
abbrev bE:Nat:=167
abbrev iM:Nat:=168
abbrev kA:Nat:=169
abbrev mO:Nat:=171
abbrev jE:Nat:=172
abbrev gI:Nat:=173
abbrev bZ:Nat:=174
abbrev cS:Nat:=175
abbrev iN:Nat:=176
abbrev dC:Nat:=177
abbrev gR:Nat:=178
abbrev cZ:Nat:=179
abbrev fE:Nat:=180
abbrev gS:Nat:=181
abbrev fW:Nat:=182
abbrev cB:Nat:=183
abbrev dD:Nat:=184
abbrev cC:Nat:=185
abbrev zO:Nat:=186
abbrev lI:Nat:=187
abbrev kB:Nat:=188
abbrev mM:Nat:=189
abbrev sK:Nat:=190
abbrev jI:Nat:=193
abbrev eI:Nat:=194
abbrev kQ:Nat:=198
abbrev pG:Nat:=199
abbrev jM:Nat:=200
abbrev pH:Nat:=201
abbrev fZ:Nat:=202
abbrev lR:Nat:=203
abbrev gT:Nat:=204
abbrev mL:Nat:=205
abbrev fF:Nat:=206
abbrev gE:Nat:=207
abbrev jB:Nat:=208
abbrev cN:Nat:=209
abbrev cO:Nat:=210
abbrev bM:Nat:=211
abbrev dH:Nat:=217
abbrev bH:Nat:=220
abbrev xK:Nat:=221
abbrev cK:Nat:=222
abbrev kC:Nat:=223
abbrev lK:Nat:=224
abbrev gP:Nat:=225
abbrev fV:Nat:=226
abbrev fU:Nat:=227
abbrev gH:Nat:=228
abbrev bG:Nat:=229
abbrev jD:Nat:=230
abbrev gQ:Nat:=231
abbrev iR:Nat:=232
abbrev nC:Nat:=233
abbrev nD:Nat:=234
abbrev sH:Nat:=235
abbrev bC:Nat:=236
abbrev kX:Nat:=237
abbrev nF:Nat:=238
abbrev dS:Nat:=239
abbrev pZ:Nat:=240
abbrev eG:Nat:=241
abbrev vH:Nat:=244
abbrev jC:Nat:=245
theorem aH:Pg.follows .mixedOrders=true:=by kernel_rfl
noncomputable def qN:AFun:=⟨5,153,[.t 10],
 (sO [oB 10 false] (.seq (sO [oM 22 0,oL 23 22,oV 24 .gtr 23 .i64 100,oM 25 24,oG 26 (.mv (.t 1)) 25 false,oG 27 (.bin .gtr (.t 26) (.c (.int .i64 4))) 25 false,
 oO 28 (.pick (.t 25) (.c (.bool true)) (.t 27)),oM 29 28,oG 30 (.mv (.t 2)) 29 false,oG 31 (.call (.c (.fn iA [])) [.t 30]) 29 false,
 oO 32 (.pick (.t 29) (.c (.bool true)) (.t 31)),oM 33 32,oG 34 (.mv (.t 2)) 33 false,oG 35 (.len (.t 34)) 33 false,oG 36 (.bin .gtr (.t 35) (.c (.int .i64 5))) 33 false,
 oO 37 (.pick (.t 33) (.c (.bool true)) (.t 36))] (.cond (.t 37) (sO [oB 10 true] .ret) .skip)) (sO [oM 38 2,oQ 39 dV [38],oM 11 39] (sO [oM 41 0,oM 42 1,
 oM 43 11,oM 44 4,oQ 45 gN [41,42,43,44],oM 40 45,oE 46 40 0,oE 47 40 1,
 ⟨some 12,.alloc 22 1 [.int .i64 0,.bool false,.int .u64 0,.int .u64 0,.int .u64 0,.int .u64 0,.int .u64 0,.int .u64 0,.int .u64 0,.int .u64 0,.str ⟨#[]⟩,.nils,.nils,.int .i64 0,.int .u64 0,.int .u64 0,.int .u64 0,.int .u64 0,.int .u64 0,.int .u64 0,.int .u64 0,.int .u64 0],none⟩,
 oS 22 12 46,oM 13 47] (sO [oM 49 0,oM 50 1,oM 51 2,oM 52 4,oQ 53 cR [49,50,51,52],oM 48 53,oE 54 48 0,oE 55 48 1,
 ⟨some 14,.alloc 22 1 [.int .i64 0,.bool false,.int .u64 0,.int .u64 0,.int .u64 0,.int .u64 0,.int .u64 0,.int .u64 0,.int .u64 0,.int .u64 0,.str ⟨#[]⟩,.nils,.nils,.int .i64 0,.int .u64 0,.int .u64 0,.int .u64 0,.int .u64 0,.int .u64 0,.int .u64 0,.int .u64 0,.int .u64 0],none⟩,
 oS 22 14 54,oM 15 55] (.seq (sO [oM 56 13,oM 57 15,oW 58 .neq 56 57,oM 59 58,oG 60 (.load 22 true (.t 12)) 59 false,oG 61 (.load 22 true (.t 14)) 59 false,
 oG 62 (.call (.c (.fn iD [])) [.t 60,.t 61]) 59 false,oG 63 (.un .not (.t 62)) 59 false,oO 64 (.pick (.t 59) (.c (.bool true)) (.t 63))] (.cond (.t 64) (sO [
 oB 10 false] .ret) .skip)) (sO [oM 66 0,oM 67 11,oM 68 3,oM 69 4,oQ 70 kW [66,67,68,69],oM 65 70,oE 71 65 0,oE 72 65 1,oE 73 65 2,oO 16 (.alloc 1 4 [.int .u64 0]),
 oT 1 4 4 16 71,oM 17 72,oM 13 73] (sO [oM 75 0,oM 76 2,oM 77 3,oM 78 4,oQ 79 dL [75,76,77,78],oM 74 79,oE 80 74 0,oE 81 74 1,oE 82 74 2,
 oO 18 (.alloc 1 4 [.int .u64 0]),oT 1 4 4 18 80,oM 19 81,oM 15 82] (.seq (sO [oM 83 13,oM 84 15,oW 85 .neq 83 84,oM 86 85,oG 87 (.load 4 true (.t 16)) 86 false,
 oG 88 (.load 4 true (.t 18)) 86 false,oG 89 (.eqa [.i,.i,.i,.i] true (.t 87) (.t 88)) 86 false,oO 90 (.pick (.t 86) (.c (.bool true)) (.t 89)),oM 91 90,
 oG 92 (.mv (.t 17)) 91 false,oG 93 (.mv (.t 19)) 91 false,oG 94 (.eqb true (.t 92) (.t 93)) 91 false,oO 95 (.pick (.t 91) (.c (.bool true)) (.t 94))] (.cond (.t 95) (sO [
 oB 10 false] .ret) .skip)) (sO [oM 97 0,oM 98 11,oM 99 3,oM 100 4,oQ 101 kR [97,98,99,100],oM 96 101,oE 102 96 0,oE 103 96 1,oS 22 12 102,oM 13 103] (sO [
 oM 105 0,oM 106 2,oM 107 3,oM 108 4,oQ 109 fM [105,106,107,108],oM 104 109,oE 110 104 0,oE 111 104 1,oS 22 14 110,oM 15 111] (.seq (sO [oM 112 13,oM 113 15,
 oW 114 .neq 112 113,oM 115 114,oG 116 (.load 22 true (.t 12)) 115 false,oG 117 (.load 22 true (.t 14)) 115 false,
 oG 118 (.call (.c (.fn iD [])) [.t 116,.t 117]) 115 false,oG 119 (.un .not (.t 118)) 115 false,oO 120 (.pick (.t 115) (.c (.bool true)) (.t 119))] (.cond (.t 120)
 (sO [oB 10 false] .ret) .skip)) (sO [oM 122 0,oM 123 1,oM 124 11,oM 125 4,oQ 126 jO [122,123,124,125],oM 121 126,oE 127 121 0,oE 128 121 1,
 oO 20 (.alloc 1 4 [.int .u64 0]),oT 1 4 4 20 127,oM 13 128] (sO [oM 130 0,oM 131 1,oM 132 2,oM 133 4,oQ 134 dM [130,131,132,133],oM 129 134,oE 135 129 0,
 oE 136 129 1,oO 21 (.alloc 1 4 [.int .u64 0]),oT 1 4 4 21 135,oM 15 136] (sO [oM 137 13,oM 138 15,oW 139 .eql 137 138,oM 140 139,oG 141 (.load 4 true (.t 20)) 140 true,
 oG 142 (.load 4 true (.t 21)) 140 true,oG 143 (.eqa [.i,.i,.i,.i] false (.t 141) (.t 142)) 140 true,oO 144 (.pick (.t 140) (.t 143) (.c (.bool false))),oM 145 144,
 oG 146 (.mv (.t 11)) 145 true,oG 147 (.mv (.t 2)) 145 true,oG 148 (.call (.c (.fn gJ [])) [.t 146,.t 147]) 145 true,
 oO 149 (.pick (.t 145) (.t 148) (.c (.bool false))),oM 150 149,oG 151 (.call (.c (.fn hZ [])) []) 150 true,oO 152 (.pick (.t 150) (.t 151) (.c (.bool false))),
 oM 10 152] .ret)))))))))))))))⟩
theorem qK:BT qN gW:=fun h=>aD aH Tryz.func10 (by kernel_rfl) (by kernel_rfl) h
noncomputable def A_witankeep_Act:AFun:=⟨2,52,[.t 4],
 (sO [oO 2 (.box 22 1 (.t 0)),oO 3 (.box 22 1 (.t 1)),oB 4 false] (sO [oF 5 0 2,oD 6 1 false 5,oF 7 0 3,oD 8 1 false 7,oW 9 .eql 6 8,oM 10 9,oG 11 (.fldA 1 (.t 2)) 10 true,
 oG 12 (.load 9 true (.t 11)) 10 true,oG 13 (.fldA 1 (.t 3)) 10 true,oG 14 (.load 9 true (.t 13)) 10 true,oG 15 (.call (.c (.fn cF [])) [.t 12,.t 14]) 10 true,
 oO 16 (.pick (.t 10) (.t 15) (.c (.bool false))),oM 17 16,oG 18 (.fldA 10 (.t 2)) 17 true,oG 19 (.load 1 false (.t 18)) 17 true,oG 20 (.fldA 10 (.t 3)) 17 true,
 oG 21 (.load 1 false (.t 20)) 17 true,oG 22 (.bin .eql (.t 19) (.t 21)) 17 true,oO 23 (.pick (.t 17) (.t 22) (.c (.bool false))),oM 24 23,oG 25 (.fldA 11 (.t 2)) 24 true,
 oG 26 (.load 1 false (.t 25)) 24 true,oG 27 (.fldA 11 (.t 3)) 24 true,oG 28 (.load 1 false (.t 27)) 24 true,oG 29 (.call (.c (.fn fY [])) [.t 26,.t 28]) 24 true,
 oO 30 (.pick (.t 24) (.t 29) (.c (.bool false))),oM 31 30,oG 32 (.fldA 12 (.t 2)) 31 true,oG 33 (.load 1 false (.t 32)) 31 true,oG 34 (.fldA 12 (.t 3)) 31 true,
 oG 35 (.load 1 false (.t 34)) 31 true,oG 36 (.call (.c (.fn fG [])) [.t 33,.t 35]) 31 true,oO 37 (.pick (.t 31) (.t 36) (.c (.bool false))),oM 38 37,
 oG 39 (.fldA 13 (.t 2)) 38 true,oG 40 (.load 1 false (.t 39)) 38 true,oG 41 (.fldA 13 (.t 3)) 38 true,oG 42 (.load 1 false (.t 41)) 38 true,
 oG 43 (.bin .eql (.t 40) (.t 42)) 38 true,oO 44 (.pick (.t 38) (.t 43) (.c (.bool false))),oM 45 44,oG 46 (.fldA 14 (.t 2)) 45 true,oG 47 (.load 8 true (.t 46)) 45 true,
 oG 48 (.fldA 14 (.t 3)) 45 true,oG 49 (.load 8 true (.t 48)) 45 true,oG 50 (.call (.c (.fn iO [])) [.t 47,.t 49]) 45 true,
 oO 51 (.pick (.t 45) (.t 50) (.c (.bool false))),oM 4 51] .ret))⟩
theorem B_witankeep_Act:BT A_witankeep_Act iD:=fun h=>aD aH Tryz.func16 (by kernel_rfl) (by kernel_rfl) h
noncomputable def wP:AFun:=⟨1,38,[.t 2],
 (sO [oB 2 false] (.seq (sO [oM 4 0,oL 5 4,oV 6 .gtr 5 .i64 10] (.cond (.t 6) (sO [oB 2 true] .ret) .skip)) (.seq (sO [oI 3 0] (.block 0 (.loop (.seq (sO [oM 7 3,oM 8 0,oL 9 8,
 oW 10 .lss 7 9] (.cond (.t 10) .skip (.exit 0))) (.seq (.block 1 (sO [oM 13 0,oM 14 3,oX 15 26 13 14,oF 16 13 15,oD 17 1 false 16,oL 18 17,oV 19 .gtr 18 .i64 20,oM 20 19,
 oG 21 (.mv (.t 0)) 20 false,oG 22 (.mv (.t 3)) 20 false,oG 23 (.idxA 26 (.t 21) (.t 22)) 20 false,oG 24 (.fldA 14 (.t 23)) 20 false,oG 25 (.load 1 false (.t 24)) 20 false,
 oG 26 (.len (.t 25)) 20 false,oG 27 (.bin .gtr (.t 26) (.c (.int .i64 8))) 20 false,oO 28 (.pick (.t 20) (.c (.bool true)) (.t 27)),oM 29 28,oG 30 (.mv (.t 0)) 29 false,
 oG 31 (.mv (.t 3)) 29 false,oG 32 (.idxA 26 (.t 30) (.t 31)) 29 false,oG 33 (.fldA 10 (.t 32)) 29 false,oG 34 (.load 1 false (.t 33)) 29 false,oG 35 (.lens (.t 34)) 29 false,
 oG 36 (.bin .gtr (.t 35) (.c (.int .i64 200))) 29 false,oO 37 (.pick (.t 29) (.c (.bool true)) (.t 36))] (.cond (.t 37) (sO [oB 2 true] .ret) .skip))) (.ops [oM 11 3,
 oV 12 .add 11 .i64 1,oM 3 12])))))) (sO [oB 2 false] .ret))))⟩
theorem vV:BT wP iA:=fun h=>aD aH Tryz.func20 (by kernel_rfl) (by kernel_rfl) h
noncomputable def qE:AFun:=⟨1,31,[.t 2],
 (sO [oO 2 (.mv (.c (.nils)))] (sO [oO 3 (.mv (.c (.nils)))] (.seq (sO [oI 4 0] (.block 0 (.loop (.seq (sO [oM 7 4,oM 8 0,oL 9 8,oW 10 .lss 7 9] (.cond (.t 10) .skip (.exit 0)))
 (.seq (.block 1 (sO [oM 13 0,oM 14 4,oX 15 26 13 14,oD 16 26 true 15,
 ⟨some 5,.alloc 26 1 [.int .i64 0,.bool false,.int .u64 0,.int .u64 0,.int .u64 0,.int .u64 0,.int .u64 0,.int .u64 0,.int .u64 0,.int .u64 0,.str ⟨#[]⟩,.int .i64 0,.bool false,.nils,.nils,.bool false,.bool false,.bool false,.int .u64 0,.int .u64 0,.int .u64 0,.int .u64 0,.int .u64 0,.int .u64 0,.int .u64 0,.int .u64 0],none⟩,
 oS 26 5 16] (sO [oO 6 (.mv (.c (.nils)))] (.seq (.draw [oM 17 6,oF 18 13 5,oD 19 1 false 18,oO 20 (.app 32 32 (.t 17) (.t 19)),oF 21 14 5,oD 22 1 false 21,
 oQ 23 eM [22],oF 24 13 5,oS 1 24 20,oF 25 14 5,
 oS 1 25 23] ⟨.all,[],.look 0 (.look 1 (.look 4 (.two false 2 (.two false 3 (.run 5 false (.look 7 (.run 6 false (.run 8 false (.look 9 (.run 10 false .done)))))) 5 (.run 3 false (.look 7 (.run 6 false (.run 8 false (.look 9 (.run 10 false .done))))))) 5 (.run 2 false (.run 3 false (.look 7 (.run 6 false (.run 8 false (.look 9 (.run 10 false .done))))))))))⟩)
 (.ops [oM 26 3,oD 27 26 true 5,
 ⟨some 28,.bsl 26 1 [.int .i64 0,.bool false,.int .u64 0,.int .u64 0,.int .u64 0,.int .u64 0,.int .u64 0,.int .u64 0,.int .u64 0,.int .u64 0,.str ⟨#[]⟩,.int .i64 0,.bool false,.nils,.nils,.bool false,.bool false,.bool false,.int .u64 0,.int .u64 0,.int .u64 0,.int .u64 0,.int .u64 0,.int .u64 0,.int .u64 0,.int .u64 0] [(0,26,.t 27)],none⟩,
 oO 29 (.app 26 240 (.t 26) (.t 28)),oM 3 29]))))) (.ops [oM 11 4,oV 12 .add 11 .i64 1,oM 4 12])))))) (sO [oM 30 3,oM 2 30] .ret))))⟩
theorem qA:BT qE dV:=fun h=>aD aH Tryz.func21 (by kernel_rfl) (by kernel_rfl) h
noncomputable def A_judge_Place:AFun:=⟨2,28,[.t 4,.t 5],
 (sO [oI 4 0,oI 5 0] (.seq (.block 0 (sO [oM 7 0,oQ 8 iX [7],oU 9 8,oM 10 9,oG 11 (.mv (.t 1)) 10 false,oG 12 (.call (.c (.fn iX [])) [.t 11]) 10 false,
 oG 13 (.un .not (.t 12)) 10 false,oO 14 (.pick (.t 10) (.c (.bool true)) (.t 13)),oM 15 14,oG 16 (.mv (.t 0)) 15 false,oG 17 (.mv (.t 1)) 15 false,
 oG 18 (.bin .eql (.t 16) (.t 17)) 15 false,oO 19 (.pick (.t 15) (.c (.bool true)) (.t 18)),oM 6 19] (.cond (.t 6) (sO [oI 4 0,oI 5 1] .ret) (sO [oM 21 1,oM 22 0,
 oW 23 .lss 21 22,oM 20 23] (.cond (.t 20) (sO [oM 24 1,oV 25 .sub 24 .i64 1,oM 4 25,oI 5 0] .ret) .skip))))) (sO [oM 26 1,oV 27 .sub 26 .i64 2,oM 4 27,oI 5 0] .ret)))⟩
theorem B_judge_Place:BT A_judge_Place lG:=fun h=>aD aH Tryz.func22 (by kernel_rfl) (by kernel_rfl) h
noncomputable def wE:AFun:=⟨2,31,[.t 4],
 (sO [oI 4 0] (.seq (sO [oM 5 0,oV 6 .lss 5 .i64 1,oM 7 6,oG 8 (.mv (.t 1)) 7 false,oG 9 (.bin .lss (.t 8) (.c (.int .i64 1))) 7 false,
 oO 10 (.pick (.t 7) (.c (.bool true)) (.t 9)),oM 11 10,oG 12 (.mv (.t 0)) 11 false,oG 13 (.bin .gtr (.t 12) (.c (.int .i64 8))) 11 false,
 oO 14 (.pick (.t 11) (.c (.bool true)) (.t 13)),oM 15 14,oG 16 (.mv (.t 1)) 15 false,oG 17 (.bin .gtr (.t 16) (.c (.int .i64 8))) 15 false,
 oO 18 (.pick (.t 15) (.c (.bool true)) (.t 17)),oM 19 18,oG 20 (.mv (.t 0)) 19 false,oG 21 (.mv (.t 1)) 19 false,oG 22 (.bin .eql (.t 20) (.t 21)) 19 false,
 oO 23 (.pick (.t 19) (.c (.bool true)) (.t 22))] (.cond (.t 23) (sO [oI 4 (-1)] .ret) .skip)) (.seq (sO [oM 24 1,oM 25 0,oW 26 .lss 24 25] (.cond (.t 26) (sO [oM 27 1,
 oV 28 .sub 27 .i64 1,oM 4 28] .ret) .skip)) (sO [oM 29 1,oV 30 .sub 29 .i64 2,oM 4 30] .ret))))⟩
theorem vM:BT wE fC:=fun h=>aD aH Tryz.func23 (by kernel_rfl) (by kernel_rfl) h
noncomputable def yI:AFun:=⟨4,99,[.t 8,.t 9],
 (sO [oO 7 (.box 9 1 (.t 3)),oB 8 false,oI 9 0] (sO [oM 12 1,oM 13 2,oQ 14 fC [12,13],oM 10 14] (.seq (sO [oM 15 10,oV 16 .lss 15 .i64 0] (.cond (.t 16) (sO [
 oB 8 false,oI 9 1] .ret) .skip)) (.seq (sO [oM 17 1,oM 18 0,oL 19 18,oW 20 .gtr 17 19,oM 21 20,oG 22 (.mv (.t 2)) 21 false,oG 23 (.mv (.t 0)) 21 false,
 oG 24 (.len (.t 23)) 21 false,oG 25 (.bin .gtr (.t 22) (.t 24)) 21 false,oO 26 (.pick (.t 21) (.c (.bool true)) (.t 25)),oM 27 26,oG 28 (.mv (.t 0)) 27 false,
 oG 29 (.mv (.t 1)) 27 false,oG 30 (.bin .sub (.t 29) (.c (.int .i64 1))) 27 false,oG 31 (.idxA 26 (.t 28) (.t 30)) 27 false,oG 32 (.fldA 12 (.t 31)) 27 false,
 oG 33 (.load 1 false (.t 32)) 27 false,oG 34 (.un .not (.t 33)) 27 false,oO 35 (.pick (.t 27) (.c (.bool true)) (.t 34)),oM 36 35,oG 37 (.mv (.t 10)) 36 false,
 oG 38 (.mv (.t 0)) 36 false,oG 39 (.mv (.t 1)) 36 false,oG 40 (.bin .sub (.t 39) (.c (.int .i64 1))) 36 false,oG 41 (.idxA 26 (.t 38) (.t 40)) 36 false,
 oG 42 (.fldA 13 (.t 41)) 36 false,oG 43 (.load 1 false (.t 42)) 36 false,oG 44 (.len (.t 43)) 36 false,oG 45 (.bin .geq (.t 37) (.t 44)) 36 false,
 oO 46 (.pick (.t 36) (.c (.bool true)) (.t 45)),oM 47 46,oG 48 (.mv (.t 0)) 47 false,oG 49 (.mv (.t 1)) 47 false,oG 50 (.bin .sub (.t 49) (.c (.int .i64 1))) 47 false,
 oG 51 (.idxA 26 (.t 48) (.t 50)) 47 false,oG 52 (.fldA 14 (.t 51)) 47 false,oG 53 (.load 1 false (.t 52)) 47 false,oG 54 (.len (.t 53)) 47 false,
 oG 55 (.bin .gtr (.t 54) (.c (.int .i64 64))) 47 false,oO 56 (.pick (.t 47) (.c (.bool true)) (.t 55)),oM 57 56,oG 58 (.mv (.t 0)) 57 false,oG 59 (.mv (.t 1)) 57 false,
 oG 60 (.bin .sub (.t 59) (.c (.int .i64 1))) 57 false,oG 61 (.idxA 26 (.t 58) (.t 60)) 57 false,oG 62 (.fldA 14 (.t 61)) 57 false,oG 63 (.load 1 false (.t 62)) 57 false,
 oG 64 (.call (.c (.fn bW [])) [.t 63]) 57 false,oG 65 (.un .not (.t 64)) 57 false,oO 66 (.pick (.t 57) (.c (.bool true)) (.t 65))] (.cond (.t 66) (sO [
 oB 8 false,oI 9 5] .ret) .skip)) (.seq (sO [oD 67 9 true 7,oQ 68 bU [67],oU 69 68] (.cond (.t 69) (sO [oB 8 false,oI 9 3] .ret) .skip)) (.seq (.draw [
 oD 70 9 true 7,oM 71 1,oM 72 2,oM 73 0,oM 74 1,oV 75 .sub 74 .i64 1,oX 76 26 73 75,oF 77 13 76,oD 78 1 false 77,oM 79 10,oX 80 32 78 79,oD 81 32 true 80,
 oQ 82 dY [70,71,72,81],oO 11 (.alloc 1 4 [.int .u64 0]),
 oS 4 11 82] ⟨.all,[(13,some 14)],.look 0 (.look 1 (.look 2 (.look 3 (.look 4 (.look 5 (.look 6 (.look 7 (.look 8 (.look 9 (.look 10 (.look 11 (.run 12 true (.pre 13 14 (.fill .done))))))))))))))⟩)
 (.seq (.draw [oD 83 4 true 11,oK 84 bI [.c (.int .i64 1)],oQ 85 dQ [83,84],oV 86 .lss 85 .i64 0,oM 87 86,oG 88 (.mv (.t 0)) 87 true,
 oG 89 (.mv (.t 1)) 87 true,oG 90 (.bin .sub (.t 89) (.c (.int .i64 1))) 87 true,oG 91 (.idxA 26 (.t 88) (.t 90)) 87 true,oG 92 (.fldA 14 (.t 91)) 87 true,
 oG 93 (.load 1 false (.t 92)) 87 true,oG 94 (.mv (.t 2)) 87 true,oG 95 (.call (.c (.fn eV [])) [.t 94]) 87 true,oG 96 (.load 4 true (.t 11)) 87 true,
 oG 97 (.call (.c (.fn fS [])) [.t 93,.t 95,.t 96]) 87 true,oO 98 (.pick (.t 87) (.t 97) (.c (.bool false))),oM 8 98,
 oI 9 0] ⟨.all,[],.look 0 (.run 1 true (.run 2 true (.look 3 (.look 4 (.look 5 (.look 6 (.look 7 (.look 8 (.look 9 (.look 10 (.look 11 (.look 13 (.run 12 true (.run 14 true (.look 15 (.look 16 (.look 17 .done)))))))))))))))))⟩)
 .ret)))))))⟩
theorem xM:BT yI iL:=fun h=>aD aH Tryz.func25 (by kernel_rfl) (by kernel_rfl) h
noncomputable def uF:AFun:=⟨2,27,[.t 4],
 (sO [oB 4 false] (.seq (sO [oM 6 0,oL 7 6,oM 8 1,oL 9 8,oW 10 .neq 7 9] (.cond (.t 10) (sO [oB 4 false] .ret) .skip)) (.seq (sO [oI 5 0] (.block 0 (.loop (.seq (sO [oM 11 5,
 oM 12 0,oL 13 12,oW 14 .lss 11 13] (.cond (.t 14) .skip (.exit 0))) (.seq (.block 1 (.seq (.draw [oM 17 0,oM 18 5,oX 19 26 17 18,oD 20 26 true 19,oM 21 1,oM 22 5,oX 23 26 21 22,
 oD 24 26 true 23,oQ 25 iB [20,24],
 oU 26 25] ⟨.all,[],.look 0 (.look 1 (.look 2 (.look 3 (.look 4 (.look 5 (.look 6 (.look 7 (.run 8 true (.look 9 .done)))))))))⟩) (.cond (.t 26) (sO [oB 4 false] .ret) .skip)))
 (.ops [oM 15 5,oV 16 .add 15 .i64 1,oM 5 16])))))) (sO [oB 4 true] .ret))))⟩
theorem tQ:BT uF gJ:=fun h=>aD aH Tryz.func28 (by kernel_rfl) (by kernel_rfl) h
noncomputable def tT:AFun:=⟨1,13,[.cell 2 4 true],
 (sO [oO 2 (.alloc 1 4 [.int .u64 0])] (sO [oM 6 0,oO 7 (.bsl 1 1 [.nils] [(0,1,.t 6)]),
 ⟨some 8,.call (.c (.fn cQ [])) [.c (.str ⟨#[115,101,99,114,101,116]⟩),.t 7],none⟩,oM 5 8,oE 9 5 0,oE 10 5 1,oO 3 (.alloc 1 4 [.int .u64 0]),
 oT 1 4 4 3 9,oM 4 10] (sO [oD 11 4 true 3,oQ 12 eU [11],oT 1 4 4 2 12] .ret)))⟩
theorem tI:BT tT cP:=fun h=>aD aH Tryz.func31 (by kernel_rfl) (by kernel_rfl) h
noncomputable def wK:AFun:=⟨2,9,[.cell 4 9 true],
 (sO [oO 2 (.box 1 4 (.t 0)),oO 3 (.box 9 1 (.t 1)),
 oO 4 (.alloc 9 1 [.bool false,.int .u64 0,.int .u64 0,.int .u64 0,.int .u64 0,.int .u64 0,.int .u64 0,.int .u64 0,.int .u64 0])] (sO [oD 5 4 true 2,oD 6 9 true 3,
 oQ 7 hU [5,6],oQ 8 fX [7],oT 9 1 9 4 8] .ret))⟩
theorem vR:BT wK bD:=fun h=>aD aH Tryz.func32 (by kernel_rfl) (by kernel_rfl) h
noncomputable def wF:AFun:=⟨3,28,[.cell 6 8 true],
 (sO [oO 3 (.box 1 4 (.t 0)),oO 4 (.box 1 4 (.t 1)),oO 5 (.box 9 1 (.t 2)),
 oO 6 (.alloc 8 1 [.int .u64 0,.int .u64 0,.int .u64 0,.int .u64 0,.int .u64 0,.int .u64 0,.int .u64 0,.int .u64 0])] (.seq (.draw [oD 8 4 true 3,
 oQ 9 cE [8],oD 10 9 true 5,oD 11 4 true 3,oD 12 9 true 5,oQ 13 bD [11,12],oD 14 4 true 4,oQ 15 cE [14],oD 16 4 true 4,
 oD 17 9 true 5,oQ 18 bD [16,17],
 oO 19 (.bsl 9 5 [.bool false,.int .u64 0,.int .u64 0,.int .u64 0,.int .u64 0,.int .u64 0,.int .u64 0,.int .u64 0,.int .u64 0] [(0,9,.t 9),(9,9,.t 10),(18,9,.t 13),(27,9,.t 15),(36,9,.t 18)]),
 oQ 20 eL [19],oO 7 (.alloc 1 4 [.int .u64 0]),
 oS 4 7 20] ⟨.all,[(13,some 14)],.look 0 (.look 2 (.look 3 (.look 4 (.look 6 (.look 8 (.look 9 (.run 1 true (.run 5 true (.run 7 true (.run 10 true (.run 11 true (.run 12 true (.pre 13 14 (.fill .done))))))))))))))⟩)
 (.seq (.draw [oD 21 4 true 7,oD 22 4 true 4,oD 23 4 true 7,oD 24 4 true 3,oQ 25 dP [23,24],oQ 26 iZ [22,25],
 oO 27 (.build [.int .u64 0,.int .u64 0,.int .u64 0,.int .u64 0,.int .u64 0,.int .u64 0,.int .u64 0,.int .u64 0] [(0,4,.t 21),(4,4,.t 26)]),
 oT 8 1 8 6 27] ⟨.all,[],.look 0 (.look 1 (.look 2 (.look 3 (.run 4 true (.run 5 true (.look 6 (.run 7 false .done)))))))⟩) .ret)))⟩
theorem vN:BT wF fD:=fun h=>aD aH Tryz.func33 (by kernel_rfl) (by kernel_rfl) h
noncomputable def aBg:AFun:=⟨2,28,[.cell 4 4 true,.t 5],
 (sO [oO 2 (.box 1 4 (.t 0)),oO 3 (.box 1 4 (.t 1)),oO 4 (.alloc 1 4 [.int .u64 0]),oO 5 (.mv (.c (.int .u64 0)))] (sO [oO 6 (.mv (.c (.int .u64 0)))] (sO [
 oO 7 (.alloc 1 4 [.int .u64 0])] (.seq (sO [oI 8 0] (.block 0 (.loop (.seq (sO [oM 9 8,oV 10 .lss 9 .i64 4] (.cond (.t 10) .skip (.exit 0))) (.seq (.block 1 (.draw [oM 14 8,
 oM 15 8,oO 16 (.idxP 4 1 (.t 2) (.t 15)),oD 17 1 false 16,oM 18 8,oO 19 (.idxP 4 1 (.t 3) (.t 18)),oD 20 1 false 19,oM 21 6,
 oO 22 (.x64 false jP (.t 17) (.t 20) (.t 21)),oM 13 22,oE 23 13 0,oE 24 13 1,oO 25 (.idxP 4 1 (.t 7) (.t 14)),oT 1 4 1 25 23,
 oM 6 24] ⟨.all,[],.look 0 (.look 1 (.look 2 (.look 3 (.look 4 (.look 5 (.look 6 (.look 7 (.run 8 true (.look 9 (.look 10 (.look 11 (.look 12 (.run 13 false (.look 14 .done))))))))))))))⟩))
 (.ops [oM 11 8,oO 12 (.binF .add (.t 11) (.c (.int .i64 1))),oM 8 12])))))) (sO [oD 26 4 true 7,oM 27 6,oT 1 4 4 4 26,oM 5 27] .ret)))))⟩
theorem aAk:BT aBg dR:=fun h=>aD aH Tryz.func34 (by kernel_rfl) (by kernel_rfl) h
noncomputable def wL:AFun:=⟨1,20,[.cell 2 4 true],
 (sO [oO 2 (.alloc 1 4 [.int .u64 0])] (sO [oO 6 (.build [.int .u64 0,.int .u64 0,.int .u64 0,.int .u64 0] []),oM 7 0,oQ 8 dA [7],oQ 9 cA [6,8],
 oM 5 9,oE 10 5 0,oE 11 5 1,oO 3 (.alloc 1 4 [.int .u64 0]),oT 1 4 4 3 10,oM 4 11] (.seq (sO [oM 12 0,oV 13 .neq 12 .i64 0,oM 14 13,oG 15 (.mv (.t 0)) 14 true,
 oG 16 (.bin .neq (.t 15) (.c (.int .i64 1))) 14 true,oO 17 (.pick (.t 14) (.t 16) (.c (.bool false)))] (.cond (.t 17) (sO [
 oO 18 (.build [.int .u64 0,.int .u64 0,.int .u64 0,.int .u64 0] []),oT 1 4 4 2 18] .ret) .skip)) (sO [oD 19 4 true 3,oT 1 4 4 2 19] .ret))))⟩
theorem nJ:BT wL bI:=fun h=>aD aH Tryz.func35 (by kernel_rfl) (by kernel_rfl) h
noncomputable def A_deal_Secret:AFun:=⟨1,21,[.cell 2 4 true,.t 3],
 (sO [oO 2 (.alloc 1 4 [.int .u64 0]),oI 3 0] (.seq (sO [oM 6 0,oQ 7 mN [6]] (.cond (.t 7) (sO [oO 8 (.build [.int .u64 0,.int .u64 0,.int .u64 0,.int .u64 0] []),
 oT 1 4 4 2 8,oI 3 4] .ret) .skip)) (sO [oM 10 0,oO 11 (.bsl 1 1 [.nils] [(0,1,.t 10)]),
 ⟨some 12,.call (.c (.fn iS [])) [.c (.str ⟨#[115,101,99,114,101,116]⟩),.t 11],none⟩,oM 9 12,oE 13 9 0,oE 14 9 1,oO 4 (.alloc 1 4 [.int .u64 0]),oT 1 4 4 4 13,
 oM 5 14] (.seq (sO [oM 15 5,oV 16 .neq 15 .i64 0] (.cond (.t 16) (sO [oO 17 (.build [.int .u64 0,.int .u64 0,.int .u64 0,.int .u64 0] []),oM 18 5,oT 1 4 4 2 17,oM 3 18] .ret)
 .skip)) (sO [oD 19 4 true 4,oQ 20 kN [19],oT 1 4 4 2 20,oI 3 0] .ret)))))⟩
theorem B_deal_Secret:BT A_deal_Secret gM:=fun h=>aD aH Tryz.func37 (by kernel_rfl) (by kernel_rfl) h
noncomputable def A_deal_Poly:AFun:=⟨2,44,[.t 4,.t 5],
 (sO [oO 4 (.mv (.c (.nils))),oI 5 0] (.seq (.block 0 (sO [oM 11 0,oQ 12 mN [11],oM 10 12] (.cond (.t 10) (sO [oO 4 (.mv (.c (.nils))),oI 5 4] .ret) (sO [oM 14 1,
 oV 15 .lss 14 .i64 0,oM 16 15,oG 17 (.mv (.t 1)) 16 false,oG 18 (.bin .geq (.t 17) (.c (.int .i64 64))) 16 false,oO 19 (.pick (.t 16) (.c (.bool true)) (.t 18)),oM 13 19]
 (.cond (.t 13) (sO [oO 4 (.mv (.c (.nils))),oI 5 1] .ret) .skip))))) (sO [oO 6 (.mv (.c (.nils)))] (.seq (sO [oM 20 1,oV 21 .add 20 .i64 1,oI 22 0] (.block 1 (.loop (sO [
 oW 23 .lss 22 21] (.seq (.cond (.t 23) .skip (.exit 1)) (.seq (.block 2 (sO [oM 24 22,oM 7 24] (sO [oM 26 0,oM 27 7,
 ⟨some 28,.call (.c (.fn kD [])) [.c (.str ⟨#[112,111,108,121]⟩),.t 26,.t 27],none⟩,oM 25 28,oE 29 25 0,oE 30 25 1,oO 8 (.alloc 1 4 [.int .u64 0]),
 oT 1 4 4 8 29,oM 9 30] (.seq (sO [oM 31 9,oV 32 .neq 31 .i64 0] (.cond (.t 32) (sO [oM 33 9,oO 4 (.mv (.c (.nils))),oM 5 33] .ret) .skip)) (.seq (sO [oM 34 7,
 oV 35 .eql 34 .i64 0] (.cond (.t 35) (.ops [oD 36 4 true 8,oQ 37 kN [36],oT 1 4 4 8 37]) .skip)) (.ops [oM 38 6,oD 39 4 true 8,
 oO 40 (.bsl 4 1 [.int .u64 0,.int .u64 0,.int .u64 0,.int .u64 0] [(0,4,.t 39)]),oO 41 (.app 4 32 (.t 38) (.t 40)),oM 6 41])))))) (.ops [oV 42 .add 22 .i64 1,
 oM 22 42]))))))) (sO [oM 43 6,oM 4 43,oI 5 0] .ret)))))⟩
theorem B_deal_Poly:BT A_deal_Poly jJ:=fun h=>aD aH Tryz.func38 (by kernel_rfl) (by kernel_rfl) h
noncomputable def A_deal_Register:AFun:=⟨2,27,[.cell 4 22 true,.t 5],
 (sO [
 ⟨some 4,.alloc 22 1 [.int .i64 0,.bool false,.int .u64 0,.int .u64 0,.int .u64 0,.int .u64 0,.int .u64 0,.int .u64 0,.int .u64 0,.int .u64 0,.str ⟨#[]⟩,.nils,.nils,.int .i64 0,.int .u64 0,.int .u64 0,.int .u64 0,.int .u64 0,.int .u64 0,.int .u64 0,.int .u64 0,.int .u64 0],none⟩,
 oI 5 0] (sO [oM 9 0,oQ 10 gM [9],oM 8 10,oE 11 8 0,oE 12 8 1,oO 6 (.alloc 1 4 [.int .u64 0]),oT 1 4 4 6 11,oM 7 12] (.seq (.block 0 (sO [oM 14 7,oV 15 .neq 14 .i64 0,
 oM 13 15] (.cond (.t 13) (sO [
 ⟨some 16,.build [.int .i64 0,.bool false,.int .u64 0,.int .u64 0,.int .u64 0,.int .u64 0,.int .u64 0,.int .u64 0,.int .u64 0,.int .u64 0,.str ⟨#[]⟩,.nils,.nils,.int .i64 0,.int .u64 0,.int .u64 0,.int .u64 0,.int .u64 0,.int .u64 0,.int .u64 0,.int .u64 0,.int .u64 0] [],none⟩,
 oM 17 7,oS 22 4 16,oM 5 17] .ret) (sO [oM 19 1,oQ 20 vI [19],oV 21 .neq 20 .i64 0,oM 18 21] (.cond (.t 18) (sO [
 ⟨some 22,.build [.int .i64 0,.bool false,.int .u64 0,.int .u64 0,.int .u64 0,.int .u64 0,.int .u64 0,.int .u64 0,.int .u64 0,.int .u64 0,.str ⟨#[]⟩,.nils,.nils,.int .i64 0,.int .u64 0,.int .u64 0,.int .u64 0,.int .u64 0,.int .u64 0,.int .u64 0,.int .u64 0,.int .u64 0] [],none⟩,
 oS 22 4 22,oI 5 8] .ret) .skip))))) (sO [oD 23 4 true 6,oQ 24 fI [23],oM 25 1,
 ⟨some 26,.build [.int .i64 0,.bool false,.int .u64 0,.int .u64 0,.int .u64 0,.int .u64 0,.int .u64 0,.int .u64 0,.int .u64 0,.int .u64 0,.str ⟨#[]⟩,.nils,.nils,.int .i64 0,.int .u64 0,.int .u64 0,.int .u64 0,.int .u64 0,.int .u64 0,.int .u64 0,.int .u64 0,.int .u64 0] [(0,1,.c (.int .i64 1)),(1,9,.t 24),(10,1,.t 25)],none⟩,
 oS 22 4 26,oI 5 0] .ret))))⟩
theorem B_deal_Register:BT A_deal_Register iG:=fun h=>aD aH Tryz.func39 (by kernel_rfl) (by kernel_rfl) h
noncomputable def yH:AFun:=⟨2,31,[.t 4],
 (sO [oO 4 (.mv (.c (.nils)))] (sO [oO 5 (.mv (.c (.nils)))] (.seq (sO [oI 6 0] (.block 0 (.loop (.seq (sO [oM 9 6,oM 10 1,oW 11 .leq 9 10] (.cond (.t 11) .skip (.exit 0)))
 (.seq (.block 1 (sO [oM 15 0,oM 16 6,oQ 17 gO [16],oO 18 (.bsl 1 2 [.nils] [(0,1,.t 15),(1,1,.t 17)]),
 ⟨some 19,.call (.c (.fn cQ [])) [.c (.str ⟨#[112,111,108,121]⟩),.t 18],none⟩,oM 14 19,oE 20 14 0,oE 21 14 1,oO 7 (.alloc 1 4 [.int .u64 0]),oT 1 4 4 7 20,
 oM 8 21] (.seq (sO [oM 22 6,oV 23 .eql 22 .i64 0] (.cond (.t 23) (.ops [oD 24 4 true 7,oQ 25 eU [24],oT 1 4 4 7 25]) .skip)) (.ops [oM 26 5,oD 27 4 true 7,
 oO 28 (.bsl 4 1 [.int .u64 0,.int .u64 0,.int .u64 0,.int .u64 0] [(0,4,.t 27)]),oO 29 (.app 4 32 (.t 26) (.t 28)),oM 5 29])))) (.ops [oM 12 6,oV 13 .add 12 .i64 1,
 oM 6 13])))))) (sO [oM 30 5,oM 4 30] .ret))))⟩
theorem xL:BT yH fQ:=fun h=>aD aH Tryz.func43 (by kernel_rfl) (by kernel_rfl) h
noncomputable def wO:AFun:=⟨0,37,[.t 0],
 (sO [oB 0 false] (sO [oO 6 (.bsl 1 1 [.int .u8 0] [(0,1,.c (.int .u8 1))]),⟨some 7,.call (.c (.fn iG [])) [.t 6,.c (.str ⟨#[32,120]⟩)],none⟩,oM 5 7,oE 8 5 0,
 oE 9 5 1,
 ⟨some 1,.alloc 22 1 [.int .i64 0,.bool false,.int .u64 0,.int .u64 0,.int .u64 0,.int .u64 0,.int .u64 0,.int .u64 0,.int .u64 0,.int .u64 0,.str ⟨#[]⟩,.nils,.nils,.int .i64 0,.int .u64 0,.int .u64 0,.int .u64 0,.int .u64 0,.int .u64 0,.int .u64 0,.int .u64 0,.int .u64 0],none⟩,
 oS 22 1 8,oM 2 9] (sO [oO 11 (.bsl 1 1 [.int .u8 0] [(0,1,.c (.int .u8 1))]),⟨some 12,.call (.c (.fn iG [])) [.t 11,.c (.str ⟨#[120]⟩)],none⟩,oM 10 12,
 oE 13 10 0,oE 14 10 1,
 ⟨some 3,.alloc 22 1 [.int .i64 0,.bool false,.int .u64 0,.int .u64 0,.int .u64 0,.int .u64 0,.int .u64 0,.int .u64 0,.int .u64 0,.int .u64 0,.str ⟨#[]⟩,.nils,.nils,.int .i64 0,.int .u64 0,.int .u64 0,.int .u64 0,.int .u64 0,.int .u64 0,.int .u64 0,.int .u64 0,.int .u64 0],none⟩,
 oS 22 3 13,oM 4 14] (sO [oM 15 2,oV 16 .eql 15 .i64 8,oM 17 16,oG 18 (.mv (.t 4)) 17 true,oG 19 (.bin .eql (.t 18) (.c (.int .i64 0))) 17 true,
 oO 20 (.pick (.t 17) (.t 19) (.c (.bool false))),oM 21 20,oG 22 (.fldA 0 (.t 3)) 21 true,oG 23 (.load 1 false (.t 22)) 21 true,
 oG 24 (.bin .eql (.t 23) (.c (.int .i64 1))) 21 true,oO 25 (.pick (.t 21) (.t 24) (.c (.bool false))),oM 26 25,oG 27 (.fldA 10 (.t 3)) 26 true,
 oG 28 (.load 1 false (.t 27)) 26 true,⟨some 29,.bin .eql (.t 28) (.c (.str ⟨#[120]⟩)),(some (26,true))⟩,oO 30 (.pick (.t 26) (.t 29) (.c (.bool false))),oM 31 30,
 oG 32 (.fldA 1 (.t 3)) 31 true,oG 33 (.fldA 0 (.t 32)) 31 true,oG 34 (.load 1 false (.t 33)) 31 true,oG 35 (.un .not (.t 34)) 31 true,
 oO 36 (.pick (.t 31) (.t 35) (.c (.bool false))),oM 0 36] .ret))))⟩
theorem vU:BT wO hZ:=fun h=>aD aH Tryz.func45 (by kernel_rfl) (by kernel_rfl) h
noncomputable def A_deal_Share:AFun:=⟨4,24,[.cell 8 4 true,.t 9,.t 10],
 (sO [oO 8 (.alloc 1 4 [.int .u64 0]),oB 9 false,oI 10 0] (sO [oM 12 0,oM 13 1,oM 14 2,oM 15 3,oQ 16 kV [12,13,14,15],oM 11 16,oE 17 11 0,oE 18 11 1,oE 19 11 2,
 oE 20 11 3,oT 1 4 4 8 18,oM 9 19,oM 10 20] (sO [oD 21 4 true 8,oM 22 9,oM 23 10,oT 1 4 4 8 21,oM 9 22,oM 10 23] .ret)))⟩
theorem B_deal_Share:BT A_deal_Share kW:=fun h=>aD aH Tryz.func48 (by kernel_rfl) (by kernel_rfl) h
noncomputable def aBe:AFun:=⟨2,18,[.t 4],
 (sO [oO 2 (.box 1 4 (.t 0)),oO 3 (.box 1 4 (.t 1)),oI 4 0] (.seq (sO [oD 7 4 true 2,oD 8 4 true 3,oO 9 (.eqa [.i,.i,.i,.i] false (.t 7) (.t 8))] (.cond (.t 9) (sO [oI 4 0]
 .ret) .skip)) (.seq (sO [oD 11 4 true 2,oD 12 4 true 3,oQ 13 cA [11,12],oM 10 13,oE 14 10 0,oE 15 10 1,oO 5 (.alloc 1 4 [.int .u64 0]),oT 1 4 4 5 14,oM 6 15] (sO [
 oM 16 6,oV 17 .eql 16 .u64 1] (.cond (.t 17) (sO [oI 4 (-1)] .ret) .skip))) (sO [oI 4 1] .ret))))⟩
theorem aAi:BT aBe dQ:=fun h=>aD aH Tryz.func49 (by kernel_rfl) (by kernel_rfl) h
noncomputable def A_field_Prime:AFun:=⟨1,22,[.cell 2 4 true],
 (sO [oO 2 (.alloc 1 4 [.int .u64 0])] (sO [oM 8 0,oQ 9 dK [8],oM 7 9,oE 10 7 0,oE 11 7 1,oO 3 (.alloc 1 4 [.int .u64 0]),oT 1 4 4 3 10,oM 4 11] (.seq (sO [oM 12 4,
 oU 13 12] (.cond (.t 13) (sO [oO 14 (.build [.int .u64 0,.int .u64 0,.int .u64 0,.int .u64 0] []),oT 1 4 4 2 14] .ret) .skip)) (sO [
 oO 16 (.build [.int .u64 0,.int .u64 0,.int .u64 0,.int .u64 0] []),oD 17 4 true 3,oQ 18 fA [16,17],oM 15 18,oE 19 15 0,oE 20 15 1,oO 5 (.alloc 1 4 [.int .u64 0]),
 oT 1 4 4 5 19,oM 6 20] (sO [oD 21 4 true 5,oT 1 4 4 2 21] .ret)))))⟩
theorem vY:BT A_field_Prime dJ:=fun h=>aD aH Tryz.func50 (by kernel_rfl) (by kernel_rfl) h
noncomputable def A_field_Red:AFun:=⟨2,19,[.cell 4 4 true],
 (sO [oO 3 (.box 1 4 (.t 1)),oO 4 (.alloc 1 4 [.int .u64 0])] (sO [oM 8 0,oQ 9 dK [8],oM 7 9,oE 10 7 0,oE 11 7 1,oO 5 (.alloc 1 4 [.int .u64 0]),oT 1 4 4 5 10,oM 6 11]
 (.seq (sO [oM 12 6,oU 13 12] (.cond (.t 13) (sO [oO 14 (.build [.int .u64 0,.int .u64 0,.int .u64 0,.int .u64 0] []),oT 1 4 4 4 14] .ret) .skip)) (sO [oD 15 4 true 3,
 oO 16 (.build [.int .u64 0,.int .u64 0,.int .u64 0,.int .u64 0] []),oD 17 4 true 5,oQ 18 iE [15,16,17],oT 1 4 4 4 18] .ret))))⟩
theorem B_field_Red:BT A_field_Red kM:=fun h=>aD aH Tryz.func51 (by kernel_rfl) (by kernel_rfl) h
noncomputable def A_deal_Dispute:AFun:=⟨4,67,[.cell 8 22 true,.t 9],
 (sO [
 ⟨some 8,.alloc 22 1 [.int .i64 0,.bool false,.int .u64 0,.int .u64 0,.int .u64 0,.int .u64 0,.int .u64 0,.int .u64 0,.int .u64 0,.int .u64 0,.str ⟨#[]⟩,.nils,.nils,.int .i64 0,.int .u64 0,.int .u64 0,.int .u64 0,.int .u64 0,.int .u64 0,.int .u64 0,.int .u64 0,.int .u64 0],none⟩,
 oI 9 0] (sO [oM 19 0,oM 20 1,oM 21 2,oM 22 3,oQ 23 kV [19,20,21,22],oM 18 23,oE 24 18 0,oE 25 18 1,oE 26 18 2,oE 27 18 3,
 oO 10 (.alloc 9 1 [.bool false,.int .u64 0,.int .u64 0,.int .u64 0,.int .u64 0,.int .u64 0,.int .u64 0,.int .u64 0,.int .u64 0]),oO 11 (.alloc 1 4 [.int .u64 0]),
 oT 9 1 9 10 24,oT 1 4 4 11 25,oM 12 26,oM 13 27] (.seq (sO [oM 28 13,oV 29 .neq 28 .i64 0] (.cond (.t 29) (sO [
 ⟨some 30,.build [.int .i64 0,.bool false,.int .u64 0,.int .u64 0,.int .u64 0,.int .u64 0,.int .u64 0,.int .u64 0,.int .u64 0,.int .u64 0,.str ⟨#[]⟩,.nils,.nils,.int .i64 0,.int .u64 0,.int .u64 0,.int .u64 0,.int .u64 0,.int .u64 0,.int .u64 0,.int .u64 0,.int .u64 0] [],none⟩,
 oM 31 13,oS 22 8 30,oM 9 31] .ret) .skip)) (sO [oM 33 0,oQ 34 gM [33],oM 32 34,oE 35 32 0,oE 36 32 1,oO 14 (.alloc 1 4 [.int .u64 0]),oT 1 4 4 14 35,oM 15 36] (sO [
 oM 38 0,oM 39 2,⟨some 40,.call (.c (.fn kD [])) [.c (.str ⟨#[110,111,110,99,101]⟩),.t 38,.t 39],none⟩,oM 37 40,oE 41 37 0,oE 42 37 1,
 oO 16 (.alloc 1 4 [.int .u64 0]),oT 1 4 4 16 41,oM 13 42] (.seq (sO [oM 43 13,oV 44 .neq 43 .i64 0] (.cond (.t 44) (sO [
 ⟨some 45,.build [.int .i64 0,.bool false,.int .u64 0,.int .u64 0,.int .u64 0,.int .u64 0,.int .u64 0,.int .u64 0,.int .u64 0,.int .u64 0,.str ⟨#[]⟩,.nils,.nils,.int .i64 0,.int .u64 0,.int .u64 0,.int .u64 0,.int .u64 0,.int .u64 0,.int .u64 0,.int .u64 0,.int .u64 0] [],none⟩,
 oM 46 13,oS 22 8 45,oM 9 46] .ret) .skip)) (.seq (.draw [oD 48 4 true 14,oD 49 4 true 16,oM 50 1,oM 51 2,oV 52 .sub 51 .i64 1,oX 53 26 50 52,oF 54 1 53,oD 55 9 true 54,
 oQ 56 kU [48,49,55],oM 47 56,oE 57 47 0,oE 58 47 1,
 oO 17 (.alloc 8 1 [.int .u64 0,.int .u64 0,.int .u64 0,.int .u64 0,.int .u64 0,.int .u64 0,.int .u64 0,.int .u64 0]),oS 8 17 57,
 oM 13 58] ⟨.all,[(12,some 13)],.look 0 (.look 1 (.look 2 (.look 3 (.look 4 (.look 5 (.look 6 (.look 7 (.run 8 true (.look 9 (.look 10 (.pre 12 13 (.look 11 (.fill (.look 14 .done))))))))))))))⟩)
 (.seq (sO [oM 59 13,oV 60 .neq 59 .i64 0] (.cond (.t 60) (sO [
 ⟨some 61,.build [.int .i64 0,.bool false,.int .u64 0,.int .u64 0,.int .u64 0,.int .u64 0,.int .u64 0,.int .u64 0,.int .u64 0,.int .u64 0,.str ⟨#[]⟩,.nils,.nils,.int .i64 0,.int .u64 0,.int .u64 0,.int .u64 0,.int .u64 0,.int .u64 0,.int .u64 0,.int .u64 0,.int .u64 0] [],none⟩,
 oM 62 13,oS 22 8 61,oM 9 62] .ret) .skip)) (sO [oM 63 2,oD 64 9 true 10,oD 65 8 true 17,
 ⟨some 66,.build [.int .i64 0,.bool false,.int .u64 0,.int .u64 0,.int .u64 0,.int .u64 0,.int .u64 0,.int .u64 0,.int .u64 0,.int .u64 0,.str ⟨#[]⟩,.nils,.nils,.int .i64 0,.int .u64 0,.int .u64 0,.int .u64 0,.int .u64 0,.int .u64 0,.int .u64 0,.int .u64 0,.int .u64 0] [(0,1,.c (.int .i64 3)),(13,1,.t 63),(1,9,.t 64),(14,8,.t 65)],none⟩,
 oS 22 8 66,oI 9 0] .ret)))))))))⟩
theorem B_deal_Dispute:BT A_deal_Dispute kR:=fun h=>aD aH Tryz.func52 (by kernel_rfl) (by kernel_rfl) h
noncomputable def A_curve_Times:AFun:=⟨2,18,[.cell 4 9 true,.t 5],
 (sO [oO 2 (.box 1 4 (.t 0)),oO 3 (.box 9 1 (.t 1)),
 oO 4 (.alloc 9 1 [.bool false,.int .u64 0,.int .u64 0,.int .u64 0,.int .u64 0,.int .u64 0,.int .u64 0,.int .u64 0,.int .u64 0]),oI 5 0] (sO [oD 7 9 true 3,
 oQ 8 cG [7],oM 6 8] (.seq (sO [oM 9 6,oV 10 .neq 9 .i64 0] (.cond (.t 10) (sO [
 oO 11 (.build [.bool false,.int .u64 0,.int .u64 0,.int .u64 0,.int .u64 0,.int .u64 0,.int .u64 0,.int .u64 0,.int .u64 0] []),oM 12 6,oT 9 1 9 4 11,oM 5 12] .ret)
 .skip)) (.seq (.draw [oD 13 9 true 3,oQ 14 fJ [13],oD 15 4 true 2,oQ 16 dE [14,15],oQ 17 dZ [16],oT 9 1 9 4 17,
 oI 5 0] ⟨.all,[],.look 0 (.look 2 (.run 1 true (.run 3 false (.run 4 false (.run 5 false (.look 6 .done))))))⟩) .ret))))⟩
theorem wA:BT A_curve_Times dW:=fun h=>aD aH Tryz.func53 (by kernel_rfl) (by kernel_rfl) h
noncomputable def zB:AFun:=⟨2,24,[.t 4],
 (sO [oO 2 (.box 9 1 (.t 0)),oO 3 (.box 9 1 (.t 1)),oB 4 false] (sO [oF 5 0 2,oD 6 1 false 5,oF 7 0 3,oD 8 1 false 7,oO 9 (.eqb false (.t 6) (.t 8)),oM 10 9,
 oG 11 (.fldA 1 (.t 2)) 10 true,oG 12 (.load 4 true (.t 11)) 10 true,oG 13 (.fldA 1 (.t 3)) 10 true,oG 14 (.load 4 true (.t 13)) 10 true,
 oG 15 (.eqa [.i,.i,.i,.i] false (.t 12) (.t 14)) 10 true,oO 16 (.pick (.t 10) (.t 15) (.c (.bool false))),oM 17 16,oG 18 (.fldA 5 (.t 2)) 17 true,
 oG 19 (.load 4 true (.t 18)) 17 true,oG 20 (.fldA 5 (.t 3)) 17 true,oG 21 (.load 4 true (.t 20)) 17 true,oG 22 (.eqa [.i,.i,.i,.i] false (.t 19) (.t 21)) 17 true,
 oO 23 (.pick (.t 17) (.t 22) (.c (.bool false))),oM 4 23] .ret))⟩
theorem yB:BT zB cF:=fun h=>aD aH Tryz.func54 (by kernel_rfl) (by kernel_rfl) h
noncomputable def A_deal_Post:AFun:=⟨4,122,[.cell 8 22 true,.t 9],
 (sO [
 ⟨some 8,.alloc 22 1 [.int .i64 0,.bool false,.int .u64 0,.int .u64 0,.int .u64 0,.int .u64 0,.int .u64 0,.int .u64 0,.int .u64 0,.int .u64 0,.str ⟨#[]⟩,.nils,.nils,.int .i64 0,.int .u64 0,.int .u64 0,.int .u64 0,.int .u64 0,.int .u64 0,.int .u64 0,.int .u64 0,.int .u64 0],none⟩,
 oI 9 0] (sO [oM 23 0,oM 24 1,oQ 25 jJ [23,24],oM 22 25,oE 26 22 0,oE 27 22 1,oM 10 26,oM 11 27] (.seq (.block 0 (sO [oM 29 11,oV 30 .neq 29 .i64 0,oM 28 30]
 (.cond (.t 28) (sO [
 ⟨some 31,.build [.int .i64 0,.bool false,.int .u64 0,.int .u64 0,.int .u64 0,.int .u64 0,.int .u64 0,.int .u64 0,.int .u64 0,.int .u64 0,.str ⟨#[]⟩,.nils,.nils,.int .i64 0,.int .u64 0,.int .u64 0,.int .u64 0,.int .u64 0,.int .u64 0,.int .u64 0,.int .u64 0,.int .u64 0] [],none⟩,
 oM 32 11,oS 22 8 31,oM 9 32] .ret) (sO [oM 34 2,oM 35 3,oQ 36 gL [34,35],oU 37 36,oM 38 37,oG 39 (.mv (.t 2)) 38 false,oG 40 (.len (.t 39)) 38 false,
 oG 41 (.bin .gtr (.t 40) (.c (.int .i64 8))) 38 false,oO 42 (.pick (.t 38) (.c (.bool true)) (.t 41)),oM 33 42] (.cond (.t 33) (sO [
 ⟨some 43,.build [.int .i64 0,.bool false,.int .u64 0,.int .u64 0,.int .u64 0,.int .u64 0,.int .u64 0,.int .u64 0,.int .u64 0,.int .u64 0,.str ⟨#[]⟩,.nils,.nils,.int .i64 0,.int .u64 0,.int .u64 0,.int .u64 0,.int .u64 0,.int .u64 0,.int .u64 0,.int .u64 0,.int .u64 0] [],none⟩,
 oS 22 8 43,oI 9 1] .ret) .skip))))) (.seq (sO [oM 44 2,oL 45 44,oI 46 0] (.block 1 (.loop (sO [oW 47 .lss 46 45] (.seq (.cond (.t 47) .skip (.exit 1)) (.seq (.block 2 (sO [
 oX 48 26 44 46,oD 49 26 true 48,
 ⟨some 13,.alloc 26 1 [.int .i64 0,.bool false,.int .u64 0,.int .u64 0,.int .u64 0,.int .u64 0,.int .u64 0,.int .u64 0,.int .u64 0,.int .u64 0,.str ⟨#[]⟩,.int .i64 0,.bool false,.nils,.nils,.bool false,.bool false,.bool false,.int .u64 0,.int .u64 0,.int .u64 0,.int .u64 0,.int .u64 0,.int .u64 0,.int .u64 0,.int .u64 0],none⟩,
 oS 26 13 49] (sO [oF 50 1 13,oD 51 9 true 50,oQ 52 cG [51],oV 53 .neq 52 .i64 0] (.cond (.t 53) (sO [
 ⟨some 54,.build [.int .i64 0,.bool false,.int .u64 0,.int .u64 0,.int .u64 0,.int .u64 0,.int .u64 0,.int .u64 0,.int .u64 0,.int .u64 0,.str ⟨#[]⟩,.nils,.nils,.int .i64 0,.int .u64 0,.int .u64 0,.int .u64 0,.int .u64 0,.int .u64 0,.int .u64 0,.int .u64 0,.int .u64 0] [],none⟩,
 oS 22 8 54,oI 9 3] .ret) .skip)))) (.ops [oV 55 .add 46 .i64 1,oM 46 55]))))))) (sO [oM 57 0,oQ 58 gM [57],oM 56 58,oE 59 56 0,oE 60 56 1,
 oO 14 (.alloc 1 4 [.int .u64 0]),oT 1 4 4 14 59,oM 11 60] (.seq (sO [oM 61 11,oV 62 .neq 61 .i64 0] (.cond (.t 62) (sO [
 ⟨some 63,.build [.int .i64 0,.bool false,.int .u64 0,.int .u64 0,.int .u64 0,.int .u64 0,.int .u64 0,.int .u64 0,.int .u64 0,.int .u64 0,.str ⟨#[]⟩,.nils,.nils,.int .i64 0,.int .u64 0,.int .u64 0,.int .u64 0,.int .u64 0,.int .u64 0,.int .u64 0,.int .u64 0,.int .u64 0] [],none⟩,
 oM 64 11,oS 22 8 63,oM 9 64] .ret) .skip)) (sO [
 ⟨some 65,.build [.int .i64 0,.bool false,.int .u64 0,.int .u64 0,.int .u64 0,.int .u64 0,.int .u64 0,.int .u64 0,.int .u64 0,.int .u64 0,.str ⟨#[]⟩,.nils,.nils,.int .i64 0,.int .u64 0,.int .u64 0,.int .u64 0,.int .u64 0,.int .u64 0,.int .u64 0,.int .u64 0,.int .u64 0] [(0,1,.c (.int .i64 2))],none⟩,
 ⟨some 15,.alloc 22 1 [.int .i64 0,.bool false,.int .u64 0,.int .u64 0,.int .u64 0,.int .u64 0,.int .u64 0,.int .u64 0,.int .u64 0,.int .u64 0,.str ⟨#[]⟩,.nils,.nils,.int .i64 0,.int .u64 0,.int .u64 0,.int .u64 0,.int .u64 0,.int .u64 0,.int .u64 0,.int .u64 0,.int .u64 0],none⟩,
 oS 22 15 65] (.seq (sO [oM 66 2,oL 67 66,oI 68 0] (.block 3 (.loop (sO [oW 69 .lss 68 67] (.seq (.cond (.t 69) .skip (.exit 3)) (.seq (.block 4 (sO [oM 70 68,oX 71 26 66 68,
 oD 72 26 true 71,
 ⟨some 17,.alloc 26 1 [.int .i64 0,.bool false,.int .u64 0,.int .u64 0,.int .u64 0,.int .u64 0,.int .u64 0,.int .u64 0,.int .u64 0,.int .u64 0,.str ⟨#[]⟩,.int .i64 0,.bool false,.nils,.nils,.bool false,.bool false,.bool false,.int .u64 0,.int .u64 0,.int .u64 0,.int .u64 0,.int .u64 0,.int .u64 0,.int .u64 0,.int .u64 0],none⟩,
 oM 16 70,oS 26 17 72] (sO [oM 73 16,oV 74 .add 73 .i64 1,oM 18 74] (.seq (sO [oM 75 18,oM 76 3,oW 77 .eql 75 76] (.cond (.t 77) (.exit 4) .skip)) (sO [oD 79 4 true 14,
 oF 80 1 17,oD 81 9 true 80,oQ 82 kL [79,81],oM 78 82,oE 83 78 0,oE 84 78 1,
 oO 19 (.alloc 9 1 [.bool false,.int .u64 0,.int .u64 0,.int .u64 0,.int .u64 0,.int .u64 0,.int .u64 0,.int .u64 0,.int .u64 0]),oT 9 1 9 19 83,oM 20 84] (.seq (sO [
 oM 85 20,oV 86 .neq 85 .i64 0] (.cond (.t 86) (sO [
 ⟨some 87,.build [.int .i64 0,.bool false,.int .u64 0,.int .u64 0,.int .u64 0,.int .u64 0,.int .u64 0,.int .u64 0,.int .u64 0,.int .u64 0,.str ⟨#[]⟩,.nils,.nils,.int .i64 0,.int .u64 0,.int .u64 0,.int .u64 0,.int .u64 0,.int .u64 0,.int .u64 0,.int .u64 0,.int .u64 0] [],none⟩,
 oM 88 20,oS 22 8 87,oM 9 88] .ret) .skip)) (.seq (.draw [oD 90 9 true 19,oM 91 3,oM 92 18,oM 93 10,oM 94 18,oQ 95 jN [94],oQ 96 mH [93,95],
 oQ 97 mI [90,91,92,96],oM 89 97,oE 98 89 0,oE 99 89 1,oO 21 (.alloc 1 32 [.int .u8 0]),oS 32 21 98,
 oM 20 99] ⟨.all,[(11,some 12)],.look 0 (.look 1 (.look 2 (.look 3 (.look 4 (.run 5 true (.run 6 true (.run 7 true (.look 8 (.look 9 (.pre 11 12 (.look 10 (.fill (.look 13 .done)))))))))))))⟩)
 (.seq (sO [oM 100 20,oV 101 .neq 100 .i64 0] (.cond (.t 101) (sO [
 ⟨some 102,.build [.int .i64 0,.bool false,.int .u64 0,.int .u64 0,.int .u64 0,.int .u64 0,.int .u64 0,.int .u64 0,.int .u64 0,.int .u64 0,.str ⟨#[]⟩,.nils,.nils,.int .i64 0,.int .u64 0,.int .u64 0,.int .u64 0,.int .u64 0,.int .u64 0,.int .u64 0,.int .u64 0,.int .u64 0] [],none⟩,
 oM 103 20,oS 22 8 102,oM 9 103] .ret) .skip)) (.ops [oF 104 11 15,oD 105 1 false 104,oD 106 32 true 21,oO 107 (.bsl 32 1 (List.replicate 32 (.int .u8 0)) [(0,32,.t 106)]),
 oO 108 (.app 32 32 (.t 105) (.t 107)),oF 109 11 15,oS 1 109 108]))))))))) (.ops [oV 110 .add 68 .i64 1,oM 68 110]))))))) (sO [oM 112 10,oQ 113 lH [112],oM 111 113,
 oE 114 111 0,oE 115 111 1,oF 116 12 15,oS 1 116 114,oM 11 115] (.seq (sO [oM 117 11,oV 118 .neq 117 .i64 0] (.cond (.t 118) (sO [
 ⟨some 119,.build [.int .i64 0,.bool false,.int .u64 0,.int .u64 0,.int .u64 0,.int .u64 0,.int .u64 0,.int .u64 0,.int .u64 0,.int .u64 0,.str ⟨#[]⟩,.nils,.nils,.int .i64 0,.int .u64 0,.int .u64 0,.int .u64 0,.int .u64 0,.int .u64 0,.int .u64 0,.int .u64 0,.int .u64 0] [],none⟩,
 oM 120 11,oS 22 8 119,oM 9 120] .ret) .skip)) (sO [oD 121 22 true 15,oS 22 8 121,oI 9 0] .ret)))))))))))⟩
theorem tR:BT A_deal_Post gN:=fun h=>aD aH Tryz.func55 (by kernel_rfl) (by kernel_rfl) h
noncomputable def yG:AFun:=⟨4,87,[.cell 8 22 true,.t 9],
 (sO [
 ⟨some 8,.alloc 22 1 [.int .i64 0,.bool false,.int .u64 0,.int .u64 0,.int .u64 0,.int .u64 0,.int .u64 0,.int .u64 0,.int .u64 0,.int .u64 0,.str ⟨#[]⟩,.nils,.nils,.int .i64 0,.int .u64 0,.int .u64 0,.int .u64 0,.int .u64 0,.int .u64 0,.int .u64 0,.int .u64 0,.int .u64 0],none⟩,
 oI 9 0] (.seq (sO [oM 14 1,oV 15 .lss 14 .i64 0,oM 16 15,oG 17 (.mv (.t 1)) 16 false,oG 18 (.bin .geq (.t 17) (.c (.int .i64 64))) 16 false,
 oO 19 (.pick (.t 16) (.c (.bool true)) (.t 18)),oM 20 19,oG 21 (.mv (.t 3)) 20 false,oG 22 (.bin .lss (.t 21) (.c (.int .i64 1))) 20 false,
 oO 23 (.pick (.t 20) (.c (.bool true)) (.t 22)),oM 24 23,oG 25 (.mv (.t 3)) 24 false,oG 26 (.mv (.t 2)) 24 false,oG 27 (.len (.t 26)) 24 false,
 oG 28 (.bin .gtr (.t 25) (.t 27)) 24 false,oO 29 (.pick (.t 24) (.c (.bool true)) (.t 28)),oM 30 29,oG 31 (.mv (.t 2)) 30 false,oG 32 (.len (.t 31)) 30 false,
 oG 33 (.bin .gtr (.t 32) (.c (.int .i64 8))) 30 false,oO 34 (.pick (.t 30) (.c (.bool true)) (.t 33))] (.cond (.t 34) (sO [
 ⟨some 35,.build [.int .i64 0,.bool false,.int .u64 0,.int .u64 0,.int .u64 0,.int .u64 0,.int .u64 0,.int .u64 0,.int .u64 0,.int .u64 0,.str ⟨#[]⟩,.nils,.nils,.int .i64 0,.int .u64 0,.int .u64 0,.int .u64 0,.int .u64 0,.int .u64 0,.int .u64 0,.int .u64 0,.int .u64 0] [],none⟩,
 oS 22 8 35,oI 9 1] .ret) .skip)) (.seq (sO [oI 10 0] (.block 0 (.loop (.seq (sO [oM 36 10,oM 37 2,oL 38 37,oW 39 .lss 36 38] (.cond (.t 39) .skip (.exit 0))) (.seq (.block 1
 (sO [oM 42 2,oM 43 10,oX 44 26 42 43,oF 45 1 44,oD 46 9 true 45,oQ 47 bU [46],oU 48 47] (.cond (.t 48) (sO [
 ⟨some 49,.build [.int .i64 0,.bool false,.int .u64 0,.int .u64 0,.int .u64 0,.int .u64 0,.int .u64 0,.int .u64 0,.int .u64 0,.int .u64 0,.str ⟨#[]⟩,.nils,.nils,.int .i64 0,.int .u64 0,.int .u64 0,.int .u64 0,.int .u64 0,.int .u64 0,.int .u64 0,.int .u64 0,.int .u64 0] [],none⟩,
 oS 22 8 49,oI 9 3] .ret) .skip))) (.ops [oM 40 10,oV 41 .add 40 .i64 1,oM 10 41])))))) (sO [oM 50 0,oM 51 1,oQ 52 fQ [50,51],oM 11 52] (sO [oM 53 11,
 oQ 54 gF [53],
 ⟨some 55,.build [.int .i64 0,.bool false,.int .u64 0,.int .u64 0,.int .u64 0,.int .u64 0,.int .u64 0,.int .u64 0,.int .u64 0,.int .u64 0,.str ⟨#[]⟩,.nils,.nils,.int .i64 0,.int .u64 0,.int .u64 0,.int .u64 0,.int .u64 0,.int .u64 0,.int .u64 0,.int .u64 0,.int .u64 0] [(0,1,.c (.int .i64 2)),(12,1,.t 54)],none⟩,
 ⟨some 12,.alloc 22 1 [.int .i64 0,.bool false,.int .u64 0,.int .u64 0,.int .u64 0,.int .u64 0,.int .u64 0,.int .u64 0,.int .u64 0,.int .u64 0,.str ⟨#[]⟩,.nils,.nils,.int .i64 0,.int .u64 0,.int .u64 0,.int .u64 0,.int .u64 0,.int .u64 0,.int .u64 0,.int .u64 0,.int .u64 0],none⟩,
 oS 22 12 55] (.seq (sO [oI 13 1] (.block 2 (.loop (.seq (sO [oM 56 13,oM 57 2,oL 58 57,oW 59 .leq 56 58] (.cond (.t 59) .skip (.exit 2))) (.seq (.block 3 (sO [oM 62 13,oM 63 3,
 oW 64 .neq 62 63] (.cond (.t 64) (.draw [oF 65 11 12,oD 66 1 false 65,oM 67 0,oQ 68 cP [67],oM 69 2,oM 70 13,oV 71 .sub 70 .i64 1,oX 72 26 69 71,oF 73 1 72,
 oD 74 9 true 73,oQ 75 bD [68,74],oM 76 3,oM 77 13,oM 78 11,oM 79 13,oQ 80 eV [79],oQ 81 fT [78,80],
 oQ 82 fR [75,76,77,81],oO 83 (.bsl 32 1 (List.replicate 32 (.int .u8 0)) [(0,32,.t 82)]),oO 84 (.app 32 32 (.t 66) (.t 83)),oF 85 11 12,
 oS 1 85 84] ⟨.all,[],.look 0 (.look 1 (.look 2 (.look 4 (.look 5 (.look 6 (.look 7 (.look 8 (.look 9 (.look 11 (.look 12 (.look 13 (.look 14 (.run 3 true (.run 10 true (.run 15 true (.run 16 true (.run 17 true (.run 18 true (.run 19 false (.look 20 (.run 21 false .done)))))))))))))))))))))⟩)
 .skip))) (.ops [oM 60 13,oV 61 .add 60 .i64 1,oM 13 61])))))) (sO [oD 86 22 true 12,oS 22 8 86,oI 9 0] .ret)))))))⟩
theorem kO:BT yG cR:=fun h=>aD aH Tryz.func56 (by kernel_rfl) (by kernel_rfl) h
noncomputable def wC:AFun:=⟨4,110,[.cell 8 4 true,.t 9,.t 10],
 (sO [oO 8 (.alloc 1 4 [.int .u64 0]),oB 9 false,oI 10 0] (sO [oM 15 2,oM 16 3,oQ 17 fC [15,16],oM 11 17] (.seq (sO [oM 18 11,oV 19 .lss 18 .i64 0] (.cond (.t 19)
 (sO [oO 20 (.build [.int .u64 0,.int .u64 0,.int .u64 0,.int .u64 0] []),oT 1 4 4 8 20,oB 9 false,oI 10 1] .ret) .skip)) (.seq (sO [oM 21 2,oM 22 1,oL 23 22,oW 24 .gtr 21 23,
 oM 25 24,oG 26 (.mv (.t 3)) 25 false,oG 27 (.mv (.t 1)) 25 false,oG 28 (.len (.t 27)) 25 false,oG 29 (.bin .gtr (.t 26) (.t 28)) 25 false,
 oO 30 (.pick (.t 25) (.c (.bool true)) (.t 29)),oM 31 30,oG 32 (.mv (.t 1)) 31 false,oG 33 (.mv (.t 2)) 31 false,oG 34 (.bin .sub (.t 33) (.c (.int .i64 1))) 31 false,
 oG 35 (.idxA 26 (.t 32) (.t 34)) 31 false,oG 36 (.fldA 12 (.t 35)) 31 false,oG 37 (.load 1 false (.t 36)) 31 false,oG 38 (.un .not (.t 37)) 31 false,
 oO 39 (.pick (.t 31) (.c (.bool true)) (.t 38)),oM 40 39,oG 41 (.mv (.t 11)) 40 false,oG 42 (.mv (.t 1)) 40 false,oG 43 (.mv (.t 2)) 40 false,
 oG 44 (.bin .sub (.t 43) (.c (.int .i64 1))) 40 false,oG 45 (.idxA 26 (.t 42) (.t 44)) 40 false,oG 46 (.fldA 13 (.t 45)) 40 false,oG 47 (.load 1 false (.t 46)) 40 false,
 oG 48 (.len (.t 47)) 40 false,oG 49 (.bin .geq (.t 41) (.t 48)) 40 false,oO 50 (.pick (.t 40) (.c (.bool true)) (.t 49))] (.cond (.t 50) (sO [
 oO 51 (.build [.int .u64 0,.int .u64 0,.int .u64 0,.int .u64 0] []),oT 1 4 4 8 51,oB 9 false,oI 10 5] .ret) .skip)) (.seq (sO [oM 52 1,oM 53 2,oV 54 .sub 53 .i64 1,
 oX 55 26 52 54,oF 56 1 55,oD 57 9 true 56,oQ 58 bU [57],oU 59 58] (.cond (.t 59) (sO [oO 60 (.build [.int .u64 0,.int .u64 0,.int .u64 0,.int .u64 0] []),
 oT 1 4 4 8 60,oB 9 false,oI 10 3] .ret) .skip)) (.seq (sO [oM 61 1,oM 62 2,oV 63 .sub 62 .i64 1,oX 64 26 61 63,oF 65 14 64,oD 66 1 false 65,oL 67 66,oV 68 .gtr 67 .i64 64]
 (.cond (.t 68) (sO [oO 69 (.build [.int .u64 0,.int .u64 0,.int .u64 0,.int .u64 0] []),oT 1 4 4 8 69,oB 9 false,oI 10 4] .ret) .skip)) (.seq (sO [oM 70 1,oM 71 2,
 oV 72 .sub 71 .i64 1,oX 73 26 70 72,oF 74 14 73,oD 75 1 false 74,oQ 76 bW [75],oU 77 76] (.cond (.t 77) (sO [
 oO 78 (.build [.int .u64 0,.int .u64 0,.int .u64 0,.int .u64 0] []),oT 1 4 4 8 78,oB 9 false,oI 10 3] .ret) .skip)) (.seq (.draw [oM 79 0,oQ 80 cP [79],
 oM 81 1,oM 82 2,oV 83 .sub 82 .i64 1,oX 84 26 81 83,oF 85 1 84,oD 86 9 true 85,oQ 87 bD [80,86],
 oO 12 (.alloc 9 1 [.bool false,.int .u64 0,.int .u64 0,.int .u64 0,.int .u64 0,.int .u64 0,.int .u64 0,.int .u64 0,.int .u64 0]),
 oS 9 12 87] ⟨.all,[(9,some 10)],.look 0 (.look 2 (.look 3 (.look 4 (.look 5 (.look 6 (.look 7 (.run 1 true (.run 8 true (.pre 9 10 (.fill .done))))))))))⟩) (sO [oM 89 1,
 oM 90 2,oM 91 3,oD 92 9 true 12,oQ 93 iL [89,90,91,92],oM 88 93,oE 94 88 0,oE 95 88 1,oM 13 94,oM 14 95] (.seq (.draw [oD 96 9 true 12,oM 97 2,oM 98 3,oM 99 1,
 oM 100 2,oV 101 .sub 100 .i64 1,oX 102 26 99 101,oF 103 13 102,oD 104 1 false 103,oM 105 11,oX 106 32 104 105,oD 107 32 true 106,oQ 108 dY [96,97,98,107],
 oM 109 13,oT 1 4 4 8 108,oM 9 109,
 oI 10 0] ⟨.all,[],.look 0 (.look 1 (.look 2 (.look 3 (.look 4 (.look 5 (.look 6 (.look 7 (.look 8 (.look 9 (.look 10 (.look 11 (.look 13 (.run 12 false (.run 14 false (.look 15 (.look 16 .done))))))))))))))))⟩)
 .ret))))))))))⟩
theorem vL:BT wC dL:=fun h=>aD aH Tryz.func57 (by kernel_rfl) (by kernel_rfl) h
noncomputable def sN:AFun:=⟨4,46,[.cell 8 22 true,.t 9],
 (sO [
 ⟨some 8,.alloc 22 1 [.int .i64 0,.bool false,.int .u64 0,.int .u64 0,.int .u64 0,.int .u64 0,.int .u64 0,.int .u64 0,.int .u64 0,.int .u64 0,.str ⟨#[]⟩,.nils,.nils,.int .i64 0,.int .u64 0,.int .u64 0,.int .u64 0,.int .u64 0,.int .u64 0,.int .u64 0,.int .u64 0,.int .u64 0],none⟩,
 oI 9 0] (.seq (sO [oM 15 0,oM 16 1,oM 17 2,oM 18 3,oQ 19 dL [15,16,17,18],oM 14 19,oE 20 14 0,oE 21 14 1,oE 22 14 2,oO 10 (.alloc 1 4 [.int .u64 0]),
 oT 1 4 4 10 20,oM 11 21,oM 12 22] (sO [oM 23 12,oV 24 .neq 23 .i64 0] (.cond (.t 24) (sO [
 ⟨some 25,.build [.int .i64 0,.bool false,.int .u64 0,.int .u64 0,.int .u64 0,.int .u64 0,.int .u64 0,.int .u64 0,.int .u64 0,.int .u64 0,.str ⟨#[]⟩,.nils,.nils,.int .i64 0,.int .u64 0,.int .u64 0,.int .u64 0,.int .u64 0,.int .u64 0,.int .u64 0,.int .u64 0,.int .u64 0] [],none⟩,
 oM 26 12,oS 22 8 25,oM 9 26] .ret) .skip))) (sO [oM 27 1,oM 28 2,oV 29 .sub 28 .i64 1,oX 30 26 27 29,oF 31 1 30,oD 32 9 true 31,
 oO 13 (.alloc 9 1 [.bool false,.int .u64 0,.int .u64 0,.int .u64 0,.int .u64 0,.int .u64 0,.int .u64 0,.int .u64 0,.int .u64 0]),oT 9 1 9 13 32] (.seq (.draw [oM 33 2,
 oM 34 0,oQ 35 cP [34],oD 36 9 true 13,oQ 37 bD [35,36],oM 38 0,oQ 39 cP [38],oM 40 0,oM 41 2,
 oQ 42 gZ [40,41],oD 43 9 true 13,oQ 44 fD [39,42,43],
 ⟨some 45,.build [.int .i64 0,.bool false,.int .u64 0,.int .u64 0,.int .u64 0,.int .u64 0,.int .u64 0,.int .u64 0,.int .u64 0,.int .u64 0,.str ⟨#[]⟩,.nils,.nils,.int .i64 0,.int .u64 0,.int .u64 0,.int .u64 0,.int .u64 0,.int .u64 0,.int .u64 0,.int .u64 0,.int .u64 0] [(0,1,.c (.int .i64 3)),(13,1,.t 33),(1,9,.t 37),(14,8,.t 44)],none⟩,
 oS 22 8 45,
 oI 9 0] ⟨.all,[],.look 0 (.look 1 (.look 3 (.look 5 (.look 7 (.look 8 (.look 10 (.run 2 true (.run 4 true (.run 6 true (.run 9 true (.run 11 true (.look 12 (.run 13 false (.look 14 .done))))))))))))))⟩)
 .ret))))⟩
theorem sM:BT sN fM:=fun h=>aD aH Tryz.func58 (by kernel_rfl) (by kernel_rfl) h
noncomputable def A_deal_Final:AFun:=⟨4,71,[.cell 8 4 true,.t 9],
 (sO [oO 8 (.alloc 1 4 [.int .u64 0]),oI 9 0] (sO [oM 17 0,oM 18 1,oQ 19 jJ [17,18],oM 16 19,oE 20 16 0,oE 21 16 1,oM 10 20,oM 11 21] (.seq (.block 0 (sO [oM 23 11,
 oV 24 .neq 23 .i64 0,oM 22 24] (.cond (.t 22) (sO [oO 25 (.build [.int .u64 0,.int .u64 0,.int .u64 0,.int .u64 0] []),oM 26 11,oT 1 4 4 8 25,oM 9 26] .ret) (sO [oM 28 2,
 oM 29 3,oQ 30 gL [28,29],oU 31 30,oM 27 31] (.cond (.t 27) (sO [oO 32 (.build [.int .u64 0,.int .u64 0,.int .u64 0,.int .u64 0] []),oT 1 4 4 8 32,oI 9 1] .ret)
 .skip))))) (sO [oO 12 (.alloc 1 4 [.int .u64 0])] (.seq (sO [oM 33 2,oL 34 33,oI 35 0] (.block 1 (.loop (sO [oW 36 .lss 35 34] (.seq (.cond (.t 36) .skip (.exit 1))
 (.seq (.block 2 (sO [oM 37 35,oX 38 26 33 35,oD 39 26 true 38,
 ⟨some 14,.alloc 26 1 [.int .i64 0,.bool false,.int .u64 0,.int .u64 0,.int .u64 0,.int .u64 0,.int .u64 0,.int .u64 0,.int .u64 0,.int .u64 0,.str ⟨#[]⟩,.int .i64 0,.bool false,.nils,.nils,.bool false,.bool false,.bool false,.int .u64 0,.int .u64 0,.int .u64 0,.int .u64 0,.int .u64 0,.int .u64 0,.int .u64 0,.int .u64 0],none⟩,
 oM 13 37,oS 26 14 39] (sO [oM 40 10,oM 41 3,oQ 42 jN [41],oQ 43 mH [40,42],oO 15 (.alloc 1 4 [.int .u64 0]),oT 1 4 4 15 43] (.seq (.block 3 (sO [oF 45 15 14,
 oD 46 1 false 45,oM 44 46] (.cond (.t 44) (.exit 2) (sO [oM 48 13,oV 49 .add 48 .i64 1,oM 50 3,oW 51 .neq 49 50,oM 47 51] (.cond (.t 47) (sO [oM 53 0,oM 54 2,oM 55 13,
 oV 56 .add 55 .i64 1,oM 57 3,oQ 58 kW [53,54,56,57],oM 52 58,oE 59 52 0,oE 60 52 1,oE 61 52 2,oT 1 4 4 15 59,oM 11 61] (sO [oM 62 11,oV 63 .neq 62 .i64 0]
 (.cond (.t 63) (sO [oO 64 (.build [.int .u64 0,.int .u64 0,.int .u64 0,.int .u64 0] []),oM 65 11,oT 1 4 4 8 64,oM 9 65] .ret) .skip))) .skip))))) (.ops [oD 66 4 true 12,
 oD 67 4 true 15,oK 68 gK [.c (.int .i64 1),.t 66,.t 67],oT 1 4 4 12 68]))))) (.ops [oV 69 .add 35 .i64 1,oM 35 69]))))))) (sO [oD 70 4 true 12,oT 1 4 4 8 70,oI 9 0]
 .ret))))))⟩
theorem zQ:BT A_deal_Final jO:=fun h=>aD aH Tryz.func59 (by kernel_rfl) (by kernel_rfl) h
noncomputable def wD:AFun:=⟨4,72,[.cell 8 4 true,.t 9],
 (sO [oO 8 (.alloc 1 4 [.int .u64 0]),oI 9 0] (.seq (sO [oM 16 1,oV 17 .lss 16 .i64 0,oM 18 17,oG 19 (.mv (.t 1)) 18 false,oG 20 (.bin .geq (.t 19) (.c (.int .i64 64))) 18 false,
 oO 21 (.pick (.t 18) (.c (.bool true)) (.t 20)),oM 22 21,oG 23 (.mv (.t 3)) 22 false,oG 24 (.bin .lss (.t 23) (.c (.int .i64 1))) 22 false,
 oO 25 (.pick (.t 22) (.c (.bool true)) (.t 24)),oM 26 25,oG 27 (.mv (.t 3)) 26 false,oG 28 (.mv (.t 2)) 26 false,oG 29 (.len (.t 28)) 26 false,
 oG 30 (.bin .gtr (.t 27) (.t 29)) 26 false,oO 31 (.pick (.t 26) (.c (.bool true)) (.t 30))] (.cond (.t 31) (sO [
 oO 32 (.build [.int .u64 0,.int .u64 0,.int .u64 0,.int .u64 0] []),oT 1 4 4 8 32,oI 9 1] .ret) .skip)) (sO [oO 10 (.alloc 1 4 [.int .u64 0])] (.seq (sO [oI 11 1] (.block 0
 (.loop (.seq (sO [oM 33 11,oM 34 2,oL 35 34,oW 36 .leq 33 35] (.cond (.t 36) .skip (.exit 0))) (.seq (.block 1 (sO [oM 39 0,oM 40 1,oQ 41 fQ [39,40],oM 42 3,
 oQ 43 eV [42],oQ 44 fT [41,43],oO 12 (.alloc 1 4 [.int .u64 0]),oT 1 4 4 12 44] (.seq (sO [oM 45 2,oM 46 11,oV 47 .sub 46 .i64 1,oX 48 26 45 47,
 oF 49 15 48,oD 50 1 false 49] (.cond (.t 50) (.exit 1) .skip)) (.seq (sO [oM 51 11,oM 52 3,oW 53 .neq 51 52] (.cond (.t 53) (sO [oM 55 0,oM 56 2,oM 57 11,oM 58 3,
 oQ 59 dL [55,56,57,58],oM 54 59,oE 60 54 0,oE 61 54 1,oE 62 54 2,oO 13 (.alloc 1 4 [.int .u64 0]),oT 1 4 4 13 60,oM 14 61,oM 15 62] (.seq (sO [oM 63 15,
 oV 64 .neq 63 .i64 0] (.cond (.t 64) (sO [oO 65 (.build [.int .u64 0,.int .u64 0,.int .u64 0,.int .u64 0] []),oM 66 15,oT 1 4 4 8 65,oM 9 66] .ret) .skip)) (.ops [
 oD 67 4 true 13,oT 1 4 4 12 67]))) .skip)) (.ops [oD 68 4 true 10,oD 69 4 true 12,oK 70 cD [.c (.int .i64 1),.t 68,.t 69],oT 1 4 4 10 70]))))) (.ops [oM 37 11,
 oV 38 .add 37 .i64 1,oM 11 38])))))) (sO [oD 71 4 true 10,oT 1 4 4 8 71,oI 9 0] .ret)))))⟩
theorem nH:BT wD dM:=fun h=>aD aH Tryz.func60 (by kernel_rfl) (by kernel_rfl) h
noncomputable def A_curve_Base:AFun:=⟨1,8,[.cell 2 9 true],
 (sO [oO 1 (.box 1 4 (.t 0)),oO 2 (.alloc 9 1 [.bool false,.int .u64 0,.int .u64 0,.int .u64 0,.int .u64 0,.int .u64 0,.int .u64 0,.int .u64 0,.int .u64 0])]
 (.seq (.draw [oK 3 nE [],oQ 4 fJ [3],oD 5 4 true 1,oQ 6 dE [4,5],oQ 7 dZ [6],
 oT 9 1 9 2 7] ⟨.all,[],.look 2 (.run 0 true (.run 1 true (.run 3 false (.run 4 false (.run 5 false .done)))))⟩) .ret))⟩
theorem B_curve_Base:BT A_curve_Base fI:=fun h=>aD aH Tryz.func61 (by kernel_rfl) (by kernel_rfl) h
noncomputable def A_feld_Fits:AFun:=⟨3,23,[.t 6,.t 7],
 (sO [oO 4 (.box 1 4 (.t 1)),oO 5 (.box 1 4 (.t 2)),oB 6 false,oI 7 0] (sO [oM 11 0,oD 12 4 true 4,oQ 13 pI [11,12],oM 10 13,oE 14 10 0,oE 15 10 1,
 oO 8 (.alloc 9 1 [.bool false,.int .u64 0,.int .u64 0,.int .u64 0,.int .u64 0,.int .u64 0,.int .u64 0,.int .u64 0,.int .u64 0]),oT 9 1 9 8 14,oM 9 15] (.seq (sO [
 oM 16 9,oV 17 .neq 16 .i64 0] (.cond (.t 17) (sO [oM 18 9,oB 6 false,oM 7 18] .ret) .skip)) (.seq (.draw [oD 19 4 true 5,oQ 20 fI [19],oD 21 9 true 8,
 oO 22 (.eqa [.b,.i,.i,.i,.i,.i,.i,.i,.i] false (.t 20) (.t 21)),oM 6 22,oI 7 0] ⟨.all,[],.look 0 (.look 2 (.run 1 true (.look 3 (.look 4 (.look 5 .done)))))⟩) .ret))))⟩
theorem B_feld_Fits:BT A_feld_Fits iF:=fun h=>aD aH Tryz.func63 (by kernel_rfl) (by kernel_rfl) h
noncomputable def yZ:AFun:=⟨2,26,[.t 4],
 (sO [oB 4 false] (.seq (sO [oM 6 0,oL 7 6,oM 8 1,oL 9 8,oW 10 .neq 7 9] (.cond (.t 10) (sO [oB 4 false] .ret) .skip)) (.seq (sO [oI 5 0] (.block 0 (.loop (.seq (sO [oM 11 5,
 oM 12 0,oL 13 12,oW 14 .lss 11 13] (.cond (.t 14) .skip (.exit 0))) (.seq (.block 1 (.seq (.draw [oM 17 0,oM 18 5,oX 19 32 17 18,oD 20 32 true 19,oM 21 1,oM 22 5,oX 23 32 21 22,
 oD 24 32 true 23,oO 25 (.eqa (List.replicate 32 (.i)) true (.t 20) (.t 24))] ⟨.no,[],.flat⟩) (.cond (.t 25) (sO [oB 4 false] .ret) .skip))) (.ops [oM 15 5,
 oV 16 .add 15 .i64 1,oM 5 16])))))) (sO [oB 4 true] .ret))))⟩
theorem xZ:BT yZ fY:=fun h=>aD aH Tryz.func72 (by kernel_rfl) (by kernel_rfl) h
noncomputable def wQ:AFun:=⟨2,27,[.t 4],
 (sO [oB 4 false] (.seq (sO [oM 6 0,oL 7 6,oM 8 1,oL 9 8,oW 10 .neq 7 9] (.cond (.t 10) (sO [oB 4 false] .ret) .skip)) (.seq (sO [oI 5 0] (.block 0 (.loop (.seq (sO [oM 11 5,
 oM 12 0,oL 13 12,oW 14 .lss 11 13] (.cond (.t 14) .skip (.exit 0))) (.seq (.block 1 (.seq (.draw [oM 17 0,oM 18 5,oX 19 9 17 18,oD 20 9 true 19,oM 21 1,oM 22 5,oX 23 9 21 22,
 oD 24 9 true 23,oQ 25 cF [20,24],
 oU 26 25] ⟨.all,[],.look 0 (.look 1 (.look 2 (.look 3 (.look 4 (.look 5 (.look 6 (.look 7 (.run 8 true (.look 9 .done)))))))))⟩) (.cond (.t 26) (sO [oB 4 false] .ret) .skip)))
 (.ops [oM 15 5,oV 16 .add 15 .i64 1,oM 5 16])))))) (sO [oB 4 true] .ret))))⟩
theorem vW:BT wQ fG:=fun h=>aD aH Tryz.func73 (by kernel_rfl) (by kernel_rfl) h
noncomputable def zA:AFun:=⟨2,17,[.t 4],
 (sO [oO 2 (.box 8 1 (.t 0)),oO 3 (.box 8 1 (.t 1)),oB 4 false] (sO [oF 5 0 2,oD 6 4 true 5,oF 7 0 3,oD 8 4 true 7,oO 9 (.eqa [.i,.i,.i,.i] false (.t 6) (.t 8)),oM 10 9,
 oG 11 (.fldA 4 (.t 2)) 10 true,oG 12 (.load 4 true (.t 11)) 10 true,oG 13 (.fldA 4 (.t 3)) 10 true,oG 14 (.load 4 true (.t 13)) 10 true,
 oG 15 (.eqa [.i,.i,.i,.i] false (.t 12) (.t 14)) 10 true,oO 16 (.pick (.t 10) (.t 15) (.c (.bool false))),oM 4 16] .ret))⟩
theorem yA:BT zA iO:=fun h=>aD aH Tryz.func74 (by kernel_rfl) (by kernel_rfl) h
noncomputable def qO:AFun:=⟨1,7,[.t 2],
 (sO [oO 2 (.mv (.c (.nils)))] (sO [oO 3 (.mv (.c (.nils)))] (sO [oM 4 3,oM 5 0,oO 6 (.app 9 72 (.t 4) (.t 5)),oM 2 6] .ret)))⟩
theorem qL:BT qO eM:=fun h=>aD aH Tryz.func79 (by kernel_rfl) (by kernel_rfl) h
noncomputable def A_judge_dealer:AFun:=⟨1,9,[.t 2],
 (sO [oB 2 false] (sO [oM 3 0,oV 4 .geq 3 .i64 1,oM 5 4,oG 6 (.mv (.t 0)) 5 true,oG 7 (.bin .leq (.t 6) (.c (.int .i64 8))) 5 true,oO 8 (.pick (.t 5) (.t 7) (.c (.bool false))),
 oM 2 8] .ret))⟩
theorem B_judge_dealer:BT A_judge_dealer iX:=fun h=>aD aH Tryz.func80 (by kernel_rfl) (by kernel_rfl) h
noncomputable def A_curve_Check:AFun:=⟨1,33,[.t 2],
 (sO [oO 1 (.box 9 1 (.t 0)),oI 2 0] (.seq (sO [oF 4 0 1,oD 5 1 false 4] (.cond (.t 5) (.seq (sO [oD 6 9 true 1,
 oO 7 (.build [.bool false,.int .u64 0,.int .u64 0,.int .u64 0,.int .u64 0,.int .u64 0,.int .u64 0,.int .u64 0,.int .u64 0] [(0,1,.c (.bool true))]),
 oO 8 (.eqa [.b,.i,.i,.i,.i,.i,.i,.i,.i] true (.t 6) (.t 7))] (.cond (.t 8) (sO [oI 2 3] .ret) .skip)) (sO [oI 2 0] .ret)) .skip)) (sO [
 oK 9 dJ [.c (.int .i64 0)],oO 3 (.alloc 1 4 [.int .u64 0]),oT 1 4 4 3 9] (.seq (.seq (.draw [oF 10 1 1,oD 11 4 true 10,oD 12 4 true 3,oQ 13 iP [11,12],
 oV 14 .geq 13 .i64 0,oM 15 14,oG 16 (.fldA 5 (.t 1)) 15 false,oG 17 (.load 4 true (.t 16)) 15 false,oG 18 (.load 4 true (.t 3)) 15 false,
 oG 19 (.call (.c (.fn iP [])) [.t 17,.t 18]) 15 false,oG 20 (.bin .geq (.t 19) (.c (.int .i64 0))) 15 false,oO 21 (.pick (.t 15) (.c (.bool true)) (.t 20)),oM 22 21,
 oG 23 (.fldA 5 (.t 1)) 22 false,oG 24 (.load 4 true (.t 23)) 22 false,oG 25 (.fldA 5 (.t 1)) 22 false,oG 26 (.load 4 true (.t 25)) 22 false,
 oG 27 (.call (.c (.fn aR [])) [.t 24,.t 26]) 22 false,oG 28 (.fldA 1 (.t 1)) 22 false,oG 29 (.load 4 true (.t 28)) 22 false,
 oG 30 (.call (.c (.fn lL [])) [.t 29]) 22 false,oG 31 (.eqa [.i,.i,.i,.i] true (.t 27) (.t 30)) 22 false,
 oO 32 (.pick (.t 22) (.c (.bool true)) (.t 31))] ⟨.all,[],.look 0 (.look 1 (.look 2 (.run 3 true (.look 4 (.look 5 (.look 6 (.look 7 (.look 8 (.run 9 true (.look 10 (.look 11 (.look 12 (.look 13 (.look 14 (.look 15 (.look 16 (.look 18 (.look 19 (.run 17 true (.run 20 true (.look 21 (.look 22 .done))))))))))))))))))))))⟩)
 (.cond (.t 32) (sO [oI 2 3] .ret) .skip)) (sO [oI 2 0] .ret)))))⟩
theorem B_curve_Check:BT A_curve_Check cG:=fun h=>aD aH Tryz.func82 (by kernel_rfl) (by kernel_rfl) h
noncomputable def A_pair_Open:AFun:=⟨4,26,[.cell 8 4 true,.t 9],
 (sO [oO 4 (.box 9 1 (.t 0)),oO 7 (.box 1 32 (.t 3)),oO 8 (.alloc 1 4 [.int .u64 0]),oI 9 0] (sO [oD 13 9 true 4,oM 14 1,oM 15 2,oD 16 32 true 7,
 oQ 17 dI [13,14,15,16],oM 12 17,oE 18 12 0,oE 19 12 1,oO 10 (.alloc 1 32 [.int .u8 0]),oS 32 10 18,oM 11 19] (.seq (sO [oM 20 11,oV 21 .neq 20 .i64 0]
 (.cond (.t 21) (sO [oO 22 (.build [.int .u64 0,.int .u64 0,.int .u64 0,.int .u64 0] []),oM 23 11,oT 1 4 4 8 22,oM 9 23] .ret) .skip)) (sO [oD 24 32 true 10,
 oQ 25 mK [24],oT 1 4 4 8 25,oI 9 0] .ret))))⟩
theorem B_pair_Open:BT A_pair_Open mJ:=fun h=>aD aH Tryz.func83 (by kernel_rfl) (by kernel_rfl) h
noncomputable def A_limb_Cmp:AFun:=⟨2,26,[.t 4],
 (sO [oO 2 (.box 1 4 (.t 0)),oO 3 (.box 1 4 (.t 1)),oI 4 0] (.seq (sO [oI 5 3] (.block 0 (.loop (.seq (sO [oM 6 5,oV 7 .geq 6 .i64 0] (.cond (.t 7) .skip (.exit 0)))
 (.seq (.block 1 (.block 2 (.seq (.draw [oM 11 5,oO 12 (.idxP 4 1 (.t 2) (.t 11)),oD 13 1 false 12,oM 14 5,oO 15 (.idxP 4 1 (.t 3) (.t 14)),oD 16 1 false 15,oW 17 .lss 13 16,
 oM 10 17] ⟨.no,[],.flat⟩) (.cond (.t 10) (sO [oI 4 (-1)] .ret) (.seq (.draw [oM 19 5,oO 20 (.idxP 4 1 (.t 2) (.t 19)),oD 21 1 false 20,oM 22 5,
 oO 23 (.idxP 4 1 (.t 3) (.t 22)),oD 24 1 false 23,oW 25 .gtr 21 24,oM 18 25] ⟨.no,[],.flat⟩) (.cond (.t 18) (sO [oI 4 1] .ret) .skip)))))) (.ops [oM 8 5,oV 9 .sub 8 .i64 1,
 oM 5 9])))))) (sO [oI 4 0] .ret)))⟩
theorem B_limb_Cmp:BT A_limb_Cmp iP:=fun h=>aD aH Tryz.func84 (by kernel_rfl) (by kernel_rfl) h
noncomputable def tV:AFun:=⟨1,16,[.t 2],
 (sO [oB 2 false] (.seq (sO [oI 3 0] (.block 0 (.loop (.seq (sO [oM 4 3,oM 5 0,oL 6 5,oW 7 .lss 4 6] (.cond (.t 7) .skip (.exit 0))) (.seq (.block 1 (sO [oM 10 0,oM 11 3,
 oX 12 9 10 11,oD 13 9 true 12,oQ 14 bU [13],oU 15 14] (.cond (.t 15) (sO [oB 2 false] .ret) .skip))) (.ops [oM 8 3,oV 9 .add 8 .i64 1,oM 3 9])))))) (sO [
 oB 2 true] .ret)))⟩
theorem mP:BT tV bW:=fun h=>aD aH Tryz.func85 (by kernel_rfl) (by kernel_rfl) h
noncomputable def wM:AFun:=⟨1,45,[.t 2],
 (sO [oO 1 (.box 9 1 (.t 0)),oB 2 false] (.seq (sO [oF 3 0 1,oD 4 1 false 3] (.cond (.t 4) (sO [oF 5 1 1,oD 6 4 true 5,
 oO 7 (.build [.int .u64 0,.int .u64 0,.int .u64 0,.int .u64 0] []),oO 8 (.eqa [.i,.i,.i,.i] false (.t 6) (.t 7)),oM 9 8,oG 10 (.fldA 5 (.t 1)) 9 true,
 oG 11 (.load 4 true (.t 10)) 9 true,oG 12 (.build [.int .u64 0,.int .u64 0,.int .u64 0,.int .u64 0] []) 9 true,oG 13 (.eqa [.i,.i,.i,.i] false (.t 11) (.t 12)) 9 true,
 oO 14 (.pick (.t 9) (.t 13) (.c (.bool false))),oM 2 14] .ret) .skip)) (.seq (.draw [oF 15 1 1,oD 16 4 true 15,oK 17 bI [.c (.int .i64 0)],
 oQ 18 dQ [16,17],oV 19 .lss 18 .i64 0,oM 20 19,oG 21 (.fldA 5 (.t 1)) 20 true,oG 22 (.load 4 true (.t 21)) 20 true,
 oG 23 (.call (.c (.fn bI [])) [.c (.int .i64 0)]) 20 true,oG 24 (.call (.c (.fn dQ [])) [.t 22,.t 23]) 20 true,
 oG 25 (.bin .lss (.t 24) (.c (.int .i64 0))) 20 true,oO 26 (.pick (.t 20) (.t 25) (.c (.bool false))),oM 27 26,oG 28 (.fldA 5 (.t 1)) 27 true,
 oG 29 (.load 4 true (.t 28)) 27 true,oG 30 (.fldA 5 (.t 1)) 27 true,oG 31 (.load 4 true (.t 30)) 27 true,oG 32 (.call (.c (.fn aK [])) [.t 29,.t 31]) 27 true,
 oG 33 (.fldA 1 (.t 1)) 27 true,oG 34 (.load 4 true (.t 33)) 27 true,oG 35 (.fldA 1 (.t 1)) 27 true,oG 36 (.load 4 true (.t 35)) 27 true,
 oG 37 (.call (.c (.fn aK [])) [.t 34,.t 36]) 27 true,oG 38 (.fldA 1 (.t 1)) 27 true,oG 39 (.load 4 true (.t 38)) 27 true,
 oG 40 (.call (.c (.fn aK [])) [.t 37,.t 39]) 27 true,oG 41 (.build [.int .u64 0,.int .u64 0,.int .u64 0,.int .u64 0] [(0,1,.c (.int .u64 7))]) 27 true,
 oG 42 (.call (.c (.fn bE [])) [.t 40,.t 41]) 27 true,oG 43 (.eqa [.i,.i,.i,.i] false (.t 32) (.t 42)) 27 true,oO 44 (.pick (.t 27) (.t 43) (.c (.bool false))),
 oM 2 44] ⟨.all,[],.look 0 (.look 1 (.run 2 true (.run 3 true (.look 4 (.look 5 (.look 6 (.look 7 (.run 8 true (.run 9 true (.look 10 (.look 11 (.look 12 (.look 13 (.look 14 (.look 15 (.look 16 (.look 18 (.look 19 (.look 20 (.look 21 (.look 23 (.look 24 (.look 26 (.run 17 true (.run 22 true (.run 25 true (.run 27 true (.look 28 (.look 29 (.look 30 .done))))))))))))))))))))))))))))))⟩)
 .ret)))⟩
theorem vS:BT wM bU:=fun h=>aD aH Tryz.func86 (by kernel_rfl) (by kernel_rfl) h
noncomputable def yL:AFun:=⟨4,16,[.cell 8 4 true],
 (sO [oO 4 (.box 9 1 (.t 0)),oO 7 (.box 1 32 (.t 3)),oO 8 (.alloc 1 4 [.int .u64 0])] (.seq (.draw [oD 9 9 true 4,oM 10 1,oM 11 2,oD 12 32 true 7,oQ 13 eH [12],
 oQ 14 fR [9,10,11,13],oQ 15 eH [14],
 oT 1 4 4 8 15] ⟨.all,[],.look 0 (.look 1 (.look 2 (.look 3 (.run 4 true (.run 5 false (.run 6 false (.run 7 false .done)))))))⟩) .ret))⟩
theorem xQ:BT yL dY:=fun h=>aD aH Tryz.func87 (by kernel_rfl) (by kernel_rfl) h
noncomputable def yM:AFun:=⟨3,13,[.t 6],
 (sO [oO 4 (.box 1 4 (.t 1)),oO 5 (.box 1 4 (.t 2)),oB 6 false] (.seq (.draw [oD 7 4 true 5,oQ 8 cE [7],oM 9 0,oD 10 4 true 4,oQ 11 kA [9,10],
 oQ 12 iM [8,11],oM 6 12] ⟨.all,[],.look 0 (.look 2 (.look 3 (.run 1 true (.run 4 false (.run 5 false (.look 6 .done))))))⟩) .ret))⟩
theorem xR:BT yM fS:=fun h=>aD aH Tryz.func88 (by kernel_rfl) (by kernel_rfl) h
noncomputable def aAs:AFun:=⟨1,6,[.cell 2 4 true],
 (sO [oO 2 (.alloc 1 4 [.int .u64 0])] (sO [oM 3 0,oO 4 (.conv .u64 (.t 3)),oO 5 (.build [.int .u64 0,.int .u64 0,.int .u64 0,.int .u64 0] [(0,1,.t 4)]),oT 1 4 4 2 5] .ret))⟩
theorem zX:BT aAs eV:=fun h=>aD aH Tryz.func89 (by kernel_rfl) (by kernel_rfl) h
noncomputable def wT:AFun:=⟨2,73,[.t 4],
 (sO [oO 2 (.box 26 1 (.t 0)),oO 3 (.box 26 1 (.t 1)),oB 4 false] (sO [oF 5 0 2,oD 6 1 false 5,oF 7 0 3,oD 8 1 false 7,oW 9 .eql 6 8,oM 10 9,oG 11 (.fldA 1 (.t 2)) 10 true,
 oG 12 (.load 9 true (.t 11)) 10 true,oG 13 (.fldA 1 (.t 3)) 10 true,oG 14 (.load 9 true (.t 13)) 10 true,oG 15 (.call (.c (.fn cF [])) [.t 12,.t 14]) 10 true,
 oO 16 (.pick (.t 10) (.t 15) (.c (.bool false))),oM 17 16,oG 18 (.fldA 10 (.t 2)) 17 true,oG 19 (.load 1 false (.t 18)) 17 true,oG 20 (.fldA 10 (.t 3)) 17 true,
 oG 21 (.load 1 false (.t 20)) 17 true,oG 22 (.bin .eql (.t 19) (.t 21)) 17 true,oO 23 (.pick (.t 17) (.t 22) (.c (.bool false))),oM 24 23,oG 25 (.fldA 11 (.t 2)) 24 true,
 oG 26 (.load 1 false (.t 25)) 24 true,oG 27 (.fldA 11 (.t 3)) 24 true,oG 28 (.load 1 false (.t 27)) 24 true,oG 29 (.bin .eql (.t 26) (.t 28)) 24 true,
 oO 30 (.pick (.t 24) (.t 29) (.c (.bool false))),oM 31 30,oG 32 (.fldA 12 (.t 2)) 31 true,oG 33 (.load 1 false (.t 32)) 31 true,oG 34 (.fldA 12 (.t 3)) 31 true,
 oG 35 (.load 1 false (.t 34)) 31 true,oG 36 (.eqb false (.t 33) (.t 35)) 31 true,oO 37 (.pick (.t 31) (.t 36) (.c (.bool false))),oM 38 37,oG 39 (.fldA 13 (.t 2)) 38 true,
 oG 40 (.load 1 false (.t 39)) 38 true,oG 41 (.fldA 13 (.t 3)) 38 true,oG 42 (.load 1 false (.t 41)) 38 true,oG 43 (.call (.c (.fn fY [])) [.t 40,.t 42]) 38 true,
 oO 44 (.pick (.t 38) (.t 43) (.c (.bool false))),oM 45 44,oG 46 (.fldA 14 (.t 2)) 45 true,oG 47 (.load 1 false (.t 46)) 45 true,oG 48 (.fldA 14 (.t 3)) 45 true,
 oG 49 (.load 1 false (.t 48)) 45 true,oG 50 (.call (.c (.fn fG [])) [.t 47,.t 49]) 45 true,oO 51 (.pick (.t 45) (.t 50) (.c (.bool false))),oM 52 51,
 oG 53 (.fldA 15 (.t 2)) 52 true,oG 54 (.load 1 false (.t 53)) 52 true,oG 55 (.fldA 15 (.t 3)) 52 true,oG 56 (.load 1 false (.t 55)) 52 true,
 oG 57 (.eqb false (.t 54) (.t 56)) 52 true,oO 58 (.pick (.t 52) (.t 57) (.c (.bool false))),oM 59 58,oG 60 (.fldA 16 (.t 2)) 59 true,oG 61 (.load 1 false (.t 60)) 59 true,
 oG 62 (.fldA 16 (.t 3)) 59 true,oG 63 (.load 1 false (.t 62)) 59 true,oG 64 (.eqb false (.t 61) (.t 63)) 59 true,oO 65 (.pick (.t 59) (.t 64) (.c (.bool false))),oM 66 65,
 oG 67 (.fldA 17 (.t 2)) 66 true,oG 68 (.load 9 true (.t 67)) 66 true,oG 69 (.fldA 17 (.t 3)) 66 true,oG 70 (.load 9 true (.t 69)) 66 true,
 oG 71 (.call (.c (.fn cF [])) [.t 68,.t 70]) 66 true,oO 72 (.pick (.t 66) (.t 71) (.c (.bool false))),oM 4 72] .ret))⟩
theorem vX:BT wT iB:=fun h=>aD aH Tryz.func91 (by kernel_rfl) (by kernel_rfl) h
noncomputable def yY:AFun:=⟨1,6,[.cell 2 9 true],
 (sO [oO 1 (.box 1 4 (.t 0)),oO 2 (.alloc 9 1 [.bool false,.int .u64 0,.int .u64 0,.int .u64 0,.int .u64 0,.int .u64 0,.int .u64 0,.int .u64 0,.int .u64 0])]
 (.seq (.draw [oD 3 4 true 1,oK 4 kP [],oQ 5 bD [3,4],oT 9 1 9 2 5] ⟨.all,[],.look 0 (.run 1 true (.run 2 false (.run 3 false .done)))⟩) .ret))⟩
theorem xY:BT yY cE:=fun h=>aD aH Tryz.func92 (by kernel_rfl) (by kernel_rfl) h
noncomputable def uD:AFun:=⟨2,34,[.cell 4 4 true,.t 5],
 (sO [oO 4 (.alloc 1 4 [.int .u64 0]),oB 5 false] (sO [oM 11 0,oM 12 1,oQ 13 gI [11,12],oM 10 13,oE 14 10 0,oE 15 10 1,oM 6 14,oM 7 15] (.seq (sO [oM 16 7,
 oU 17 16] (.cond (.t 17) (sO [oO 18 (.build [.int .u64 0,.int .u64 0,.int .u64 0,.int .u64 0] []),oS 4 4 18,oB 5 false] .ret) .skip)) (sO [oM 19 6,
 oO 20 (.bsl 1 1 [.int .u8 0] [(0,1,.c (.int .u8 0))]),oO 21 (.bsl 1 2 [.nils] [(0,1,.t 19),(1,1,.t 20)]),oQ 22 cS [21],oQ 23 bZ [22],
 oO 8 (.alloc 1 32 [.int .u8 0]),oS 32 8 23] (sO [oM 24 6,oO 25 (.bsl 1 1 [.int .u8 0] [(0,1,.c (.int .u8 1))]),oO 26 (.bsl 1 2 [.nils] [(0,1,.t 24),(1,1,.t 25)]),
 oQ 27 cS [26],oQ 28 bZ [27],oO 9 (.alloc 1 32 [.int .u8 0]),oS 32 9 28] (.seq (.draw [oD 29 32 true 8,oQ 30 eH [29],oD 31 32 true 9,
 oQ 32 eH [31],oK 33 iN [.c (.int .i64 1),.t 30,.t 32],oS 4 4 33,
 oB 5 true] ⟨.all,[],.look 0 (.look 2 (.run 1 true (.run 3 false (.run 4 false (.run 5 false (.look 6 .done))))))⟩) .ret))))))⟩
theorem tO:BT uD cQ:=fun h=>aD aH Tryz.func93 (by kernel_rfl) (by kernel_rfl) h
noncomputable def aAn:AFun:=⟨1,8,[.cell 2 4 true],
 (sO [oO 1 (.box 1 4 (.t 0)),oO 2 (.alloc 1 4 [.int .u64 0])] (.seq (sO [oD 3 4 true 1,oO 4 (.build [.int .u64 0,.int .u64 0,.int .u64 0,.int .u64 0] []),
 oO 5 (.eqa [.i,.i,.i,.i] false (.t 3) (.t 4))] (.cond (.t 5) (sO [oO 6 (.build [.int .u64 0,.int .u64 0,.int .u64 0,.int .u64 0] [(0,1,.c (.int .u64 1))]),oT 1 4 4 2 6]
 .ret) .skip)) (sO [oD 7 4 true 1,oT 1 4 4 2 7] .ret)))⟩
theorem zT:BT aAn eU:=fun h=>aD aH Tryz.func94 (by kernel_rfl) (by kernel_rfl) h
noncomputable def yT:AFun:=⟨1,27,[.cell 2 9 true],
 (sO [oO 1 (.box 12 1 (.t 0)),oO 2 (.alloc 9 1 [.bool false,.int .u64 0,.int .u64 0,.int .u64 0,.int .u64 0,.int .u64 0,.int .u64 0,.int .u64 0,.int .u64 0])] (.seq (sO [
 oF 5 8 1,oD 6 4 true 5,oO 7 (.build [.int .u64 0,.int .u64 0,.int .u64 0,.int .u64 0] []),oO 8 (.eqa [.i,.i,.i,.i] false (.t 6) (.t 7))] (.cond (.t 8) (sO [
 oK 9 dC [],oT 9 1 9 2 9] .ret) .skip)) (sO [oF 10 8 1,oD 11 4 true 10,oK 12 gR [.c (.int .i64 0),.t 11],oO 3 (.alloc 1 4 [.int .u64 0]),
 oT 1 4 4 3 12] (sO [oD 13 4 true 3,oD 14 4 true 3,oQ 15 aK [13,14],oO 4 (.alloc 1 4 [.int .u64 0]),oT 1 4 4 4 15] (.seq (.draw [oF 16 0 1,oD 17 4 true 16,
 oD 18 4 true 4,oQ 19 aK [17,18],oF 20 4 1,oD 21 4 true 20,oD 22 4 true 4,oD 23 4 true 3,oQ 24 aK [22,23],oQ 25 aK [21,24],
 oO 26 (.build [.bool false,.int .u64 0,.int .u64 0,.int .u64 0,.int .u64 0,.int .u64 0,.int .u64 0,.int .u64 0,.int .u64 0] [(1,4,.t 19),(5,4,.t 25)]),
 oT 9 1 9 2 26] ⟨.all,[],.look 0 (.look 1 (.look 2 (.look 4 (.look 5 (.look 6 (.look 7 (.run 3 true (.run 8 true (.run 9 true (.look 10 (.run 11 false .done)))))))))))⟩)
 .ret)))))⟩
theorem xW:BT yT fX:=fun h=>aD aH Tryz.func95 (by kernel_rfl) (by kernel_rfl) h
noncomputable def wI:AFun:=⟨2,24,[.cell 4 12 true],
 (sO [oO 2 (.box 1 4 (.t 0)),oO 3 (.box 9 1 (.t 1)),oO 4 (.alloc 12 1 (List.replicate 12 (.int .u64 0)))] (sO [oK 7 dC [],oQ 8 cZ [7],
 oO 5 (.alloc 12 1 (List.replicate 12 (.int .u64 0))),oT 12 1 12 5 8] (.seq (sO [oI 6 255] (.block 0 (.loop (.seq (sO [oM 9 6,oV 10 .geq 9 .i64 0] (.cond (.t 10) .skip (.exit 0)))
 (.seq (.block 1 (sO [oD 13 12 true 5,oQ 14 fE [13],oT 12 1 12 5 14] (sO [oD 15 4 true 2,oM 16 6,oQ 17 gS [15,16],oV 18 .eql 17 .i64 1]
 (.cond (.t 18) (.draw [oD 19 12 true 5,oD 20 9 true 3,oQ 21 cZ [20],oQ 22 fW [19,21],
 oT 12 1 12 5 22] ⟨.all,[],.look 0 (.look 1 (.run 2 true (.run 3 false (.run 4 false .done))))⟩) .skip)))) (.ops [oM 11 6,oV 12 .sub 11 .i64 1,oM 6 12])))))) (sO [
 oD 23 12 true 5,oT 12 1 12 4 23] .ret))))⟩
theorem vQ:BT wI hU:=fun h=>aD aH Tryz.func96 (by kernel_rfl) (by kernel_rfl) h
noncomputable def qM:AFun:=⟨1,27,[.cell 2 4 true],
 (sO [oO 2 (.alloc 1 4 [.int .u64 0])] (sO [oO 3 (.mv (.c (.nils)))] (.seq (sO [oI 4 0] (.block 0 (.loop (.seq (sO [oM 7 4,oM 8 0,oL 9 8,oW 10 .lss 7 9] (.cond (.t 10) .skip
 (.exit 0))) (.seq (.block 1 (.ops [oM 13 3,oM 14 0,oM 15 4,oX 16 9 14 15,oD 17 9 true 16,oQ 18 cB [17],oO 19 (.bsl 1 1 [.nils] [(0,1,.t 18)]),
 oO 20 (.app 1 24 (.t 13) (.t 19)),oM 3 20])) (.ops [oM 11 4,oV 12 .add 11 .i64 1,oM 4 12])))))) (sO [oM 22 3,
 ⟨some 23,.call (.c (.fn cQ [])) [.c (.str ⟨#[100,108,101,113]⟩),.t 22],none⟩,oM 21 23,oE 24 21 0,oE 25 21 1,oO 5 (.alloc 1 4 [.int .u64 0]),oT 1 4 4 5 24,
 oM 6 25] (sO [oD 26 4 true 5,oT 1 4 4 2 26] .ret)))))⟩
theorem qJ:BT qM eL:=fun h=>aD aH Tryz.func97 (by kernel_rfl) (by kernel_rfl) h
noncomputable def aAp:AFun:=⟨2,8,[.cell 4 4 true],
 (sO [oO 2 (.box 1 4 (.t 0)),oO 3 (.box 1 4 (.t 1)),oO 4 (.alloc 1 4 [.int .u64 0])] (sO [oD 5 4 true 2,oD 6 4 true 3,oK 7 dD [.c (.int .i64 1),.t 5,.t 6],
 oT 1 4 4 4 7] .ret))⟩
theorem zV:BT aAp iZ:=fun h=>aD aH Tryz.func98 (by kernel_rfl) (by kernel_rfl) h
noncomputable def aAq:AFun:=⟨2,8,[.cell 4 4 true],
 (sO [oO 2 (.box 1 4 (.t 0)),oO 3 (.box 1 4 (.t 1)),oO 4 (.alloc 1 4 [.int .u64 0])] (sO [oD 5 4 true 2,oD 6 4 true 3,oK 7 cC [.c (.int .i64 1),.t 5,.t 6],
 oT 1 4 4 4 7] .ret))⟩
theorem qG:BT aAq dP:=fun h=>aD aH Tryz.func99 (by kernel_rfl) (by kernel_rfl) h
noncomputable def aAy:AFun:=⟨2,28,[.cell 4 4 true,.t 5],
 (sO [oO 2 (.box 1 4 (.t 0)),oO 3 (.box 1 4 (.t 1)),oO 4 (.alloc 1 4 [.int .u64 0]),oO 5 (.mv (.c (.int .u64 0)))] (sO [oO 6 (.mv (.c (.int .u64 0)))] (sO [
 oO 7 (.alloc 1 4 [.int .u64 0])] (.seq (sO [oI 8 0] (.block 0 (.loop (.seq (sO [oM 9 8,oV 10 .lss 9 .i64 4] (.cond (.t 10) .skip (.exit 0))) (.seq (.block 1 (.draw [oM 14 8,
 oM 15 8,oO 16 (.idxP 4 1 (.t 2) (.t 15)),oD 17 1 false 16,oM 18 8,oO 19 (.idxP 4 1 (.t 3) (.t 18)),oD 20 1 false 19,oM 21 6,
 oO 22 (.x64 true zO (.t 17) (.t 20) (.t 21)),oM 13 22,oE 23 13 0,oE 24 13 1,oO 25 (.idxP 4 1 (.t 7) (.t 14)),oT 1 4 1 25 23,
 oM 6 24] ⟨.all,[],.look 0 (.look 1 (.look 2 (.look 3 (.look 4 (.look 5 (.look 6 (.look 7 (.run 8 true (.look 9 (.look 10 (.look 11 (.look 12 (.run 13 false (.look 14 .done))))))))))))))⟩))
 (.ops [oM 11 8,oO 12 (.binF .add (.t 11) (.c (.int .i64 1))),oM 8 12])))))) (sO [oD 26 4 true 7,oM 27 6,oT 1 4 4 4 26,oM 5 27] .ret)))))⟩
theorem aAd:BT aAy cA:=fun h=>aD aH Tryz.func101 (by kernel_rfl) (by kernel_rfl) h
noncomputable def wJ:AFun:=⟨1,7,[.cell 2 4 true],
 (sO [oO 2 (.alloc 1 4 [.int .u64 0])] (.seq (sO [oM 3 0,oV 4 .eql 3 .i64 1] (.cond (.t 4) (sO [
 oO 5 (.build [.int .u64 0,.int .u64 0,.int .u64 0,.int .u64 0] [(0,1,.c (.int .u64 4624529908474429119)),(1,1,.c (.int .u64 4994812053365940164)),(2,1,.c (.int .u64 1)),(3,1,.c (.int .u64 0))]),
 oT 1 4 4 2 5] .ret) .skip)) (sO [oO 6 (.build [.int .u64 0,.int .u64 0,.int .u64 0,.int .u64 0] [(0,1,.c (.int .u64 4294968273))]),oT 1 4 4 2 6] .ret)))⟩
theorem nI:BT wJ dA:=fun h=>aD aH Tryz.func102 (by kernel_rfl) (by kernel_rfl) h
noncomputable def A_witanref01_G:AFun:=⟨0,4,[.cell 0 9 true],
 (sO [oO 0 (.alloc 9 1 [.bool false,.int .u64 0,.int .u64 0,.int .u64 0,.int .u64 0,.int .u64 0,.int .u64 0,.int .u64 0,.int .u64 0])] (sO [
 oO 1 (.build [.int .u64 0,.int .u64 0,.int .u64 0,.int .u64 0] [(0,1,.c (.int .u64 6481385041966929816)),(1,1,.c (.int .u64 188021827762530521)),(2,1,.c (.int .u64 6170039885052185351)),(3,1,.c (.int .u64 8772561819708210092))]),
 oO 2 (.build [.int .u64 0,.int .u64 0,.int .u64 0,.int .u64 0] [(0,1,.c (.int .u64 11261198710074299576)),(1,1,.c (.int .u64 18237243440184513561)),(2,1,.c (.int .u64 6747795201694173352)),(3,1,.c (.int .u64 5204712524664259685))]),
 oO 3 (.build [.bool false,.int .u64 0,.int .u64 0,.int .u64 0,.int .u64 0,.int .u64 0,.int .u64 0,.int .u64 0,.int .u64 0] [(1,4,.t 1),(5,4,.t 2)]),oT 9 1 9 0 3]
 .ret))⟩
theorem B_witanref01_G:BT A_witanref01_G kP:=fun h=>aD aH Tryz.func105 (by kernel_rfl) (by kernel_rfl) h
noncomputable def A_deal_long:AFun:=⟨1,6,[.t 2],
 (sO [oB 2 false] (sO [oM 3 0,oL 4 3,oV 5 .gtr 4 .i64 16384,oM 2 5] .ret))⟩
theorem B_deal_long:BT A_deal_long mN:=fun h=>aD aH Tryz.func106 (by kernel_rfl) (by kernel_rfl) h
noncomputable def A_draw_Scalar:AFun:=⟨2,35,[.cell 4 4 true,.t 5],
 (sO [oO 4 (.alloc 1 4 [.int .u64 0]),oI 5 0] (sO [oM 11 0,oM 12 1,oQ 13 lI [11,12],oM 10 13,oE 14 10 0,oE 15 10 1,oM 6 14,oM 7 15] (.seq (sO [oM 16 7,oU 17 16]
 (.cond (.t 17) (sO [oO 18 (.build [.int .u64 0,.int .u64 0,.int .u64 0,.int .u64 0] []),oT 1 4 4 4 18,oI 5 4] .ret) .skip)) (sO [oM 19 6,
 oO 20 (.bsl 1 1 [.int .u8 0] [(0,1,.c (.int .u8 0))]),oQ 21 mM [19,20],oQ 22 kB [21],oQ 23 mK [22],oM 24 6,
 oO 25 (.bsl 1 1 [.int .u8 0] [(0,1,.c (.int .u8 1))]),oQ 26 mM [24,25],oQ 27 kB [26],oQ 28 mK [27],oO 8 (.alloc 1 4 [.int .u64 0]),
 oO 9 (.alloc 1 4 [.int .u64 0]),oT 1 4 4 8 23,oT 1 4 4 9 28] (.seq (.draw [oD 29 4 true 8,oD 30 4 true 9,oK 31 dJ [.c (.int .i64 1)],oQ 32 sK [29,30,31],
 oE 33 32 0,oE 34 32 1,oT 1 4 4 4 33,oM 5 34] ⟨.all,[],.look 0 (.look 1 (.run 2 true (.run 3 false (.look 4 (.look 5 (.run 6 false (.look 7 .done)))))))⟩) .ret)))))⟩
theorem B_draw_Scalar:BT A_draw_Scalar iS:=fun h=>aD aH Tryz.func107 (by kernel_rfl) (by kernel_rfl) h
noncomputable def A_deal_some:AFun:=⟨1,8,[.cell 2 4 true],
 (sO [oO 1 (.box 1 4 (.t 0)),oO 2 (.alloc 1 4 [.int .u64 0])] (.seq (sO [oD 3 4 true 1,oO 4 (.build [.int .u64 0,.int .u64 0,.int .u64 0,.int .u64 0] []),
 oO 5 (.eqa [.i,.i,.i,.i] false (.t 3) (.t 4))] (.cond (.t 5) (sO [oO 6 (.build [.int .u64 0,.int .u64 0,.int .u64 0,.int .u64 0] [(0,1,.c (.int .u64 1))]),oT 1 4 4 2 6]
 .ret) .skip)) (sO [oD 7 4 true 1,oT 1 4 4 2 7] .ret)))⟩
theorem B_deal_some:BT A_deal_some kN:=fun h=>aD aH Tryz.func108 (by kernel_rfl) (by kernel_rfl) h
noncomputable def A_deal_scalar:AFun:=⟨3,26,[.cell 6 4 true,.t 7],
 (sO [oO 6 (.alloc 1 4 [.int .u64 0]),oI 7 0] (sO [oM 11 2,oK 12 vJ [.c (.nils),.t 11,.c (.int .i64 4)],oM 10 12,oE 13 10 0,oE 14 10 1,oM 8 13,oM 9 14] (.seq (sO [
 oM 15 9,oV 16 .neq 15 .i64 0] (.cond (.t 16) (sO [oO 17 (.build [.int .u64 0,.int .u64 0,.int .u64 0,.int .u64 0] []),oM 18 9,oT 1 4 4 6 17,oM 7 18] .ret) .skip)) (sO [
 oM 19 0,oM 20 1,oM 21 8,oO 22 (.bsl 1 2 [.nils] [(0,1,.t 20),(1,1,.t 21)]),oQ 23 iS [19,22],oE 24 23 0,oE 25 23 1,oT 1 4 4 6 24,oM 7 25] .ret))))⟩
theorem B_deal_scalar:BT A_deal_scalar kD:=fun h=>aD aH Tryz.func109 (by kernel_rfl) (by kernel_rfl) h
noncomputable def A_dleq_Prove:AFun:=⟨3,55,[.cell 6 8 true,.t 7],
 (sO [oO 3 (.box 1 4 (.t 0)),oO 4 (.box 1 4 (.t 1)),oO 5 (.box 9 1 (.t 2)),
 oO 6 (.alloc 8 1 [.int .u64 0,.int .u64 0,.int .u64 0,.int .u64 0,.int .u64 0,.int .u64 0,.int .u64 0,.int .u64 0]),oI 7 0] (sO [oD 14 9 true 5,oQ 15 cG [14],
 oM 8 15] (.seq (sO [oM 16 8,oV 17 .neq 16 .i64 0] (.cond (.t 17) (sO [
 oO 18 (.build [.int .u64 0,.int .u64 0,.int .u64 0,.int .u64 0,.int .u64 0,.int .u64 0,.int .u64 0,.int .u64 0] []),oM 19 8,oT 8 1 8 6 18,oM 7 19] .ret) .skip)) (sO [
 oD 21 4 true 3,oD 22 9 true 5,oQ 23 dW [21,22],oM 20 23,oE 24 20 0,oE 25 20 1,
 oO 9 (.alloc 9 1 [.bool false,.int .u64 0,.int .u64 0,.int .u64 0,.int .u64 0,.int .u64 0,.int .u64 0,.int .u64 0,.int .u64 0]),oT 9 1 9 9 24,oM 10 25] (sO [
 oD 27 4 true 4,oD 28 9 true 5,oQ 29 dW [27,28],oM 26 29,oE 30 26 0,oE 31 26 1,
 oO 11 (.alloc 9 1 [.bool false,.int .u64 0,.int .u64 0,.int .u64 0,.int .u64 0,.int .u64 0,.int .u64 0,.int .u64 0,.int .u64 0]),oT 9 1 9 11 30,oM 12 31] (.seq (.draw [
 oD 33 4 true 3,oQ 34 fI [33],oD 35 9 true 5,oD 36 9 true 9,oD 37 4 true 4,oQ 38 fI [37],oD 39 9 true 11,
 oO 40 (.bsl 9 5 [.bool false,.int .u64 0,.int .u64 0,.int .u64 0,.int .u64 0,.int .u64 0,.int .u64 0,.int .u64 0,.int .u64 0] [(0,9,.t 34),(9,9,.t 35),(18,9,.t 36),(27,9,.t 38),(36,9,.t 39)]),
 oQ 41 jE [40],oM 32 41,oE 42 32 0,oE 43 32 1,oO 13 (.alloc 1 4 [.int .u64 0]),oS 4 13 42,
 oM 8 43] ⟨.all,[(12,some 13)],.look 0 (.look 2 (.look 3 (.look 4 (.look 6 (.run 1 true (.run 5 true (.run 7 true (.run 8 true (.look 9 (.look 10 (.pre 12 13 (.look 11 (.fill (.look 14 .done))))))))))))))⟩)
 (.seq (sO [oM 44 8,oV 45 .neq 44 .i64 0] (.cond (.t 45) (sO [
 oO 46 (.build [.int .u64 0,.int .u64 0,.int .u64 0,.int .u64 0,.int .u64 0,.int .u64 0,.int .u64 0,.int .u64 0] []),oM 47 8,oT 8 1 8 6 46,oM 7 47] .ret) .skip))
 (.seq (.draw [oD 48 4 true 13,oD 49 4 true 4,oD 50 4 true 13,oD 51 4 true 3,oK 52 eI [.c (.int .i64 1),.t 50,.t 51],
 oK 53 jI [.c (.int .i64 1),.t 49,.t 52],
 oO 54 (.build [.int .u64 0,.int .u64 0,.int .u64 0,.int .u64 0,.int .u64 0,.int .u64 0,.int .u64 0,.int .u64 0] [(0,4,.t 48),(4,4,.t 53)]),oT 8 1 8 6 54,
 oI 7 0] ⟨.all,[],.look 0 (.look 1 (.look 2 (.look 3 (.run 4 true (.run 5 true (.look 6 (.run 7 false (.look 8 .done))))))))⟩) .ret))))))))⟩
theorem B_dleq_Prove:BT A_dleq_Prove kU:=fun h=>aD aH Tryz.func112 (by kernel_rfl) (by kernel_rfl) h
end Go.Proofs.YtfolpdmbpbbimaaGreat
end

