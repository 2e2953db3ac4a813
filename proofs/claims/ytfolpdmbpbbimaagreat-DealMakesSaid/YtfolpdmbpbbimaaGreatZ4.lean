/- Texts of a proof, one behind the other; the last of these: The told forms of the functions that this seat reaches, each held against the program by a closed test; no condition. -/
import Derived.Test.YtfolpdmbpbbimaaGreatZ3
import Derived.Test.YtfolpdmbpbbimaaGreatProg
set_option linter.unusedVariables false
set_option linter.unusedSimpArgs false
set_option maxRecDepth 100000
section
namespace Go.Wit
theorem dO:∀ {l1 l2:List Nat},l1.Nodup->(∀ x,x ∈ l1->x ∈ l2)->l1.length<=l2.length
  | [],l2,_,_=>Nat.zero_le _
  | x :: r, l2, hn, hs => by
    obtain⟨s,t,rfl⟩:=List.append_of_mem (hs x (.head _))
    have hn':=List.nodup_cons.1 hn
    have:=dO (l1:=r) (l2:=s++t) hn'.2 (fun y hy=>by
      have hy':=hs y (.tail _ hy)
      rcases List.mem_append.1 hy' with h | h
      · exact List.mem_append.2 (.inl h)
      · rcases List.mem_cons.1 h with h | h
        · exact absurd (h ▸ hy) hn'.1
        · exact List.mem_append.2 (.inr h))
    simp only [List.length_cons,List.length_append]at this ⊢
    omega
section
variable {P:Program} {C0:Ctx} {n:Nat} {m0:Mem} {w0:World} {L0:Lay} {ops:Array Oper} {l:List AOpr} {keep:Keep}
theorem HRel.perm {C:Ctx} {hs hs':List HB} {e:Env} {m:Mem} {a:Act} {w:World} {L:Lay} (p:hs.Perm hs') (H:HRel C n hs e m a w L):HRel C n hs' e m a w L:=by
 have hX:XH C hs=XH C hs':=by
  funext b;apply propext
  simp only [XH,p.mem_iff]
 have hcx:CX C hs m w L=CX C hs' m w L:=by unfold CX;rw [hX]
 refine⟨H.size,H.defers,H.memC,by rw [<- hcx];exact H.memX,by rw [<- hcx];exact H.env,fun h hh=>H.hid h (p.mem_iff.2 hh),?_⟩
 exact(p.pairwise_iff (fun {x y} h h1 h2 h3=>h h2 h1 h3.symm)).1 H.pair
theorem fillK_sound {C:Ctx} {ps:List (Nat × AV)} {a:Act} {w:World}:∀ {fs:FS} {hs:List HB} {e:Env} {m:Mem} {L:Lay} {K:Env->Mem->Prop},HRel C n hs e m a w L->(∀ h,h ∈ hs->∃ q,q ∈ fs/\q.1=h.i/\pI l ps q=some (h.d,h.val,h.blk))->
    (∀ q,q ∈ fs->∃ h,h ∈ hs/\h.i=q.1)->(hs.map (·.i)).Nodup->(fs.map (·.1)).Nodup->fillK l ps fs e m K->∃ e' m' L',K e' m'/\HRel C n [] e' m' a w L'/\∃ t,m'=m++t
  | [], hs, e, m, L, K, H, h1, h2, h3, h4, hK => by
    cases hs with
    | nil=>exact ⟨e,m,L,hK,H,[],by simp⟩
    | cons h r=>obtain ⟨q,hq,_⟩:=h1 h (.head _);simp at hq
  | q :: r, hs, e, m, L, K, H, h1, h2, h3, h4, hK => by
    obtain⟨h,hh,hi⟩:=h2 q (.head _)
    have h4':=List.nodup_cons.1 h4
    have hf:pI l ps q=some (h.d,h.val,h.blk):=by
      obtain⟨q',k1,k2,k3⟩:=h1 h hh
      rcases List.mem_cons.1 k1 with rfl | k1
      · exact k3
      · exact absurd (List.mem_map.2 ⟨q',k1,by rw [k2,hi]⟩) h4'.1
    obtain⟨s,t,rfl⟩:=List.append_of_mem hh
    have hp:(s++h::t).Perm (h::(s++t)):=List.perm_middle
    have hnd:((h::(s++t)).map (·.i)).Nodup:=((hp.map _).nodup_iff).1 h3
    rw [List.map_cons]at hnd
    have hnd':=List.nodup_cons.1 hnd
    obtain⟨L2,H2⟩:=(H.perm hp).tell
    change (match pI l ps q with | some (d,val,blk)=>memK (m++ [some blk]) fun m'=>putK e (some d) (val m.length) fun e'=>fillK l ps r e' m' K | none=>False)at hK
    rw [hf]at hK
    simp only [dL,iB]at hK
    obtain⟨e',m',L',r1,r2,u,r3⟩:=fillK_sound (fs:=r) H2 (fun h' hh'=>by
      obtain⟨q',k1,k2,k3⟩:=h1 h' (hp.mem_iff.2 (.tail _ hh'))
      rcases List.mem_cons.1 k1 with rfl | k1
      · exact absurd (List.mem_map.2 ⟨h',hh',by rw [<- k2,hi]⟩) hnd'.1
      · exact⟨q',k1,k2,k3⟩) (fun q' hq'=>by
      obtain⟨h',k1,k2⟩:=h2 q' (.tail _ hq')
      rcases List.mem_cons.1 (hp.mem_iff.1 k1)with rfl | k1
      · exact absurd (List.mem_map.2 ⟨q',hq',by rw [<- k2,hi]⟩) h4'.1
      · exact⟨h',k1,k2⟩) hnd'.2 h4'.2 hK
    exact⟨e',m',L',r1,r2,[some h.blk] ++ u,by rw [r3,List.append_assoc]⟩
def Closed (ops:Array Oper) (listed:Array Bool):Prop:= ∀ j k,listed.getD j false=true->bndB ops j k=true->listed.getD k false=true
theorem Closed.anc {ops:Array Oper} {listed:Array Bool} (h:Closed ops listed) {j i:Nat} (ha:Anc ops j i):(∀ k,bndB ops j k=true->listed.getD k false=true)->listed.getD i false=true:=by
 induction ha with
 | base j i hb=>exact fun hj=>hj i hb
 | step j k i hb _ ih=>exact fun hj=>ih (fun q hq=>h k q (hj k hb) hq)
theorem Closed.set {ops:Array Oper} {listed:Array Bool} (h:Closed ops listed) {i:Nat} (hi:i ∈ Region.ready .any ops listed):Closed ops (listed.setIfInBounds i true):=by
 have up:∀ k,listed.getD k false=true->(listed.setIfInBounds i true).getD k false=true:=by
  intro k hk
  by_cases hki:k=i
  · subst hki
    have:k<listed.size:=by
     rcases Nat.lt_or_ge k listed.size with h1 | h1
     · exact h1
     · rw [Array.getD_eq_getD_getElem?,Array.getElem?_eq_none h1]at hk;simp at hk
    rw [Array.getD_eq_getD_getElem?,Array.getElem?_setIfInBounds_self_of_lt this];rfl
  · rw [getD_set_ne false (Ne.symm hki)];exact hk
 intro j k hj hb
 by_cases hji:j=i
 · subst hji
   obtain⟨_,oj,h2,h3⟩:=mem_ready.1 hi
   unfold bndB at hb
   rw [h2]at hb
   simp only at hb
   obtain⟨ed,he1,he2⟩:=Array.any_eq_true'.1 hb
   simp only [Bool.and_eq_true,beq_iff_eq]at he2
   rw [<- he2.2]
   exact up _ (h3 ed he1 he2.1)
 · rw [getD_set_ne false (Ne.symm hji)]at hj
   exact up k (h j k hj hb)
structure Lst (ops:Array Oper) (LC Ex:List Nat) (listed:Array Bool):Prop where
 closed:Closed ops listed
 size:listed.size=ops.size
 iff:∀ j,j<ops.size->(listed.getD j false=true ↔ j ∈ LC\/j ∈ Ex)
theorem getD_lt {listed:Array Bool} {j:Nat} (h:listed.getD j false=true):j<listed.size:=by
 rcases Nat.lt_or_ge j listed.size with h1 | h1
 · exact h1
 · rw [Array.getD_eq_getD_getElem?,Array.getElem?_eq_none h1]at h;simp at h
theorem getD_tf {listed:Array Bool} {j:Nat} (h:j<listed.size):listed.getD j true=listed.getD j false:=by
 simp [Array.getD_eq_getD_getElem?,h]
theorem Lst.ready {LC Ex:List Nat} {listed:Array Bool} (hl:Lst ops LC Ex listed) {j:Nat} (h:j ∈ Region.ready .any ops listed):j<ops.size/\j ∉ LC/\j ∉ Ex/\∃ oj,ops[j]? = some oj/\∀ e,e ∈ oj.after->Region.binds .any e=true->e.on ∈ LC\/e.on ∈ Ex:=by
 obtain⟨h1,oj,h2,h3⟩:=mem_ready.1 h
 have hlt:=(Array.getElem?_eq_some_iff.1 h2).1
 rw [getD_tf (by rw [hl.size];exact hlt)]at h1
 have hn:¬ (j ∈ LC\/j ∈ Ex):=fun hj=>by rw [(hl.iff j hlt).2 hj]at h1;cases h1
 refine⟨hlt,fun h=>hn (.inl h),fun h=>hn (.inr h),oj,h2,fun e he hb=> ?_⟩
 have:=h3 e he hb
 exact(hl.iff _ (by rw [<- hl.size];exact getD_lt this)).1 this
theorem Lst.mk_ready {LC Ex:List Nat} {listed:Array Bool} (hl:Lst ops LC Ex listed) {j:Nat} (hlt:j<ops.size) (h1:j ∉ LC) (h2:j ∉ Ex) {S:List Nat} (hp:prIn ops j S=true) (hS:∀ x,x ∈ S->x<ops.size/\(x ∈ LC\/x ∈ Ex)):j ∈ Region.ready .any ops listed:=by
 refine mem_ready.2 ⟨?_,ops[j],Array.getElem?_eq_getElem hlt,fun e he hb=> ?_⟩
 · rw [getD_tf (by rw [hl.size];exact hlt)]
   cases h:listed.getD j false with
   | false=>rfl
   | true=>exact ((hl.iff j hlt).1 h).elim (fun h=>absurd h h1) (fun h=>absurd h h2)
 · unfold prIn at hp
   rw [Array.getElem?_eq_getElem hlt]at hp
   simp only at hp
   have:=Array.all_eq_true'.1 hp e he
   rw [hb]at this
   simp only [Bool.not_true,Bool.false_or]at this
   obtain⟨k1,k2⟩:=hS e.on (by simpa using this)
   exact(hl.iff _ k1).2 k2
theorem Lst.setL {LC Ex:List Nat} {listed:Array Bool} (hl:Lst ops LC Ex listed) {i:Nat} (hi:i<ops.size) (hr:i ∈ Region.ready .any ops listed):Lst ops (i::LC) Ex (listed.setIfInBounds i true):=by
 refine⟨hl.closed.set hr,by rw [Array.size_setIfInBounds];exact hl.size,fun j hj=> ?_⟩
 by_cases hji:j=i
 · subst hji
   rw [Array.getD_eq_getD_getElem?,Array.getElem?_setIfInBounds_self_of_lt (by rw [hl.size];exact hi)]
   simp
 · rw [getD_set_ne false (Ne.symm hji),hl.iff j hj]
   simp [hji]
theorem Lst.setE {LC Ex:List Nat} {listed:Array Bool} (hl:Lst ops LC Ex listed) {i:Nat} (hi:i<ops.size) (hr:i ∈ Region.ready .any ops listed):Lst ops LC (i::Ex) (listed.setIfInBounds i true):=by
 refine⟨hl.closed.set hr,by rw [Array.size_setIfInBounds];exact hl.size,fun j hj=> ?_⟩
 by_cases hji:j=i
 · subst hji
   rw [Array.getD_eq_getD_getElem?,Array.getElem?_setIfInBounds_self_of_lt (by rw [hl.size];exact hi)]
   simp
 · rw [getD_set_ne false (Ne.symm hji),hl.iff j hj]
   simp [hji]
theorem prIn_of {j:Nat} {oj:Oper} (hoj:ops[j]? = some oj) {S:List Nat} (h:∀ e,e ∈ oj.after->Region.binds .any e=true->e.on ∈ S):prIn ops j S=true:=by
 unfold prIn
 rw [hoj]
 simp only
 rw [Array.all_eq_true']
 intro e he
 cases hb:Region.binds .any e with
 | false=>rfl
 | true=>simpa using h e he hb
theorem first_ready {LC Ex:List Nat} {listed:Array Bool} (hl:Lst ops LC Ex listed):∀ {T S:List Nat},chkT ops T S=true->(∀ x,x ∈ T->x<ops.size/\x ∉ LC)->(∀ x,x ∈ S->x<ops.size/\(x ∈ LC\/x ∈ Ex))->(∃ t,t ∈ T/\t ∉ Ex)->∃ j,j ∈ Region.ready .any ops listed
  | [],S,_,_,_,⟨t,h,_⟩=>by simp at h
  | t :: ts, S, hc, hT, hS, hex => by
    simp only [chkT,Bool.and_eq_true]at hc
    by_cases ht:t ∈ Ex
    · refine first_ready hl hc.2 (fun x hx=>hT x (.tail _ hx)) (fun x hx=> ?_) ?_
      · rcases List.mem_cons.1 hx with rfl | hx
        · exact⟨(hT x (.head _)).1,.inr ht⟩
        · exact hS x hx
      · obtain⟨u,hu,hu2⟩:=hex
        rcases List.mem_cons.1 hu with rfl | hu
        · exact absurd ht hu2
        · exact⟨u,hu,hu2⟩
    · exact⟨t,hl.mk_ready (hT t (.head _)).1 (hT t (.head _)).2 ht hc.1 hS⟩
theorem HRel.rel {C:Ctx} {e:Env} {m:Mem} {a:Act} {w:World} {L:Lay} (H:HRel C n [] e m a w L):Rel C n e m a w L:=
 ⟨H.size,H.defers,H.memC,fun t=>(H.env t).less (fun b hb=>hb.imp .inl id)⟩
theorem rA {fs:FS} {pv:List Nat} {i:Nat} {ao:AOpr} (h:dstNot l fs pv i=true) (hao:l[i]? = some ao):∀ d,ao.dst=some d->d ∉ pv/\fdNe l fs d=true:=by
 intro d hd
 unfold dstNot at h
 rw [hao]at h
 simp only [hd,Bool.and_eq_true,Bool.not_eq_true']at h
 exact⟨by have:=h.1;simpa using this,h.2⟩
def nV (P:Program) (ops:Array Oper) (Q:Exit->Act->World->Prop) (S:World->Prop) (isL nd:Nat->Bool):Nat->Array Bool->Act->World->Prop
  | 0,listed,a,w=>Region.ready .any ops listed= [] /\ Q .normal a w
  | fuel + 1, listed, a, w =>
    (Region.ready .any ops listed= [] -> Q .normal a w)/\
    ∀ i ∈ Region.ready .any ops listed,wpOp P ops Q i (fun a' w'=>((isL i=true->w'=w)/\(isL i=false->nd i=true->S w'))/\nV P ops Q S isL nd fuel (listed.setIfInBounds i true) a' w') a w
theorem wpAny_of_N {Q:Exit->Act->World->Prop} {S:World->Prop} {isL nd:Nat->Bool}:∀ (fuel:Nat) (listed:Array Bool) (a:Act) (w:World),nV P ops Q S isL nd fuel listed a w->wpAny P .any ops Q fuel listed a w
 | 0,_,_,_,h=>h
 | fuel+1,_,_,_,h=>⟨h.1,fun i hi=>wpOp_mono (fun a' w' h'=>wpAny_of_N fuel _ a' w' h'.2) (h.2 i hi)⟩
theorem wpAnyN_first {Q:Exit->Act->World->Prop} {S S':World->Prop} {isL nd:Nat->Bool} {i:Nat} {oi:Oper} {v:Value} (hi:ops[i]? = some oi) (hiL:isL i=true) (hsel:∀ (j:Nat) (o:Oper) cs b,ops[j]? = some o->o.op ≠ .select cs b)
    (hQ:∀ c a w,Q (.panic c) (a.put oi.dst v) w->Q (.panic c) a w) (hSS:(∀ w,S' w)\/((∀ w,S w->S' w)/\∀ j,nd j=false->Anc ops j i)):
    ∀ (fuel : Nat) (listed : Array Bool) (a : Act) (w : World), Closed ops listed →
      (∀ j oj,ops[j]? = some oj->j ≠ i->listed.getD j true=false->(∀ e ∈ oj.after,Region.binds .any e=true->e.on ≠ i)->oi.apart ops oj=true)->
      i ∈ Region.ready .any ops listed->YieldsIf P ops S' oi v a->S' w->
      nV P ops Q S isL nd fuel (listed.setIfInBounds i true) (a.put oi.dst v) w->nV P ops Q S isL nd (fuel+1) listed a w:=by
  intro fuel
  induction fuel with
  | zero =>
    intro listed a w _ _ hr hy hS H
    refine⟨fun h=>(by rw [h]at hr;cases hr),fun j hj=> ?_⟩
    by_cases hji:j=i
    · subst hji;exact hy.wpOp hi hS ⟨⟨fun _=>rfl,fun h=>by rw [hiL]at h;cases h⟩,H⟩
    · have:=ready_mono hj hji
      rw [H.1]at this
      cases this
  | succ fuel ih =>
    intro listed a w hcl hfree hr hy hS H
    refine⟨fun h=>(by rw [h]at hr;cases hr),fun j hj=> ?_⟩
    by_cases hji:j=i
    · subst hji;exact hy.wpOp hi hS ⟨⟨fun _=>rfl,fun h=>by rw [hiL]at h;cases h⟩,H⟩
    · have h1:=H.2 j (ready_mono hj hji)
      obtain⟨hjun,oj,hoj,hall⟩:=mem_ready.1 hj
      have hiun:¬ listed.getD i false=true:=fun h=>by
        have h0:=(mem_ready.1 hr).1
        rcases Nat.lt_or_ge i listed.size with h' | h'
        · simp [Array.getD_eq_getD_getElem?,h']at h0 h;rw [h0]at h;cases h
        · simp [Array.getD_eq_getD_getElem?,Array.getElem?_eq_none h']at h
      have hdir:∀ k,bndB ops j k=true->listed.getD k false=true:=fun k hb=>by
        unfold bndB at hb
        rw [hoj]at hb
        simp only at hb
        obtain⟨ed,he1,he2⟩:=Array.any_eq_true'.1 hb
        simp only [Bool.and_eq_true,beq_iff_eq]at he2
        rw [<- he2.2]
        exact hall ed he1 he2.1
      have hnot:∀ e ∈ oj.after,Region.binds .any e=true->e.on ≠ i:=fun e he hb heq=>hiun (by rw [<- heq];exact hall e he hb)
      have hS2:∀ w',((isL j=true->w'=w)/\(isL j=false->nd j=true->S w'))->S' w':=fun w' hw'=>by
        rcases hSS with h | ⟨h,h'⟩
        · exact h w'
        · cases hL:isL j with
          | true=>rw [hw'.1 hL];exact hS
          | false =>
            refine h w' (hw'.2 hL ?_)
            cases hn:nd j with
            | true=>rfl
            | false=>exact absurd (hcl.anc (h' j hn) hdir) hiun
      have h2:=wpOp_putIf hoj (hfree j oj hoj hji hjun hnot) (fun cs b=>hsel i oi cs b hi) (fun cs b=>hsel j oj cs b hoj) hQ hy h1
      have hfree':∀ k ok,ops[k]? = some ok->k ≠ i->(listed.setIfInBounds j true).getD k true=false->
          (∀ e ∈ ok.after,Region.binds .any e=true->e.on ≠ i)->oi.apart ops ok=true:=fun k ok hk hki hun hno=>by
        refine hfree k ok hk hki ?_ hno
        by_cases hjk:j=k
        · subst hjk;exact hjun
        · rw [getD_set_ne true hjk]at hun;exact hun
      refine wpOp_mono (fun a' w' h3=>⟨h3.2.1,ih (listed.setIfInBounds j true) a' w' (hcl.set hj) hfree' (ready_mono hr (Ne.symm hji)) h3.1 (hS2 w' h3.2.1) ?_⟩) h2
      rw [Array.setIfInBounds_comm _ _ hji]
      exact h3.2.2
theorem wpAnyN_done {Q:Exit->Act->World->Prop} {S:World->Prop} {isL nd:Nat->Bool} {listed:Array Bool} {a:Act} {w:World} (hr:Region.ready .any ops listed= []) (h:Q .normal a w):∀ fuel,nV P ops Q S isL nd fuel listed a w
 | 0=>⟨hr,h⟩
 | _+1=>⟨fun _=>h,by rw [hr];simp⟩
theorem run_step {lkA lk:List Nat} {fs0:FS} {Kf:Env->Mem->Prop} {Qf:Act->World->Prop} {i:Nat} {p:DPlan} {fs:FS} {Ex LC pre pv:List Nat} {fuel:Nat} {kp kc:Bool}
    (ih : ∀ (listed : Array Bool) (ps : List (Nat × AV)) (hs : List HB) (e g : Env) (m : Mem) (a : Act) (w : World) (L : Lay), St C0 m0 w0 L0 n l keep (kc && kp) fs pre pv Ex ps hs e g m a w L → Lst ops (i :: LC) Ex listed →
        iI P l keep (flM keep m0) m0 fs0 Kf p ps e g m->nV P ops (fun x a w=>x= .normal/\Qf a w) (SP (C0.here m0 w0 L0) keep m0) lkA.contains (ndB1 ops lk) fuel listed a w)
    (ckA:lkA.contains i=false) (ckc:(kc || !kp)=true) (ckp:(kp || !(ndB1 ops lk i))=true) (c1:chkI P n ops l i=true) (c6:dstNot l fs pv i=true)
    {listed:Array Bool} {ps:List (Nat × AV)} {hs:List HB} {e g:Env} {m:Mem} {a:Act} {w:World} {L:Lay} (S:St C0 m0 w0 L0 n l keep kc fs pre pv Ex ps hs e g m a w L) (hl:Lst ops LC Ex listed) (hir:i ∈ Region.ready .any ops listed)
    (hvc:match l[i]? with | some o=>vcOp P o e m fun e' m'=>keepK keep kp m0 m' (match o.dst with | none=>iI P l keep (flM keep m0) m0 fs0 Kf p ps e' g m' | some d=>putK g (some d) (flt (e'.get d)) fun g'=>iI P l keep (flM keep m0) m0 fs0 Kf p ps e' g' m') | none=>False):
    wpOp P ops (fun x a w=>x= .normal/\Qf a w) i (fun a' w'=>((lkA.contains i=true->w'=w)/\(lkA.contains i=false->ndB1 ops lk i=true->SP (C0.here m0 w0 L0) keep m0 w'))/\nV P ops (fun x a w=>x= .normal/\Qf a w) (SP (C0.here m0 w0 L0) keep m0) lkA.contains (ndB1 ops lk) fuel (listed.setIfInBounds i true) a' w') a w:=by
  obtain⟨o,ao,ho,hao,hco⟩:=kJ c1
  have hilt:=(Array.getElem?_eq_some_iff.1 ho).1
  obtain⟨hde,hdn,hop⟩:=sM hco
  have hdN:=rA c6 hao
  rw [hao]at hvc
  simp only at hvc
  unfold wpOp
  rw [ho]
  simp only
  have hop':=op_sound (P:=P) (C:=CX (C0.here m0 w0 L0) hs m w L) (ops:=ops) (o:=o) (Q:=fun x a w=>x= .normal/\Qf a w)
    (next:=fun a' w'=>((lkA.contains i=true->w'=w)/\(lkA.contains i=false->ndB1 ops lk i=true->SP (C0.here m0 w0 L0) keep m0 w'))/\nV P ops (fun x a w=>x= .normal/\Qf a w) (SP (C0.here m0 w0 L0) keep m0) lkA.contains (ndB1 ops lk) fuel (listed.setIfInBounds i true) a' w')
    ⟨S.H.size,S.H.defers,S.H.memX,S.H.env⟩ hco hvc (fun e' m' r w' L' hk hr hun=>by
      obtain⟨hk1,hk2⟩:=uN hk
      have H':HRel (C0.here m0 w0 L0) n hs e' m' (a.put o.dst r) w' L':=S.H.step hr.mem hr.env hr.size hr.defers (fun h hh=>by
        rw [hde]
        cases hq:ao.dst with
        | none=>rfl
        | some d =>
          obtain⟨_,q,q1,q2,blk0,q3,_⟩:=S.hmem h hh
          rw [<- q2]at q3
          exact cV (fun h5=>iQ (hdN d hq).2 q1 q3 h5))
      obtain⟨g',hg1,hg2,hg3⟩ :∃ g',iI P l keep (flM keep m0) m0 fs0 Kf p ps e' g' m'/\GR (C0.here m0 w0 L0) m0 w0 L0 g' (a.put o.dst r)/\(∀ d,g.get d= .un->ao.dst ≠ some d->g'.get d= .un):=by
        cases hq:ao.dst with
        | none =>
          rw [hq]at hk2
          refine⟨g,hk2,?_,fun d h _=>h⟩
          rw [hde,hq];exact S.G
        | some d =>
          rw [hq]at hk2
          simp only [iB]at hk2
          refine⟨_,hk2,fun t=> ?_,fun d' hd' hne=>kD hd' hne⟩
          rcases Env.set_upd g d (flt (e'.get d)) t with h | ⟨h1,h2⟩ | ⟨h1,h2⟩
          · rw [show (putE g (some d) (flt (e'.get d))).get t= .un from h];exact .un _
          · rw [show (putE g (some d) (flt (e'.get d))).get t=g.get t from h2,hde,hq,cV h1];exact S.G t
          · rw [show (putE g (some d) (flt (e'.get d))).get t=_ from h2,h1];exact flt_vr (hr.env d)
      have S':St C0 m0 w0 L0 n l keep (kc && kp) fs pre pv Ex ps hs e' g' m' (a.put o.dst r) w' L':=⟨H',hg2,fun h=>hk1 (by simp only [Bool.and_eq_true]at h;exact h.2),fun q hq d val blk hf=>by
        obtain⟨u1,u2⟩:=S.eun q hq d val blk hf
        have:ao.dst ≠ some d:=fun h=>iQ (hdN _ h).2 hq hf rfl
        exact⟨hun d u1 this,hg3 d u2 this⟩,S.ex,S.hmem,S.hall,S.hnd,S.sf,fun s hs'=>by
        obtain⟨f,d',val',blk',v,sz,sv,b,p1,p2,p3,p4,p5,p6,p7,p8,p9,p10⟩:=S.pps s hs'
        refine⟨f,d',val',blk',v,sz,sv,b,p1,p2,p3,p4,p5,p6,p7,?_,p9,p10⟩
        rw [hde]
        cases hq:ao.dst with
        | none=>exact p8
        | some d=>rw [cV (fun h=>(hdN d hq).1 (by rw [<- h];exact p9))];exact p8⟩
      exact⟨⟨fun h=>absurd (ckA.symm.trans h) Bool.false_ne_true,fun _ h=>by
        have h1:kp=true:=by rw [h]at ckp;simpa using ckp
        have h2:kc=true:=by rw [h1]at ckc;simpa using ckc
        exact⟨_,keepS S'.H.memC (S'.keepc (by rw [h1,h2];rfl))⟩⟩,ih _ ps hs e' g' m' _ w' L' S' (hl.setL hilt hir) hg1⟩)
  split
  · rename_i hw;rw [if_pos hw]at hop';exact .inl hop'
  · rename_i hw;rw [if_neg hw]at hop';exact⟨⟨fun _=>trivial,hop'.1.2⟩,hop'.2⟩
theorem plan_sound {lkA lk:List Nat} (hR0:MRel (C0.here m0 w0 L0) m0 w0 L0) (hns:Region.noSelect ops=true) {fs0:FS} {Kf:Env->Mem->Prop} {Qf:Act->World->Prop} (hK:∀ e m a w L,Kf e m->Rel (C0.here m0 w0 L0) n e m a w L->Qf a w):
    ∀ (p : DPlan) (kc : Bool) (fs : FS) (LC pre pv : List Nat), (fs = fs0 ∨ fs = []) → chkFS P n ops l fs = true → iD P n ops l lkA lk p kc fs LC pre pv = true → (∀ j, j ∈ LC → j < ops.size ∧ j ∉ fsI fs) → (∀ j, j ∈ fsI fs → j < ops.size ∧ lkA.contains j = false) →
      ∀ (fuel : Nat) (listed : Array Bool) (Ex : List Nat) (ps : List (Nat × AV)) (hs : List HB) (e g : Env) (m : Mem) (a : Act) (w : World) (L : Lay), St C0 m0 w0 L0 n l keep kc fs pre pv Ex ps hs e g m a w L → Ex.Nodup → p.need + (fsI fs).length ≤ fuel + Ex.length → Lst ops LC Ex listed →
        iI P l keep (flM keep m0) m0 fs0 Kf p ps e g m->nV P ops (fun x a w=>x= .normal/\Qf a w) (SP (C0.here m0 w0 L0) keep m0) lkA.contains (ndB1 ops lk) fuel listed a w:=by
  have exSub:∀ {kc:Bool} {fs:FS} {pre pv Ex ps hs e g m a w L},St C0 m0 w0 L0 n l keep kc fs pre pv Ex ps hs e g m a w L->∀ j,j ∈ Ex->j ∈ fsI fs:=by
    intro kc fs pre pv Ex ps hs e g m a w L S j hj
    rcases S.ex j hj with⟨q,h1,h2⟩ | h1
    · exact jR.2 (.inl ⟨q,h1,h2⟩)
    · obtain⟨f,_,_,_,_,_,_,_,p1,_⟩:=S.pps j h1
      exact jR.2 (.inr ⟨_,p1,rfl⟩)
  have toS:∀ {kc:Bool} {fs:FS} {pre pv Ex ps hs e g m a w L},St C0 m0 w0 L0 n l keep kc fs pre pv Ex ps hs e g m a w L->kc=true->SP (C0.here m0 w0 L0) keep m0 w:=fun S hk=>⟨_,keepS S.H.memC (S.keepc hk)⟩
  intro p
  induction p with
  | flat=>intro kc fs LC pre pv _ _ hc;simp [iD]at hc
  | done =>
    intro kc fs LC pre pv _ _ hc hLC hfl fuel listed Ex ps hs e g m a w L S hnd hfuel hl hvc
    simp only [iD,Bool.and_eq_true,List.isEmpty_iff]at hc
    obtain⟨rfl,hall⟩:=hc
    refine wpAnyN_done ?_ ⟨rfl,hK e m a w L hvc ?_⟩ _
    · cases hr:Region.ready .any ops listed with
      | nil=>rfl
      | cons j r =>
        obtain⟨h1,h2,_⟩:=hl.ready (j:=j) (by rw [hr];exact .head _)
        have:=List.all_eq_true.1 hall j (List.mem_range.2 h1)
        exact absurd (by simpa using this) h2
    · have:hs= [] :=by
        cases hs with
        | nil=>rfl
        | cons h r=>obtain ⟨_,q,hq,_⟩:=S.hmem h (.head _);simp at hq
      subst this
      exact S.H.rel
  | look i p ih =>
    intro kc fs LC pre pv hfs0 hfs hc hLC hfl fuel listed Ex ps hs e g m a w L S hnd hfuel hl hvc
    simp only [iD,Bool.and_eq_true,Bool.not_eq_true']at hc
    obtain⟨clA,clk,c1,c2,c3,c4,c5,c6,c7⟩:=hc
    have c2':i ∉ LC:=by simpa using c2
    have c3':i ∉ fsI fs:=by simpa using c3
    obtain⟨o,ao,ho,hao,hco⟩:=kJ c1
    have hilt:=(Array.getElem?_eq_some_iff.1 ho).1
    obtain⟨hde,hdn,hop⟩:=sM hco
    have hdN:=rA c6 hao
    change (match l[i]? with | some o=>vcLook o e g m (flM keep m0) fun e g=>iI P l keep (flM keep m0) m0 fs0 Kf p ps e g m | none=>False)at hvc
    rw [hao]at hvc
    simp only at hvc
    have hExLen:=dO hnd (exSub S)
    simp only [DPlan.need]at hfuel
    obtain⟨fuel,rfl⟩ :∃ f,fuel=f+1:=⟨fuel - 1,by omega⟩
    obtain⟨r,e',g',k1,k2,k3,k4,k5,k6,k7⟩:=look_sound hR0 S.H S.G hco (ops:=ops) (fun h hh hd=>by
      obtain⟨_,q,q1,q2,blk0,q3,_⟩:=S.hmem h hh
      rw [<- q2]at q3
      exact iQ (hdN _ hd).2 q1 q3 rfl) hvc
    have hiEx:i ∉ Ex:=fun h=>c3' (exSub S i h)
    have hready:i ∈ Region.ready .any ops listed:=hl.mk_ready hilt c2' hiEx c4 (fun x hx=>⟨(hLC x hx).1,.inl hx⟩)
    have hfree:Region.free .any ops listed i=true:=by
      unfold Region.free
      rw [ho]
      simp only
      rw [List.all_eq_true]
      intro j hj
      have:=List.all_eq_true.1 c5 j hj
      have hjlt:=List.mem_range.1 hj
      simp only [Bool.or_eq_true,beq_iff_eq]at this ⊢
      rcases this with h | h | h | h
      · exact .inl (.inl h)
      · refine .inl (.inr ?_)
        rw [getD_tf (by rw [hl.size];exact hjlt)]
        exact(hl.iff j hjlt).2 (.inl (by simpa using h))
      · right
        unfold bndB at h
        rw [Array.getElem?_eq_getElem hjlt]at h ⊢
        simp only [Bool.or_eq_true]at h ⊢
        exact .inl h
      · right
        unfold apt at h
        rw [ho,Array.getElem?_eq_getElem hjlt]at h
        rw [Array.getElem?_eq_getElem hjlt]
        simp only [Bool.or_eq_true]at h ⊢
        exact .inr h
    have hregI:regI l i=sA ao.op:=by unfold regI;rw [hao]
    refine wpAnyN_first ho clA (Region.noSelect_spec hns) (fun c a w h=>by cases h.1) (S':=fun w'=>sA ao.op=true\/SP (C0.here m0 w0 L0) keep m0 w') ?_ fuel listed a w hl.closed (Region.free_spec ho hfree) hready k1 ?_ ?_
    · simp only [Bool.or_eq_true,Bool.and_eq_true]at clk
      rcases clk with h | ⟨_,h⟩
      · exact .inl fun w=> .inl (by rw [<- hregI];exact h)
      · refine .inr ⟨fun w h=> .inr h,fun j hj=> ?_⟩
        unfold ndB1 at hj
        simp only [Bool.not_eq_false']at hj
        exact bndT_anc (List.all_eq_true.1 hj i (by simpa using h))
    · simp only [Bool.or_eq_true,Bool.and_eq_true]at clk
      rcases clk with h | ⟨h,_⟩
      · exact .inl (by rw [<- hregI];exact h)
      · exact .inr (toS S h)
    · refine ih kc fs (i::LC) pre pv hfs0 hfs c7 (fun j hj=> ?_) hfl fuel _ Ex ps hs e' g' m (a.put o.dst r) w L ⟨k3,k4,S.keepc,fun q hq d val blk hf=> ?_,S.ex,S.hmem,S.hall,S.hnd,S.sf,fun s hs'=> ?_⟩ hnd (by omega) (hl.setL hilt hready) k2
      · rcases List.mem_cons.1 hj with rfl | hj
        · exact⟨hilt,c3'⟩
        · exact hLC j hj
      · obtain⟨u1,u2⟩:=S.eun q hq d val blk hf
        have:ao.dst ≠ some d:=fun h=>iQ (hdN _ h).2 hq hf rfl
        exact⟨k6 d u1 this,k7 d u2 this⟩
      · obtain⟨f,d',val',blk',v,sz,sv,b,p1,p2,p3,p4,p5,p6,p7,p8,p9,p10⟩:=S.pps s hs'
        refine⟨f,d',val',blk',v,sz,sv,b,p1,p2,p3,p4,p5,p6,p7,?_,p9,p10⟩
        rw [hde]
        cases hq:ao.dst with
        | none=>exact p8
        | some d=>rw [cV (fun h=>(hdN d hq).1 (by rw [<- h];exact p9))];exact p8
  | run i kp p ih =>
    intro kc fs LC pre pv hfs0 hfs hc hLC hfl fuel listed Ex ps hs e g m a w L S hnd hfuel hl hvc
    simp only [iD,Bool.and_eq_true,Bool.not_eq_true']at hc
    obtain⟨ckA,ckp,ck1,ck2,c1,c2,c3,c4,c5,c6,c7⟩:=hc
    have c2':i ∉ LC:=by simpa using c2
    have c3':i ∉ fsI fs:=by simpa using c3
    obtain⟨o,ao,ho,hao,hco⟩:=kJ c1
    have hilt:=(Array.getElem?_eq_some_iff.1 ho).1
    obtain⟨hde,hdn,hop⟩:=sM hco
    have hdN:=rA c6 hao
    have hkp:ndB1 ops lk i=true->kp=true:=fun h=>by rw [h]at ckp;simpa using ckp
    change (match l[i]? with | some o=>vcOp P o e m fun e' m'=>keepK keep kp m0 m' (match o.dst with | none=>iI P l keep (flM keep m0) m0 fs0 Kf p ps e' g m' | some d=>putK g (some d) (flt (e'.get d)) fun g'=>iI P l keep (flM keep m0) m0 fs0 Kf p ps e' g' m') | none=>False)at hvc
    rw [hao]at hvc
    simp only at hvc
    simp only [DPlan.need]at hfuel
    induction fuel generalizing listed Ex hs a w with
    | zero=>have:=dO hnd (exSub S);omega
    | succ fuel ihf =>
      have hiEx:i ∉ Ex:=fun h=>c3' (exSub S i h)
      have hir:=hl.mk_ready hilt c2' hiEx c4 (fun x hx=>⟨(hLC x hx).1,.inl hx⟩)
      refine⟨fun h0=>by rw [h0]at hir;simp at hir,fun j hj=> ?_⟩
      obtain⟨j1,j2,j3,oj,j4,j5⟩:=hl.ready hj
      by_cases hji:j=i
      · subst hji
        unfold wpOp
        rw [ho]
        simp only
        have hop':=op_sound (P:=P) (C:=CX (C0.here m0 w0 L0) hs m w L) (ops:=ops) (o:=o) (Q:=fun x a w=>x= .normal/\Qf a w)
          (next:=fun a' w'=>((lkA.contains j=true->w'=w)/\(lkA.contains j=false->ndB1 ops lk j=true->SP (C0.here m0 w0 L0) keep m0 w'))/\nV P ops (fun x a w=>x= .normal/\Qf a w) (SP (C0.here m0 w0 L0) keep m0) lkA.contains (ndB1 ops lk) fuel (listed.setIfInBounds j true) a' w')
          ⟨S.H.size,S.H.defers,S.H.memX,S.H.env⟩ hco hvc (fun e' m' r w' L' hk hr hun=>by
            have hkeep:((kc && kp)=true->keepR keep m0 m')/\(match ao.dst with | none=>iI P l keep (flM keep m0) m0 fs0 Kf p ps e' g m' | some d=>putK g (some d) (flt (e'.get d)) fun g'=>iI P l keep (flM keep m0) m0 fs0 Kf p ps e' g' m'):=
              ⟨fun h1=>(uN hk).1 (by simp only [Bool.and_eq_true]at h1;exact h1.2),(uN hk).2⟩
            obtain⟨hk1,hk2⟩:=hkeep
            have H':HRel (C0.here m0 w0 L0) n hs e' m' (a.put o.dst r) w' L':=S.H.step hr.mem hr.env hr.size hr.defers (fun h hh=>by
              rw [hde]
              cases hq:ao.dst with
              | none=>rfl
              | some d =>
                obtain⟨_,q,q1,q2,blk0,q3,_⟩:=S.hmem h hh
                rw [<- q2]at q3
                exact cV (fun h5=>iQ (hdN d hq).2 q1 q3 h5))
            obtain⟨g',hg1,hg2,hg3⟩ :∃ g',iI P l keep (flM keep m0) m0 fs0 Kf p ps e' g' m'/\GR (C0.here m0 w0 L0) m0 w0 L0 g' (a.put o.dst r)/\(∀ d,g.get d= .un->ao.dst ≠ some d->g'.get d= .un):=by
              cases hq:ao.dst with
              | none =>
                rw [hq]at hk2
                refine⟨g,hk2,?_,fun d h _=>h⟩
                rw [hde,hq];exact S.G
              | some d =>
                rw [hq]at hk2
                simp only [iB]at hk2
                refine⟨_,hk2,fun t=> ?_,fun d' hd' hne=>kD hd' hne⟩
                rcases Env.set_upd g d (flt (e'.get d)) t with h | ⟨h1,h2⟩ | ⟨h1,h2⟩
                · rw [show (putE g (some d) (flt (e'.get d))).get t= .un from h];exact .un _
                · rw [show (putE g (some d) (flt (e'.get d))).get t=g.get t from h2,hde,hq,cV h1];exact S.G t
                · rw [show (putE g (some d) (flt (e'.get d))).get t=_ from h2,h1];exact flt_vr (hr.env d)
            have S':St C0 m0 w0 L0 n l keep (kc && kp) fs pre pv Ex ps hs e' g' m' (a.put o.dst r) w' L':=⟨H',hg2,hk1,fun q hq d val blk hf=>by
              obtain⟨u1,u2⟩:=S.eun q hq d val blk hf
              have:ao.dst ≠ some d:=fun h=>iQ (hdN _ h).2 hq hf rfl
              exact⟨hun d u1 this,hg3 d u2 this⟩,S.ex,S.hmem,S.hall,S.hnd,S.sf,fun s hs'=>by
              obtain⟨f,d',val',blk',v,sz,sv,b,p1,p2,p3,p4,p5,p6,p7,p8,p9,p10⟩:=S.pps s hs'
              refine⟨f,d',val',blk',v,sz,sv,b,p1,p2,p3,p4,p5,p6,p7,?_,p9,p10⟩
              rw [hde]
              cases hq:ao.dst with
              | none=>exact p8
              | some d=>rw [cV (fun h=>(hdN d hq).1 (by rw [<- h];exact p9))];exact p8⟩
            exact⟨⟨fun h=>absurd (ckA.symm.trans h) Bool.false_ne_true,fun _ hnd'=>toS S' (by
              have hkt:kp=true:=hkp hnd'
              have:kc=true:=by
                simp only [hkt,Bool.not_true,Bool.false_and,Bool.or_false]at ck1
                exact ck1
              rw [this,hkt];rfl)⟩,ih (kc && kp) fs (j::LC) pre pv hfs0 hfs c7 (fun x hx=>by
              rcases List.mem_cons.1 hx with rfl | hx
              · exact⟨hilt,c3'⟩
              · exact hLC x hx) hfl fuel _ Ex ps hs e' g' m' _ w' L' S' hnd (by omega) (hl.setL hilt hir) hg1⟩)
        split
        · rename_i hw;rw [if_pos hw]at hop';exact .inl hop'
        · rename_i hw;rw [if_neg hw]at hop';exact⟨⟨fun _=>trivial,hop'.1.2⟩,hop'.2⟩
      · have hsafe:=List.all_eq_true.1 c5 j (List.mem_range.2 j1)
        simp only [Bool.or_eq_true,beq_iff_eq,Bool.not_eq_true']at hsafe
        have hpr:prIn ops j (LC++fsI fs)=true:=prIn_of j4 (fun e he hb=>(j5 e he hb).elim (fun h=>List.mem_append.2 (.inl h)) (fun h=>List.mem_append.2 (.inr (exSub S _ h))))
        have hjj:(∃ q,q ∈ fs/\q.1=j)\/(j ∈ pre/\∀ q,q ∈ fs->q.2=some j->q.1 ∈ Ex):=by
          rcases hsafe with h | h | h | h | h
          · exact absurd h hji
          · exact absurd (by simpa using h) j2
          · left
            obtain⟨q,h1,h2⟩:=List.mem_map.1 (show j ∈ fs.map (·.1) by simpa using h)
            exact⟨q,h1,h2⟩
          · refine .inr ⟨by simpa using h,fun q hq hs=> ?_⟩
            simp only [chkFS,Bool.and_eq_true]at hfs
            have:=List.all_eq_true.1 hfs.2.2 q hq
            simp only [hs,Bool.and_eq_true]at this
            have hb:=this.2.2.2.1
            unfold bndB at hb
            rw [j4]at hb
            simp only at hb
            obtain⟨ed,he1,he2⟩:=Array.any_eq_true'.1 hb
            simp only [Bool.and_eq_true,beq_iff_eq]at he2
            rcases j5 ed he1 he2.1 with h | h
            · rw [he2.2]at h
              exact absurd (jR.2 (.inl ⟨q,hq,rfl⟩)) (hLC _ h).2
            · rw [<- he2.2];exact h
          · rw [hpr]at h;cases h
        have hfLA:lkA.contains j=false:=by
          refine(hfl j ?_).2
          rcases hjj with⟨q,h1,h2⟩ | ⟨hp,_⟩
          · exact jR.2 (.inl ⟨q,h1,h2⟩)
          · obtain⟨f,_,_,_,_,_,_,_,p1,_⟩:=S.pps j hp
            exact jR.2 (.inr ⟨_,p1,rfl⟩)
        have hkc:kc=true:=by
          simp only [Bool.or_eq_true,Bool.and_eq_true]at ck1
          rcases ck1 with h | h
          · exact h
          · have:fs= [] :=by simpa using h.2
            subst this
            rcases hjj with⟨q,hq,_⟩ | ⟨hp,_⟩
            · simp at hq
            · obtain⟨f,_,_,_,_,_,_,_,p1,_⟩:=S.pps j hp
              simp at p1
        refine S.fstep hfs j3 hjj (fun hs' a' w' S'=>⟨⟨fun h=>absurd (hfLA.symm.trans h) Bool.false_ne_true,fun _ _=>toS S' hkc⟩,?_⟩)
        exact ihf _ _ _ _ _ S' (List.nodup_cons.2 ⟨j3,hnd⟩) (by rw [List.length_cons];omega) (hl.setE j1 hj)
  | two kp i p j0 q0 ihp ihq =>
    intro kc fs LC pre pv hfs0 hfs hc hLC hfl fuel listed Ex ps hs e g m a w L S hnd hfuel hl hvc
    simp only [iD,Bool.and_eq_true,Bool.not_eq_true']at hc
    obtain⟨ck1,ck2,⟨a1,a2,a3,a4,a4',a5,a6,a7⟩,⟨b1,b2,b3,b4,b4',b5,b6,b7⟩,c5⟩:=hc
    have ck0:(kc || !kp)=true:=by
      simp only [Bool.or_eq_true,Bool.and_eq_true]at ck1 ⊢
      exact ck1.imp id (·.1)
    simp only [DPlan.need]at hfuel
    obtain⟨oi,_,hoi,_⟩:=kJ a3
    obtain⟨oj,_,hoj,_⟩:=kJ b3
    have hilt:=(Array.getElem?_eq_some_iff.1 hoi).1
    have hjlt:=(Array.getElem?_eq_some_iff.1 hoj).1
    obtain⟨v1,v2⟩ :(match l[i]? with | some o=>vcOp P o e m fun e' m'=>keepK keep kp m0 m' (match o.dst with | none=>iI P l keep (flM keep m0) m0 fs0 Kf p ps e' g m' | some d=>putK g (some d) (flt (e'.get d)) fun g'=>iI P l keep (flM keep m0) m0 fs0 Kf p ps e' g' m') | none=>False)/\
      (match l[j0]? with | some o=>vcOp P o e m fun e' m'=>keepK keep kp m0 m' (match o.dst with | none=>iI P l keep (flM keep m0) m0 fs0 Kf q0 ps e' g m' | some d=>putK g (some d) (flt (e'.get d)) fun g'=>iI P l keep (flM keep m0) m0 fs0 Kf q0 ps e' g' m') | none=>False):=hvc
    have hiE:i ∉ fsI fs:=by simpa using a4'
    have hjE:j0 ∉ fsI fs:=by simpa using b4'
    induction fuel generalizing listed Ex hs a w with
    | zero=>have:=dO hnd (exSub S);omega
    | succ fuel ihf =>
      have hir:=hl.mk_ready hilt (by simpa using a4) (fun h=>hiE (exSub S i h)) a5 (fun x hx=>⟨(hLC x hx).1,.inl hx⟩)
      refine⟨fun h0=>by rw [h0]at hir;simp at hir,fun j hj=> ?_⟩
      obtain⟨j1,j2,j3,oj,j4,j5⟩:=hl.ready hj
      by_cases hji:j=i
      · subst hji
        exact run_step (fun listed' ps' hs' e' g' m' a' w' L' S' hl' hv'=>ihp (kc && kp) fs (j::LC) pre pv hfs0 hfs a7 (fun x hx=>by
          rcases List.mem_cons.1 hx with rfl | hx
          · exact⟨hilt,hiE⟩
          · exact hLC x hx) hfl fuel listed' Ex ps' hs' e' g' m' a' w' L' S' hnd (by omega) hl' hv') a1 ck0 (by simpa using a2) a3 a6 S hl hj v1
      by_cases hjj0:j=j0
      · subst hjj0
        exact run_step (fun listed' ps' hs' e' g' m' a' w' L' S' hl' hv'=>ihq (kc && kp) fs (j::LC) pre pv hfs0 hfs b7 (fun x hx=>by
          rcases List.mem_cons.1 hx with rfl | hx
          · exact⟨hjlt,hjE⟩
          · exact hLC x hx) hfl fuel listed' Ex ps' hs' e' g' m' a' w' L' S' hnd (by omega) hl' hv') b1 ck0 (by simpa using b2) b3 b6 S hl hj v2
      · have hsafe:=List.all_eq_true.1 c5 j (List.mem_range.2 j1)
        simp only [Bool.or_eq_true,beq_iff_eq,Bool.not_eq_true']at hsafe
        have hpr:prIn ops j (LC++fsI fs)=true:=prIn_of j4 (fun e he hb=>(j5 e he hb).elim (fun h=>List.mem_append.2 (.inl h)) (fun h=>List.mem_append.2 (.inr (exSub S _ h))))
        have hjj:(∃ q,q ∈ fs/\q.1=j)\/(j ∈ pre/\∀ q,q ∈ fs->q.2=some j->q.1 ∈ Ex):=by
          rcases hsafe with h | h | h | h | h | h
          · exact absurd h hji
          · exact absurd h hjj0
          · exact absurd (by simpa using h) j2
          · left
            obtain⟨q,h1,h2⟩:=List.mem_map.1 (show j ∈ fs.map (·.1) by simpa using h)
            exact⟨q,h1,h2⟩
          · refine .inr ⟨by simpa using h,fun q hq hs=> ?_⟩
            simp only [chkFS,Bool.and_eq_true]at hfs
            have:=List.all_eq_true.1 hfs.2.2 q hq
            simp only [hs,Bool.and_eq_true]at this
            have hb:=this.2.2.2.1
            unfold bndB at hb
            rw [j4]at hb
            simp only at hb
            obtain⟨ed,he1,he2⟩:=Array.any_eq_true'.1 hb
            simp only [Bool.and_eq_true,beq_iff_eq]at he2
            rcases j5 ed he1 he2.1 with h | h
            · rw [he2.2]at h
              exact absurd (jR.2 (.inl ⟨q,hq,rfl⟩)) (hLC _ h).2
            · rw [<- he2.2];exact h
          · rw [hpr]at h;cases h
        have hfLA:lkA.contains j=false:=by
          refine(hfl j ?_).2
          rcases hjj with⟨q,h1,h2⟩ | ⟨hp,_⟩
          · exact jR.2 (.inl ⟨q,h1,h2⟩)
          · obtain⟨f,_,_,_,_,_,_,_,p1,_⟩:=S.pps j hp
            exact jR.2 (.inr ⟨_,p1,rfl⟩)
        have hkc:kc=true:=by
          simp only [Bool.or_eq_true,Bool.and_eq_true]at ck1
          rcases ck1 with h | h
          · exact h
          · have:fs= [] :=by simpa using h.2
            subst this
            rcases hjj with⟨q,hq,_⟩ | ⟨hp,_⟩
            · simp at hq
            · obtain⟨f,_,_,_,_,_,_,_,p1,_⟩:=S.pps j hp
              simp at p1
        refine S.fstep hfs j3 hjj (fun hs' a' w' S'=>⟨⟨fun h=>absurd (hfLA.symm.trans h) Bool.false_ne_true,fun _ _=>toS S' hkc⟩,?_⟩)
        exact ihf _ _ _ _ _ S' (List.nodup_cons.2 ⟨j3,hnd⟩) (by rw [List.length_cons];omega) (hl.setE j1 hj)
  | pre f s p ih =>
    intro kc fs LC pre pv hfs0 hfs hc hLC hfl fuel listed Ex ps hs e g m a w L S hnd hfuel hl hvc
    simp only [iD,Bool.and_eq_true,Bool.not_eq_true']at hc
    obtain⟨ck,c1,c2,c3,c4⟩:=hc
    have c1':(f,some s) ∈ fs:=by simpa using c1
    have c3':s ∉ pre:=by simpa using c3
    split at c4
    case h_2=>cases c4
    rename_i sz d v hs0
    simp only [Bool.and_eq_true,bne_iff_ne,Nat.blt_eq]at c4
    obtain⟨c5,c6,c7,c8,c9⟩:=c4
    change (match fOfL l f,sOf l s with | some (d,_,blk),some (sz,d',v)=>cH ((d == d') && (det2 true (e.get v) && (storeB sz (e.get v) blk).isSome)) (qR (e.get v) fun x=>iI P l keep (flM keep m0) m0 fs0 Kf p ((s,x)::ps) e g m) False | _,_=>False)at hvc
    rw [hs0]at hvc
    split at hvc
    case h_2=>exact hvc.elim
    rename_i d1 val blk sz1 d2 v1 hf0 heq
    simp only [Option.some.injEq,Prod.mk.injEq]at heq
    obtain⟨rfl,rfl,rfl⟩:=heq
    obtain⟨hb,hvc2⟩:=cC hvc
    rw [pD]at hvc2
    simp only [Bool.and_eq_true,beq_iff_eq]at hb
    obtain⟨rfl,hb2,hb3⟩:=hb
    obtain⟨b,hb4⟩:=Option.isSome_iff_exists.1 hb3
    have hlook:∀ s',s' ≠ s->List.lookup s' ((s,e.get v)::ps)=List.lookup s' ps:=by
      intro s' hne
      rw [List.lookup_cons]
      have:(s' == s)=false:=by simpa using hne
      rw [this]
    refine ih kc fs LC (s::pre) (v::pv) hfs0 hfs c9 hLC hfl fuel listed Ex _ hs e g m a w L ⟨S.H,S.G,S.keepc,S.eun,fun j hj=>(S.ex j hj).imp id (.tail _),fun h hh=> ?_,S.hall,S.hnd,S.sf,fun s' hs'=> ?_⟩ hnd hfuel hl hvc2
    · obtain⟨k1,q,k2,k3,blk0,k4,k5⟩:=S.hmem h hh
      refine⟨k1,q,k2,k3,blk0,k4,k5.imp id (fun⟨s',u1,u2,u3⟩=>⟨s',u1,u2,?_⟩)⟩
      have hne:s' ≠ s:=by
        rintro rfl
        rcases S.ex s' u2 with⟨q',h1,h2⟩ | h1
        · simp only [chkFS,Bool.and_eq_true]at hfs
          exact sH (yW hfs.1) h1 k2 u1 h2
        · exact c3' h1
      rw [<- u3]
      simp only [pI,u1,hlook s' hne]
    · rcases List.mem_cons.1 hs' with rfl | hs'
      · refine⟨f,d1,val,blk,e.get v,sz,v,b,c1',c2,hf0,hs0,by rw [List.lookup_cons];simp,hb2,hb4,sN hb2 (.inl rfl) (S.H.env v),.head _,c5,c6,c7,c8⟩
      · obtain⟨f,d',val',blk',v',sz,sv,b,p1,p2,p3,p4,p5,p6,p7,p8,p9,p10⟩:=S.pps s' hs'
        exact⟨f,d',val',blk',v',sz,sv,b,p1,p2,p3,p4,by rw [hlook s' (fun h=>c3' (h ▸ hs'))];exact p5,p6,p7,p8,.tail _ p9,p10⟩
  | fill p ih =>
    intro kc fs LC pre pv hfs0 hfs hc hLC hfl fuel listed Ex ps hs e g m a w L S hnd hfuel hl hvc
    simp only [iD,Bool.and_eq_true,Bool.not_eq_true']at hc
    obtain⟨ck,c0,c1,c2,c3,c4⟩:=hc
    have hfs':=hfs
    simp only [chkFS,Bool.and_eq_true]at hfs'
    have hnd0:=yW hfs'.1
    have hfe:fs=fs0:=hfs0.elim id (fun h=>by subst h;simp at c0)
    have hpre:∀ q,q ∈ fs->∀ s,q.2=some s->s ∈ pre:=fun q hq s hs=>by
      have:=List.all_eq_true.1 c1 q hq
      simp only [hs]at this
      simpa using this
    simp only [DPlan.need]at hfuel
    change fillK l ps fs0 e m (fun e m=>iI P l keep (flM keep m0) m0 fs0 Kf p ps e g m)at hvc
    rw [<- hfe]at hvc
    have full:∀ {fuel:Nat} {listed:Array Bool} {Ex:List Nat} {hs:List HB} {a:Act} {w:World},St C0 m0 w0 L0 n l keep kc fs pre pv Ex ps hs e g m a w L->Ex.Nodup->p.need+(fsI fs).length<=fuel+Ex.length->Lst ops LC Ex listed->(∀ t,t ∈ fsI fs->t ∈ Ex)->
        nV P ops (fun x a w=>x= .normal/\Qf a w) (SP (C0.here m0 w0 L0) keep m0) lkA.contains (ndB1 ops lk) fuel listed a w:=by
      intro fuel listed Ex hs a w S hnd hfuel hl hall
      have hExLen:=dO hnd (exSub S)
      obtain⟨e',m',L',k1,k2,t,k3⟩:=fillK_sound S.H (fs:=fs) (fun h hh=>by
        obtain⟨u1,q,u2,u3,blk0,u4,u5⟩:=S.hmem h hh
        refine⟨q,u2,u3,?_⟩
        rcases u5 with⟨v1,v2⟩ | ⟨s,v1,v2,v3⟩
        · cases hq:q.2 with
          | none =>
            rw [<- u3]at u4
            simp only [pI,u4,hq,v1]
          | some s=>exact absurd (hall s (jR.2 (.inr ⟨q,u2,hq⟩))) (v2 s hq)
        · exact v3) (fun q hq=>S.hall q hq (hall _ (jR.2 (.inl ⟨q,hq,rfl⟩)))) S.hnd (List.nodup_append.1 hnd0).1 hvc
      refine ih kc [] (fsI fs++LC) [] [] (.inr rfl) (by simp [chkFS,fsI,ndN,fdDist]) c4 (fun j hj=>⟨?_,by simp [fsI]⟩) (fun j hj=>by simp [fsI]at hj) fuel listed [] ps [] e' g m' a w L' ⟨k2,S.G,fun hc=> ?_,fun q hq=>by simp at hq,fun j hj=>by simp at hj,fun h hh=>by simp at hh,fun q hq=>by simp at hq,by simp,fun q hq=>by simp at hq,fun s hs=>by simp at hs⟩ .nil (by simp [fsI];omega) ⟨hl.closed,hl.size,fun j hj=> ?_⟩ (by rw [<- hfe];exact k1)
      · rcases List.mem_append.1 hj with h | h
        · exact(hfl j h).1
        · exact(hLC j h).1
      · rw [k3];exact keepR_app (S.keepc hc) t
      · rw [hl.iff j hj,List.mem_append]
        constructor
        · rintro(h | h)
          · exact .inl (.inr h)
          · exact .inl (.inl (exSub S j h))
        · rintro((h | h) | h)
          · exact .inr (hall j h)
          · exact .inl h
          · simp at h
    clear hvc
    induction fuel generalizing listed Ex hs a w with
    | zero =>
      refine full S hnd hfuel hl (fun t ht=> ?_)
      by_cases h:t ∈ Ex
      · exact h
      · have:=dO (l1:=t::Ex) (l2:=fsI fs) (List.nodup_cons.2 ⟨h,hnd⟩) (fun x hx=>by
          rcases List.mem_cons.1 hx with rfl | hx
          · exact ht
          · exact exSub S x hx)
        rw [List.length_cons]at this
        omega
    | succ fuel ihf =>
      by_cases hall:∀ t,t ∈ fsI fs->t ∈ Ex
      · exact full S hnd hfuel hl hall
      · obtain⟨t,ht⟩:=Classical.not_forall.1 hall
        obtain⟨ht1,ht2⟩:=Classical.not_imp.1 ht
        refine⟨fun h0=> ?_,fun j hj=> ?_⟩
        · obtain⟨j,hj⟩:=first_ready hl c2 (fun x hx=>⟨(hfl x hx).1,fun h=>(hLC x h).2 hx⟩) (fun x hx=>⟨(hLC x hx).1,.inl hx⟩) ⟨t,ht1,ht2⟩
          rw [h0]at hj;simp at hj
        · obtain⟨j1,j2,j3,oj,j4,j5⟩:=hl.ready hj
          have hedge:∀ f,bndB ops j f=true->f ∈ LC\/f ∈ Ex:=by
            intro f hb
            unfold bndB at hb
            rw [j4]at hb
            simp only at hb
            obtain⟨ed,he1,he2⟩:=Array.any_eq_true'.1 hb
            simp only [Bool.and_eq_true,beq_iff_eq]at he2
            rw [<- he2.2]
            exact j5 ed he1 he2.1
          have hjf:j ∈ fsI fs:=by
            have:=List.all_eq_true.1 c3 j (List.mem_range.2 j1)
            simp only [Bool.or_eq_true]at this
            rcases this with h | h | h
            · exact absurd (by simpa using h) j2
            · simpa using h
            · rcases hedge t (List.all_eq_true.1 h t ht1)with h | h
              · exact absurd ht1 (hLC t h).2
              · exact absurd h ht2
          have hjj:(∃ q,q ∈ fs/\q.1=j)\/(j ∈ pre/\∀ q,q ∈ fs->q.2=some j->q.1 ∈ Ex):=by
            rcases jR.1 hjf with h | ⟨q,h1,h2⟩
            · exact .inl h
            · refine .inr ⟨hpre q h1 j h2,fun q' hq' hs=> ?_⟩
              have:=List.all_eq_true.1 hfs'.2.2 q' hq'
              simp only [hs,Bool.and_eq_true]at this
              rcases hedge _ this.2.2.2.1 with h | h
              · exact absurd (jR.2 (.inl ⟨q',hq',rfl⟩)) (hLC _ h).2
              · exact h
          refine S.fstep hfs j3 hjj (fun hs' a' w' S'=>⟨⟨fun h=>absurd ((hfl j hjf).2.symm.trans h) Bool.false_ne_true,fun _ _=>toS S' ck⟩,?_⟩)
          exact ihf _ _ _ _ _ S' (List.nodup_cons.2 ⟨j3,hnd⟩) (by rw [List.length_cons];omega) (hl.setE j1 hj)
end
noncomputable def chkDraw2 (P:Program) (n:Nat) (ops:Array Oper) (l:List AOpr) (d:DInfo):Bool:=
 Region.noSelect ops && (Nat.ble (d.p.need+(fsI d.fs).length) ops.size && (((fsI d.fs).all fun j=>Nat.blt j ops.size && !(d.p.looks.contains j)) && (chkFS P n ops l d.fs && iD P n ops l d.p.looks (d.p.loads l) d.p true d.fs [] [] [])))
noncomputable def killF (l:List AOpr) (fs:FS):Env->(Env->Prop)->Prop:=
 List.rec (motive:=fun _=>Env->(Env->Prop)->Prop) (fun e K=>K e) (fun p _ ih e K=>match fOfL l p.1 with | some (d,_,_)=>Env.setK 12 e d .un fun e=>ih e K | none=>False) fs
theorem killF_spec {l:List AOpr}:∀ {fs:FS} {e:Env} {K:Env->Prop},killF l fs e K->∃ e',K e'/\(∀ t,e'.get t= .un\/e'.get t=e.get t)/\∀ q,q ∈ fs->∀ d val blk,fOfL l q.1=some (d,val,blk)->e'.get d= .un
  | [],e,K,h=>⟨e,h,fun t=> .inr rfl,fun q hq=>by simp at hq⟩
  | p :: r, e, K, h => by
    change (match fOfL l p.1 with | some (d,_,_)=>Env.setK 12 e d .un fun e=>killF l r e K | none=>False)at h
    split at h
    case h_2=>exact h.elim
    rename_i d val blk hf
    rw [Env.setK_eq]at h
    obtain⟨e',k1,k2,k3⟩:=killF_spec h
    have hun:∀ t,(e.set d .un).get t= .un\/(e.set d .un).get t=e.get t:=fun t=>by
      rcases Env.set_upd e d .un t with h | ⟨_,h⟩ | ⟨_,h⟩
      · exact .inl h
      · exact .inr h
      · exact .inl h
    refine⟨e',k1,fun t=> ?_,fun q hq d' val' blk' hf'=> ?_⟩
    · rcases k2 t with h | h
      · exact .inl h
      · rw [h];exact hun t
    · rcases List.mem_cons.1 hq with rfl | hq
      · rw [hf]at hf'
        simp only [Option.some.injEq,Prod.mk.injEq]at hf'
        obtain⟨rfl,_,_⟩:=hf'
        rcases k2 d with h | h
        · exact h
        · rw [h]
          rcases Env.set_upd e d .un d with h | ⟨h1,h⟩ | ⟨_,h⟩
          · exact h
          · exact absurd rfl h1
          · exact h
      · exact k3 q hq d' val' blk' hf'
noncomputable def DK:DrawKit where
  chk P n ops l d:=match d.p with
    | .flat=>DK0.chk P n ops l d
    | _=>chkDraw2 P n ops l d
  vc P l d e m K:=match d.p with
    | .flat=>DK0.vc P l d e m K
    | _=>killF l d.fs e fun e=>resK e d.keep fun keep=>flMK keep m fun mS=>iI P l keep mS m d.fs K d.p [] e e m
  sound:=by
    intro P n ops l d id hm hc C e m a w L K hrel hvc Q hQ
    have main:chkDraw2 P n ops l d=true->(killF l d.fs e fun e=>resK e d.keep fun keep=>flMK keep m fun mS=>iI P l keep mS m d.fs K d.p [] e e m)->(Code.region id ops true).wp P Q a w:=by
      intro hc hvc
      simp only [chkDraw2,Bool.and_eq_true,Nat.ble_eq]at hc
      obtain⟨h1,h2,h3,h4,h5⟩:=hc
      obtain⟨e',k0,k2,k3⟩:=killF_spec hvc
      obtain⟨keep,k1⟩:=resK_spec k0
      rw [flMK_eq]at k1
      let w1:World:= {w with drawn:=w.drawn+1}
      have hrel':Rel C n e' m a w1 L:=⟨hrel.size,hrel.defers,hrel.mem.drawn _,fun t=>by
        rcases k2 t with h | h
        · rw [h];exact .un _
        · rw [h];exact hrel.env t⟩
      have hR0:=hrel'.mem.here
      have S0:St C m w1 L n l keep true d.fs [] [] [] [] [] e' e' m a w1 L:=⟨HRel.start hrel',fun t=>hrel'.env t,fun _=>uM _ _,fun q hq d' val blk hf=>⟨k3 q hq d' val blk hf,k3 q hq d' val blk hf⟩,fun j hj=>by simp at hj,fun h hh=>by simp at hh,fun q _ hq=>by simp at hq,by simp,fun q _ s _ hs=>by simp at hs,fun s hs=>by simp at hs⟩
      refine Code.wp_mono (Q:=fun x a' w'=>x= .normal/\Q .normal a' w') (by rintro x a' w' ⟨rfl,h⟩;exact h) ?_
      refine wp_region_any hm (wpAny_of_N (S:=SP (C.here m w1 L) keep m) (isL:=d.p.looks.contains) (nd:=ndB1 ops (d.p.loads l)) _ _ _ _ ?_)
      refine plan_sound hR0 h1 (fs0:=d.fs) (Kf:=K) (Qf:=fun a w=>Q .normal a w) (fun e2 m2 a2 w2 L2 hk hr=> ?_) d.p true d.fs [] [] [] (.inl rfl) h4 h5 (fun j hj=>by simp at hj) (fun j hj=>by
        have:=List.all_eq_true.1 h3 j hj
        simp only [Bool.and_eq_true,Nat.blt_eq,Bool.not_eq_true']at this
        exact this) ops.size _ [] [] [] e' e' m a w1 L S0 .nil (by simpa using h2) ⟨fun j k hj=>by
        exfalso
        rw [Array.getD_eq_getD_getElem?,Array.getElem?_replicate]at hj
        split at hj <;> simp at hj,by simp,fun j hj=> ?_⟩ k1
      · obtain⟨b1,b2⟩:=hrel'.mem.back hr.mem
        exact hQ e2 m2 a2 w2 L2 hk ⟨hr.size,hr.defers,b1,hr.env⟩
      · simp [Array.getD_eq_getD_getElem?,hj]
    cases hp:d.p with
    | flat =>
      rw [hp]at hc hvc
      exact DK0.sound (P:=P) (n:=n) (ops:=ops) (l:=l) (ord:=d) hm hc hrel hvc hQ
    | _ =>
      rw [hp]at hc hvc
      exact main hc (by rw [hp];exact hvc)
end Go.Wit
end

section
set_option maxHeartbeats 1000000
namespace Go.Proofs.YtfolpdmbpbbimaaGreat
open Go Go.Wit
noncomputable abbrev Pg:Program:=Tryz.prog
def oT (a b c t v:Nat):AOpr:=⟨none,.stA a b c (.t t) (.t v),none⟩
def oI (d:Nat) (k:Int):AOpr:=⟨some d,.mv (.c (.int .i64 k)),none⟩
def oB (d:Nat) (b:Bool):AOpr:=⟨some d,.mv (.c (.bool b)),none⟩
def oW (d:Nat) (o:BinOp) (a b:Nat):AOpr:=⟨some d,.bin o (.t a) (.t b),none⟩
def oV (d:Nat) (o:BinOp) (a:Nat) (k:IntKind) (n:Int):AOpr:=⟨some d,.bin o (.t a) (.c (.int k n)),none⟩
def oE (d a k:Nat):AOpr:=⟨some d,.ext (.t a) k,none⟩
def oL (d a:Nat):AOpr:=⟨some d,.len (.t a),none⟩
def oF (d k a:Nat):AOpr:=⟨some d,.fldA k (.t a),none⟩
def oD (d z:Nat) (b:Bool) (a:Nat):AOpr:=⟨some d,.load z b (.t a),none⟩
def oX (d z a b:Nat):AOpr:=⟨some d,.idxA z (.t a) (.t b),none⟩
def oU (d a:Nat):AOpr:=⟨some d,.un .not (.t a),none⟩
def oQ (d f:Nat) (l:List Nat):AOpr:=⟨some d,.call (.c (.fn f [])) (l.map .t),none⟩
def sO (l:List AOpr) (c:ACode):ACode:= .seq (.ops l) c
abbrev BT (A:AFun) (f:FuncId):Prop:= ∀ {args:List AV} {m:Mem} {K:AV->Mem->Prop},vcFun DK Pg A args m K->ACall Pg f args m K
def oM (d s:Nat):AOpr:=⟨some d,.mv (.t s),none⟩
def oK (d f:Nat) (l:List Opn):AOpr:=⟨some d,.call (.c (.fn f [])) l,none⟩
def oO (d:Nat) (o:AOp):AOpr:=⟨some d,o,none⟩
def oG (d:Nat) (o:AOp) (t:Nat) (b:Bool):AOpr:=⟨some d,o,some (t,b)⟩
def oS (z a b:Nat):AOpr:=⟨none,.store z (.t a) (.t b),none⟩
abbrev fL:Nat:=8
abbrev gZ:Nat:=12
abbrev gK:Nat:=15
abbrev eH:Nat:=16
abbrev dC:Nat:=31
abbrev bJ:Nat:=32
abbrev dV:Nat:=33
abbrev cE:Nat:=34
abbrev bD:Nat:=35
abbrev iU:Nat:=37
abbrev fE:Nat:=38
abbrev eJ:Nat:=39
abbrev jW:Nat:=40
abbrev fB:Nat:=41
abbrev hU:Nat:=42
abbrev eD:Nat:=43
abbrev fO:Nat:=44
abbrev dX:Nat:=45
abbrev dU:Nat:=46
abbrev kN:Nat:=47
abbrev fJ:Nat:=49
abbrev bV:Nat:=50
abbrev fY:Nat:=51
abbrev dY:Nat:=53
abbrev cM:Nat:=54
abbrev fZ:Nat:=61
abbrev F_act_whole:Nat:=67
abbrev gI:Nat:=72
abbrev fS:Nat:=73
abbrev gJ:Nat:=74
abbrev cP:Nat:=82
abbrev eI:Nat:=84
abbrev cL:Nat:=92
abbrev bW:Nat:=93
abbrev dP:Nat:=94
abbrev gE:Nat:=95
abbrev fQ:Nat:=96
abbrev dH:Nat:=97
abbrev gV:Nat:=98
abbrev gW:Nat:=99
abbrev iH:Nat:=100
abbrev bM:Nat:=101
abbrev bZ:Nat:=102
abbrev jM:Nat:=105
abbrev kM:Nat:=106
abbrev gN:Nat:=107
abbrev jI:Nat:=108
abbrev iT:Nat:=109
abbrev nA:Nat:=110
abbrev iX:Nat:=111
abbrev jP:Nat:=112
abbrev gC:Nat:=113
abbrev fM:Nat:=114
abbrev fG:Nat:=115
abbrev fN:Nat:=116
abbrev uV:Nat:=117
abbrev fF:Nat:=118
abbrev dJ:Nat:=119
abbrev dZ:Nat:=120
abbrev eA:Nat:=121
abbrev cQ:Nat:=122
abbrev cF:Nat:=124
abbrev dR:Nat:=125
abbrev fX:Nat:=126
abbrev gT:Nat:=127
abbrev eL:Nat:=128
abbrev eM:Nat:=129
abbrev iF:Nat:=139
abbrev cK:Nat:=140
abbrev lD:Nat:=141
abbrev dI:Nat:=154
abbrev eG:Nat:=155
abbrev sV:Nat:=159
abbrev iW:Nat:=160
abbrev kZ:Nat:=161
abbrev aP:Nat:=162
abbrev iV:Nat:=163
abbrev mF:Nat:=165
abbrev aG:Nat:=166
abbrev aW:Nat:=167
abbrev hZ:Nat:=172
abbrev dD:Nat:=173
abbrev cI:Nat:=174
abbrev bX:Nat:=175
abbrev gF:Nat:=176
abbrev cD:Nat:=177
abbrev fI:Nat:=178
abbrev dE:Nat:=179
abbrev dW:Nat:=180
abbrev fK:Nat:=181
abbrev gD:Nat:=182
abbrev cA:Nat:=183
abbrev bO:Nat:=184
abbrev bG:Nat:=185
abbrev wU:Nat:=186
abbrev iS:Nat:=187
abbrev kK:Nat:=188
abbrev jH:Nat:=189
abbrev qJ:Nat:=190
abbrev lC:Nat:=192
abbrev fD:Nat:=193
abbrev dF:Nat:=194
abbrev fP:Nat:=195
abbrev jJ:Nat:=196
abbrev nC:Nat:=197
abbrev mG:Nat:=199
abbrev gL:Nat:=200
abbrev mH:Nat:=201
abbrev eK:Nat:=202
abbrev kA:Nat:=203
abbrev iA:Nat:=204
abbrev kL:Nat:=205
abbrev fR:Nat:=206
abbrev bU:Nat:=209
abbrev bN:Nat:=210
abbrev bF:Nat:=211
abbrev lE:Nat:=215
abbrev cO:Nat:=217
abbrev gH:Nat:=219
abbrev aV:Nat:=220
abbrev uU:Nat:=221
abbrev bQ:Nat:=222
abbrev eF:Nat:=226
abbrev eE:Nat:=227
abbrev fC:Nat:=228
abbrev bB:Nat:=229
abbrev dQ:Nat:=230
abbrev fH:Nat:=231
abbrev gM:Nat:=232
abbrev kX:Nat:=233
abbrev kY:Nat:=234
abbrev qI:Nat:=235
abbrev aS:Nat:=236
abbrev jQ:Nat:=237
abbrev lF:Nat:=238
abbrev cN:Nat:=239
abbrev jG:Nat:=240
abbrev lB:Nat:=242
abbrev lA:Nat:=243
theorem aI:Pg.follows .mixedOrders=true:=by kernel_rfl
noncomputable def nS:AFun:=⟨3,131,[.t 6],
 (sO [oB 6 false] (.seq (sO [oM 16 0,oL 17 16,oV 18 .gtr 17 .i64 100,oM 19 18,oG 20 (.mv (.t 2)) 19 false,oG 21 (.lens (.t 20)) 19 false,
 oG 22 (.bin .gtr (.t 21) (.c (.int .i64 300))) 19 false,oO 23 (.pick (.t 19) (.c (.bool true)) (.t 22)),oM 24 23,oG 25 (.mv (.t 1)) 24 false,
 oG 26 (.bin .gtr (.t 25) (.c (.int .i64 8))) 24 false,oO 27 (.pick (.t 24) (.c (.bool true)) (.t 26))] (.cond (.t 27) (sO [oB 6 true] .ret) .skip)) (sO [oM 28 0,
 oQ 29 gZ [28],oM 7 29] (sO [oM 31 7,oQ 32 iU [31],oM 30 32,oE 33 30 0,oE 34 30 1,oO 8 (.alloc 1 4 [.int .u64 0]),oT 1 4 4 8 33,oM 9 34] (sO [oM 36 7,
 oM 37 1,oQ 38 fE [36,37],oM 35 38,oE 39 35 0,oE 40 35 1,oM 10 39,oM 11 40] (sO [oM 42 7,oM 43 2,oQ 44 eJ [42,43],oM 41 44,oE 45 41 0,oE 46 41 1,
 ⟨some 12,.alloc 22 1 [.int .i64 0,.bool false,.int .u64 0,.int .u64 0,.int .u64 0,.int .u64 0,.int .u64 0,.int .u64 0,.int .u64 0,.int .u64 0,.str ⟨#[]⟩,.nils,.nils,.int .i64 0,.int .u64 0,.int .u64 0,.int .u64 0,.int .u64 0,.int .u64 0,.int .u64 0,.int .u64 0,.int .u64 0],none⟩,
 oS 22 12 45,oM 13 46] (sO [oM 48 7,oQ 49 jW [48],oM 47 49,oE 50 47 0,oE 51 47 1,
 ⟨some 14,.alloc 22 1 [.int .i64 0,.bool false,.int .u64 0,.int .u64 0,.int .u64 0,.int .u64 0,.int .u64 0,.int .u64 0,.int .u64 0,.int .u64 0,.str ⟨#[]⟩,.nils,.nils,.int .i64 0,.int .u64 0,.int .u64 0,.int .u64 0,.int .u64 0,.int .u64 0,.int .u64 0,.int .u64 0,.int .u64 0],none⟩,
 oS 22 14 50,oM 15 51] (.seq (.seq (.draw [oM 52 7,oM 53 0,oQ 54 gK [52,53],oU 55 54,oM 56 55,oG 57 (.mv (.t 9)) 56 false,
 oG 58 (.bin .neq (.t 57) (.c (.int .i64 0))) 56 false,oO 59 (.pick (.t 56) (.c (.bool true)) (.t 58)),oM 60 59,oG 61 (.mv (.t 15)) 60 false,
 oG 62 (.bin .neq (.t 61) (.c (.int .i64 0))) 60 false,oO 63 (.pick (.t 60) (.c (.bool true)) (.t 62)),oM 64 63,oG 65 (.load 4 true (.t 8)) 64 false,oG 66 (.mv (.t 0)) 64 false,
 oG 67 (.call (.c (.fn dC [])) [.t 66]) 64 false,oG 68 (.eqa [.i,.i,.i,.i] true (.t 65) (.t 67)) 64 false,oO 69 (.pick (.t 64) (.c (.bool true)) (.t 68)),
 oM 70 69,oG 71 (.load 22 true (.t 14)) 70 false,oG 72 (.mv (.t 0)) 70 false,oG 73 (.call (.c (.fn fB [])) [.t 72]) 70 false,
 oG 74 (.call (.c (.fn eH [])) [.t 71,.t 73]) 70 false,oG 75 (.un .not (.t 74)) 70 false,
 oO 76 (.pick (.t 70) (.c (.bool true)) (.t 75))] ⟨.all,[],.look 0 (.look 1 (.run 2 true (.look 3 (.look 4 (.look 5 (.look 6 (.look 7 (.look 8 (.look 9 (.look 10 (.look 11 (.look 12 (.look 13 (.look 14 (.run 15 true (.look 16 (.look 17 (.look 18 (.look 19 (.look 20 (.run 21 true (.run 22 true (.look 23 (.look 24 .done))))))))))))))))))))))))⟩)
 (.cond (.t 76) (sO [oB 6 false] .ret) .skip)) (.seq (sO [oM 77 1,oV 78 .lss 77 .i64 0] (.cond (.t 78) (sO [oM 79 11,oV 80 .neq 79 .i64 1,oM 81 80,oG 82 (.mv (.t 10)) 81 false,
 oG 83 (.len (.t 82)) 81 false,oG 84 (.bin .gtr (.t 83) (.c (.int .i64 0))) 81 false,oO 85 (.pick (.t 81) (.c (.bool true)) (.t 84))] (.cond (.t 85) (sO [oB 6 false] .ret) .skip))
 (sO [oM 86 11,oV 87 .neq 86 .i64 0,oM 88 87,oG 89 (.mv (.t 10)) 88 false,oG 90 (.mv (.t 0)) 88 false,oG 91 (.mv (.t 1)) 88 false,
 oG 92 (.call (.c (.fn eD [])) [.t 90,.t 91]) 88 false,oG 93 (.call (.c (.fn hU [])) [.t 89,.t 92]) 88 false,oG 94 (.un .not (.t 93)) 88 false,
 oO 95 (.pick (.t 88) (.c (.bool true)) (.t 94))] (.cond (.t 95) (sO [oB 6 false] .ret) .skip)))) (.seq (sO [oM 96 2,oQ 97 fO [96],oU 98 97] (.cond (.t 98) (sO [
 oM 99 13,oV 100 .eql 99 .i64 8,oM 101 100,oG 102 (.load 22 true (.t 12)) 101 true,
 ⟨some 103,.build [.int .i64 0,.bool false,.int .u64 0,.int .u64 0,.int .u64 0,.int .u64 0,.int .u64 0,.int .u64 0,.int .u64 0,.int .u64 0,.str ⟨#[]⟩,.nils,.nils,.int .i64 0,.int .u64 0,.int .u64 0,.int .u64 0,.int .u64 0,.int .u64 0,.int .u64 0,.int .u64 0,.int .u64 0] [],(some (101,true))⟩,
 oG 104 (.call (.c (.fn eH [])) [.t 102,.t 103]) 101 true,oO 105 (.pick (.t 101) (.t 104) (.c (.bool false))),oM 106 105,
 oG 107 (.call (.c (.fn dX [])) []) 106 true,oO 108 (.pick (.t 106) (.t 107) (.c (.bool false))),oM 6 108] .ret) .skip)) (.seq (.draw [oM 109 13,
 oV 110 .eql 109 .i64 0,oM 111 110,oG 112 (.load 22 true (.t 12)) 111 true,oG 113 (.mv (.t 0)) 111 true,oG 114 (.mv (.t 2)) 111 true,
 oG 115 (.call (.c (.fn dU [])) [.t 113,.t 114]) 111 true,oG 116 (.call (.c (.fn eH [])) [.t 112,.t 115]) 111 true,
 oO 117 (.pick (.t 111) (.t 116) (.c (.bool false))),oM 118 117,oG 119 (.load 22 true (.t 12)) 118 true,oG 120 (.call (.c (.fn kN [])) [.t 119]) 118 true,
 oG 121 (.bin .eql (.t 120) (.c (.int .i64 0))) 118 true,oO 122 (.pick (.t 118) (.t 121) (.c (.bool false))),oM 123 122,oG 124 (.load 22 true (.t 14)) 123 true,
 oG 125 (.call (.c (.fn kN [])) [.t 124]) 123 true,oG 126 (.bin .eql (.t 125) (.c (.int .i64 0))) 123 true,oO 127 (.pick (.t 123) (.t 126) (.c (.bool false))),
 oM 128 127,oG 129 (.call (.c (.fn dX [])) []) 128 true,oO 130 (.pick (.t 128) (.t 129) (.c (.bool false))),
 oM 6 130] ⟨.all,[],.look 0 (.look 1 (.look 2 (.look 3 (.look 4 (.look 5 (.run 6 true (.run 7 true (.look 8 (.look 9 (.look 10 (.run 11 true (.look 12 (.look 13 (.look 14 (.look 15 (.run 16 true (.look 17 (.look 18 (.look 19 (.run 20 true (.look 21 (.look 22 .done))))))))))))))))))))))⟩)
 .ret)))))))))))⟩
theorem nO:BT nS fL:=fun h=>aB aI Tryz.func8 (by kernel_rfl) (by kernel_rfl) h
noncomputable def yM:AFun:=⟨1,7,[.t 2],
 (sO [oO 2 (.mv (.c (.nils)))] (sO [oO 3 (.mv (.c (.nils)))] (sO [oM 4 3,oM 5 0,oO 6 (.app 1 1 (.t 4) (.t 5)),oM 2 6] .ret)))⟩
theorem xR:BT yM gZ:=fun h=>aB aI Tryz.func12 (by kernel_rfl) (by kernel_rfl) h
noncomputable def wF:AFun:=⟨2,26,[.t 4],
 (sO [oB 4 false] (.seq (sO [oM 6 0,oL 7 6,oM 8 1,oL 9 8,oW 10 .neq 7 9] (.cond (.t 10) (sO [oB 4 false] .ret) .skip)) (.seq (sO [oI 5 0] (.block 0 (.loop (.seq (sO [oM 11 5,
 oM 12 0,oL 13 12,oW 14 .lss 11 13] (.cond (.t 14) .skip (.exit 0))) (.seq (.block 1 (.seq (.draw [oM 17 0,oM 18 5,oX 19 1 17 18,oD 20 1 false 19,oM 21 1,oM 22 5,oX 23 1 21 22,
 oD 24 1 false 23,oW 25 .neq 20 24] ⟨.no,[],.flat⟩) (.cond (.t 25) (sO [oB 4 false] .ret) .skip))) (.ops [oM 15 5,oV 16 .add 15 .i64 1,oM 5 16])))))) (sO [oB 4 true] .ret))))⟩
theorem vL:BT wF gK:=fun h=>aB aI Tryz.func15 (by kernel_rfl) (by kernel_rfl) h
noncomputable def A_witankeep_Act:AFun:=⟨2,52,[.t 4],
 (sO [oO 2 (.box 22 1 (.t 0)),oO 3 (.box 22 1 (.t 1)),oB 4 false] (sO [oF 5 0 2,oD 6 1 false 5,oF 7 0 3,oD 8 1 false 7,oW 9 .eql 6 8,oM 10 9,oG 11 (.fldA 1 (.t 2)) 10 true,
 oG 12 (.load 9 true (.t 11)) 10 true,oG 13 (.fldA 1 (.t 3)) 10 true,oG 14 (.load 9 true (.t 13)) 10 true,oG 15 (.call (.c (.fn cM [])) [.t 12,.t 14]) 10 true,
 oO 16 (.pick (.t 10) (.t 15) (.c (.bool false))),oM 17 16,oG 18 (.fldA 10 (.t 2)) 17 true,oG 19 (.load 1 false (.t 18)) 17 true,oG 20 (.fldA 10 (.t 3)) 17 true,
 oG 21 (.load 1 false (.t 20)) 17 true,oG 22 (.bin .eql (.t 19) (.t 21)) 17 true,oO 23 (.pick (.t 17) (.t 22) (.c (.bool false))),oM 24 23,oG 25 (.fldA 11 (.t 2)) 24 true,
 oG 26 (.load 1 false (.t 25)) 24 true,oG 27 (.fldA 11 (.t 3)) 24 true,oG 28 (.load 1 false (.t 27)) 24 true,oG 29 (.call (.c (.fn gI [])) [.t 26,.t 28]) 24 true,
 oO 30 (.pick (.t 24) (.t 29) (.c (.bool false))),oM 31 30,oG 32 (.fldA 12 (.t 2)) 31 true,oG 33 (.load 1 false (.t 32)) 31 true,oG 34 (.fldA 12 (.t 3)) 31 true,
 oG 35 (.load 1 false (.t 34)) 31 true,oG 36 (.call (.c (.fn fS [])) [.t 33,.t 35]) 31 true,oO 37 (.pick (.t 31) (.t 36) (.c (.bool false))),oM 38 37,
 oG 39 (.fldA 13 (.t 2)) 38 true,oG 40 (.load 1 false (.t 39)) 38 true,oG 41 (.fldA 13 (.t 3)) 38 true,oG 42 (.load 1 false (.t 41)) 38 true,
 oG 43 (.bin .eql (.t 40) (.t 42)) 38 true,oO 44 (.pick (.t 38) (.t 43) (.c (.bool false))),oM 45 44,oG 46 (.fldA 14 (.t 2)) 45 true,oG 47 (.load 8 true (.t 46)) 45 true,
 oG 48 (.fldA 14 (.t 3)) 45 true,oG 49 (.load 8 true (.t 48)) 45 true,oG 50 (.call (.c (.fn gJ [])) [.t 47,.t 49]) 45 true,
 oO 51 (.pick (.t 45) (.t 50) (.c (.bool false))),oM 4 51] .ret))⟩
theorem B_witankeep_Act:BT A_witankeep_Act eH:=fun h=>aB aI Tryz.func16 (by kernel_rfl) (by kernel_rfl) h
noncomputable def rP:AFun:=⟨1,13,[.cell 2 4 true],
 (sO [oO 2 (.alloc 1 4 [.int .u64 0])] (sO [oM 6 0,oO 7 (.bsl 1 1 [.nils] [(0,1,.t 6)]),
 ⟨some 8,.call (.c (.fn bW [])) [.c (.str ⟨#[115,101,99,114,101,116]⟩),.t 7],none⟩,oM 5 8,oE 9 5 0,oE 10 5 1,oO 3 (.alloc 1 4 [.int .u64 0]),
 oT 1 4 4 3 9,oM 4 10] (sO [oD 11 4 true 3,oQ 12 dP [11],oT 1 4 4 2 12] .ret)))⟩
theorem rG:BT rP dC:=fun h=>aB aI Tryz.func31 (by kernel_rfl) (by kernel_rfl) h
noncomputable def uA:AFun:=⟨2,9,[.cell 4 9 true],
 (sO [oO 2 (.box 1 4 (.t 0)),oO 3 (.box 9 1 (.t 1)),
 oO 4 (.alloc 9 1 [.bool false,.int .u64 0,.int .u64 0,.int .u64 0,.int .u64 0,.int .u64 0,.int .u64 0,.int .u64 0,.int .u64 0])] (sO [oD 5 4 true 2,oD 6 9 true 3,
 oQ 7 fQ [5,6],oQ 8 gE [7],oT 9 1 9 4 8] .ret))⟩
theorem tH:BT uA bJ:=fun h=>aB aI Tryz.func32 (by kernel_rfl) (by kernel_rfl) h
noncomputable def tR:AFun:=⟨3,28,[.cell 6 8 true],
 (sO [oO 3 (.box 1 4 (.t 0)),oO 4 (.box 1 4 (.t 1)),oO 5 (.box 9 1 (.t 2)),
 oO 6 (.alloc 8 1 [.int .u64 0,.int .u64 0,.int .u64 0,.int .u64 0,.int .u64 0,.int .u64 0,.int .u64 0,.int .u64 0])] (.seq (.draw [oD 8 4 true 3,
 oQ 9 cL [8],oD 10 9 true 5,oD 11 4 true 3,oD 12 9 true 5,oQ 13 bJ [11,12],oD 14 4 true 4,oQ 15 cL [14],oD 16 4 true 4,
 oD 17 9 true 5,oQ 18 bJ [16,17],
 oO 19 (.bsl 9 5 [.bool false,.int .u64 0,.int .u64 0,.int .u64 0,.int .u64 0,.int .u64 0,.int .u64 0,.int .u64 0,.int .u64 0] [(0,9,.t 9),(9,9,.t 10),(18,9,.t 13),(27,9,.t 15),(36,9,.t 18)]),
 oQ 20 dH [19],oO 7 (.alloc 1 4 [.int .u64 0]),
 oS 4 7 20] ⟨.all,[(13,some 14)],.look 0 (.look 2 (.look 3 (.look 4 (.look 6 (.look 8 (.look 9 (.run 1 true (.run 5 true (.run 7 true (.run 10 true (.run 11 true (.run 12 true (.pre 13 14 (.fill .done))))))))))))))⟩)
 (.seq (.draw [oD 21 4 true 7,oD 22 4 true 4,oD 23 4 true 7,oD 24 4 true 3,oQ 25 gW [23,24],oQ 26 gV [22,25],
 oO 27 (.build [.int .u64 0,.int .u64 0,.int .u64 0,.int .u64 0,.int .u64 0,.int .u64 0,.int .u64 0,.int .u64 0] [(0,4,.t 21),(4,4,.t 26)]),
 oT 8 1 8 6 27] ⟨.all,[],.look 0 (.look 1 (.look 2 (.look 3 (.run 4 true (.run 5 true (.look 6 (.run 7 false .done)))))))⟩) .ret)))⟩
theorem tC:BT tR dV:=fun h=>aB aI Tryz.func33 (by kernel_rfl) (by kernel_rfl) h
noncomputable def yL:AFun:=⟨2,28,[.cell 4 4 true,.t 5],
 (sO [oO 2 (.box 1 4 (.t 0)),oO 3 (.box 1 4 (.t 1)),oO 4 (.alloc 1 4 [.int .u64 0]),oO 5 (.mv (.c (.int .u64 0)))] (sO [oO 6 (.mv (.c (.int .u64 0)))] (sO [
 oO 7 (.alloc 1 4 [.int .u64 0])] (.seq (sO [oI 8 0] (.block 0 (.loop (.seq (sO [oM 9 8,oV 10 .lss 9 .i64 4] (.cond (.t 10) .skip (.exit 0))) (.seq (.block 1 (.draw [oM 14 8,
 oM 15 8,oO 16 (.idxP 4 1 (.t 2) (.t 15)),oD 17 1 false 16,oM 18 8,oO 19 (.idxP 4 1 (.t 3) (.t 18)),oD 20 1 false 19,oM 21 6,
 oO 22 (.x64 false iH (.t 17) (.t 20) (.t 21)),oM 13 22,oE 23 13 0,oE 24 13 1,oO 25 (.idxP 4 1 (.t 7) (.t 14)),oT 1 4 1 25 23,
 oM 6 24] ⟨.all,[],.look 0 (.look 1 (.look 2 (.look 3 (.look 4 (.look 5 (.look 6 (.look 7 (.run 8 true (.look 9 (.look 10 (.look 11 (.look 12 (.run 13 false (.look 14 .done))))))))))))))⟩))
 (.ops [oM 11 8,oO 12 (.binF .add (.t 11) (.c (.int .i64 1))),oM 8 12])))))) (sO [oD 26 4 true 7,oM 27 6,oT 1 4 4 4 26,oM 5 27] .ret)))))⟩
theorem xQ:BT yL cE:=fun h=>aB aI Tryz.func34 (by kernel_rfl) (by kernel_rfl) h
noncomputable def uB:AFun:=⟨1,20,[.cell 2 4 true],
 (sO [oO 2 (.alloc 1 4 [.int .u64 0])] (sO [oO 6 (.build [.int .u64 0,.int .u64 0,.int .u64 0,.int .u64 0] []),oM 7 0,oQ 8 bZ [7],oQ 9 bM [6,8],
 oM 5 9,oE 10 5 0,oE 11 5 1,oO 3 (.alloc 1 4 [.int .u64 0]),oT 1 4 4 3 10,oM 4 11] (.seq (sO [oM 12 0,oV 13 .neq 12 .i64 0,oM 14 13,oG 15 (.mv (.t 0)) 14 true,
 oG 16 (.bin .neq (.t 15) (.c (.int .i64 1))) 14 true,oO 17 (.pick (.t 14) (.t 16) (.c (.bool false)))] (.cond (.t 17) (sO [
 oO 18 (.build [.int .u64 0,.int .u64 0,.int .u64 0,.int .u64 0] []),oT 1 4 4 2 18] .ret) .skip)) (sO [oD 19 4 true 3,oT 1 4 4 2 19] .ret))))⟩
theorem lH:BT uB bD:=fun h=>aB aI Tryz.func35 (by kernel_rfl) (by kernel_rfl) h
noncomputable def A_deal_Secret:AFun:=⟨1,21,[.cell 2 4 true,.t 3],
 (sO [oO 2 (.alloc 1 4 [.int .u64 0]),oI 3 0] (.seq (sO [oM 6 0,oQ 7 kM [6]] (.cond (.t 7) (sO [oO 8 (.build [.int .u64 0,.int .u64 0,.int .u64 0,.int .u64 0] []),
 oT 1 4 4 2 8,oI 3 4] .ret) .skip)) (sO [oM 10 0,oO 11 (.bsl 1 1 [.nils] [(0,1,.t 10)]),
 ⟨some 12,.call (.c (.fn gN [])) [.c (.str ⟨#[115,101,99,114,101,116]⟩),.t 11],none⟩,oM 9 12,oE 13 9 0,oE 14 9 1,oO 4 (.alloc 1 4 [.int .u64 0]),oT 1 4 4 4 13,
 oM 5 14] (.seq (sO [oM 15 5,oV 16 .neq 15 .i64 0] (.cond (.t 16) (sO [oO 17 (.build [.int .u64 0,.int .u64 0,.int .u64 0,.int .u64 0] []),oM 18 5,oT 1 4 4 2 17,oM 3 18] .ret)
 .skip)) (sO [oD 19 4 true 4,oQ 20 jI [19],oT 1 4 4 2 20,oI 3 0] .ret)))))⟩
theorem B_deal_Secret:BT A_deal_Secret iU:=fun h=>aB aI Tryz.func37 (by kernel_rfl) (by kernel_rfl) h
noncomputable def A_deal_Poly:AFun:=⟨2,44,[.t 4,.t 5],
 (sO [oO 4 (.mv (.c (.nils))),oI 5 0] (.seq (.block 0 (sO [oM 11 0,oQ 12 kM [11],oM 10 12] (.cond (.t 10) (sO [oO 4 (.mv (.c (.nils))),oI 5 4] .ret) (sO [oM 14 1,
 oV 15 .lss 14 .i64 0,oM 16 15,oG 17 (.mv (.t 1)) 16 false,oG 18 (.bin .geq (.t 17) (.c (.int .i64 64))) 16 false,oO 19 (.pick (.t 16) (.c (.bool true)) (.t 18)),oM 13 19]
 (.cond (.t 13) (sO [oO 4 (.mv (.c (.nils))),oI 5 1] .ret) .skip))))) (sO [oO 6 (.mv (.c (.nils)))] (.seq (sO [oM 20 1,oV 21 .add 20 .i64 1,oI 22 0] (.block 1 (.loop (sO [
 oW 23 .lss 22 21] (.seq (.cond (.t 23) .skip (.exit 1)) (.seq (.block 2 (sO [oM 24 22,oM 7 24] (sO [oM 26 0,oM 27 7,
 ⟨some 28,.call (.c (.fn iT [])) [.c (.str ⟨#[112,111,108,121]⟩),.t 26,.t 27],none⟩,oM 25 28,oE 29 25 0,oE 30 25 1,oO 8 (.alloc 1 4 [.int .u64 0]),
 oT 1 4 4 8 29,oM 9 30] (.seq (sO [oM 31 9,oV 32 .neq 31 .i64 0] (.cond (.t 32) (sO [oM 33 9,oO 4 (.mv (.c (.nils))),oM 5 33] .ret) .skip)) (.seq (sO [oM 34 7,
 oV 35 .eql 34 .i64 0] (.cond (.t 35) (.ops [oD 36 4 true 8,oQ 37 jI [36],oT 1 4 4 8 37]) .skip)) (.ops [oM 38 6,oD 39 4 true 8,
 oO 40 (.bsl 4 1 [.int .u64 0,.int .u64 0,.int .u64 0,.int .u64 0] [(0,4,.t 39)]),oO 41 (.app 4 32 (.t 38) (.t 40)),oM 6 41])))))) (.ops [oV 42 .add 22 .i64 1,
 oM 22 42]))))))) (sO [oM 43 6,oM 4 43,oI 5 0] .ret)))))⟩
theorem rL:BT A_deal_Poly fE:=fun h=>aB aI Tryz.func38 (by kernel_rfl) (by kernel_rfl) h
noncomputable def A_deal_Register:AFun:=⟨2,27,[.cell 4 22 true,.t 5],
 (sO [
 ⟨some 4,.alloc 22 1 [.int .i64 0,.bool false,.int .u64 0,.int .u64 0,.int .u64 0,.int .u64 0,.int .u64 0,.int .u64 0,.int .u64 0,.int .u64 0,.str ⟨#[]⟩,.nils,.nils,.int .i64 0,.int .u64 0,.int .u64 0,.int .u64 0,.int .u64 0,.int .u64 0,.int .u64 0,.int .u64 0,.int .u64 0],none⟩,
 oI 5 0] (sO [oM 9 0,oQ 10 iU [9],oM 8 10,oE 11 8 0,oE 12 8 1,oO 6 (.alloc 1 4 [.int .u64 0]),oT 1 4 4 6 11,oM 7 12] (.seq (.block 0 (sO [oM 14 7,oV 15 .neq 14 .i64 0,
 oM 13 15] (.cond (.t 13) (sO [
 ⟨some 16,.build [.int .i64 0,.bool false,.int .u64 0,.int .u64 0,.int .u64 0,.int .u64 0,.int .u64 0,.int .u64 0,.int .u64 0,.int .u64 0,.str ⟨#[]⟩,.nils,.nils,.int .i64 0,.int .u64 0,.int .u64 0,.int .u64 0,.int .u64 0,.int .u64 0,.int .u64 0,.int .u64 0,.int .u64 0] [],none⟩,
 oM 17 7,oS 22 4 16,oM 5 17] .ret) (sO [oM 19 1,oQ 20 nA [19],oV 21 .neq 20 .i64 0,oM 18 21] (.cond (.t 18) (sO [
 ⟨some 22,.build [.int .i64 0,.bool false,.int .u64 0,.int .u64 0,.int .u64 0,.int .u64 0,.int .u64 0,.int .u64 0,.int .u64 0,.int .u64 0,.str ⟨#[]⟩,.nils,.nils,.int .i64 0,.int .u64 0,.int .u64 0,.int .u64 0,.int .u64 0,.int .u64 0,.int .u64 0,.int .u64 0,.int .u64 0] [],none⟩,
 oS 22 4 22,oI 5 8] .ret) .skip))))) (sO [oD 23 4 true 6,oQ 24 fZ [23],oM 25 1,
 ⟨some 26,.build [.int .i64 0,.bool false,.int .u64 0,.int .u64 0,.int .u64 0,.int .u64 0,.int .u64 0,.int .u64 0,.int .u64 0,.int .u64 0,.str ⟨#[]⟩,.nils,.nils,.int .i64 0,.int .u64 0,.int .u64 0,.int .u64 0,.int .u64 0,.int .u64 0,.int .u64 0,.int .u64 0,.int .u64 0] [(0,1,.c (.int .i64 1)),(1,9,.t 24),(10,1,.t 25)],none⟩,
 oS 22 4 26,oI 5 0] .ret))))⟩
theorem B_deal_Register:BT A_deal_Register eJ:=fun h=>aB aI Tryz.func39 (by kernel_rfl) (by kernel_rfl) h
noncomputable def A_deal_Submit:AFun:=⟨1,57,[.cell 2 22 true,.t 3],
 (sO [
 ⟨some 2,.alloc 22 1 [.int .i64 0,.bool false,.int .u64 0,.int .u64 0,.int .u64 0,.int .u64 0,.int .u64 0,.int .u64 0,.int .u64 0,.int .u64 0,.str ⟨#[]⟩,.nils,.nils,.int .i64 0,.int .u64 0,.int .u64 0,.int .u64 0,.int .u64 0,.int .u64 0,.int .u64 0,.int .u64 0,.int .u64 0],none⟩,
 oI 3 0] (sO [oM 11 0,oK 12 fE [.t 11,.c (.int .i64 0)],oM 10 12,oE 13 10 0,oE 14 10 1,oM 4 13,oM 5 14] (.seq (sO [oM 15 5,oV 16 .neq 15 .i64 0] (.cond (.t 16) (sO [
 ⟨some 17,.build [.int .i64 0,.bool false,.int .u64 0,.int .u64 0,.int .u64 0,.int .u64 0,.int .u64 0,.int .u64 0,.int .u64 0,.int .u64 0,.str ⟨#[]⟩,.nils,.nils,.int .i64 0,.int .u64 0,.int .u64 0,.int .u64 0,.int .u64 0,.int .u64 0,.int .u64 0,.int .u64 0,.int .u64 0] [],none⟩,
 oM 18 5,oS 22 2 17,oM 3 18] .ret) .skip)) (sO [oM 20 0,⟨some 21,.call (.c (.fn iT [])) [.c (.str ⟨#[110,111,110,99,101]⟩),.t 20,.c (.int .i64 0)],none⟩,
 oM 19 21,oE 22 19 0,oE 23 19 1,oO 6 (.alloc 1 4 [.int .u64 0]),oT 1 4 4 6 22,oM 5 23] (.seq (sO [oM 24 5,oV 25 .neq 24 .i64 0] (.cond (.t 25) (sO [
 ⟨some 26,.build [.int .i64 0,.bool false,.int .u64 0,.int .u64 0,.int .u64 0,.int .u64 0,.int .u64 0,.int .u64 0,.int .u64 0,.int .u64 0,.str ⟨#[]⟩,.nils,.nils,.int .i64 0,.int .u64 0,.int .u64 0,.int .u64 0,.int .u64 0,.int .u64 0,.int .u64 0,.int .u64 0,.int .u64 0] [],none⟩,
 oM 27 5,oS 22 2 26,oM 3 27] .ret) .skip)) (sO [oK 28 iX [],
 oO 7 (.alloc 9 1 [.bool false,.int .u64 0,.int .u64 0,.int .u64 0,.int .u64 0,.int .u64 0,.int .u64 0,.int .u64 0,.int .u64 0]),oT 9 1 9 7 28] (.seq (.draw [oM 30 4,
 oO 31 (.idxA 4 (.t 30) (.c (.int .i64 0))),oD 32 4 true 31,oD 33 9 true 7,oQ 34 dY [32,33],oM 29 34,oE 35 29 0,oE 36 29 1,
 oO 8 (.alloc 9 1 [.bool false,.int .u64 0,.int .u64 0,.int .u64 0,.int .u64 0,.int .u64 0,.int .u64 0,.int .u64 0,.int .u64 0]),oS 9 8 35,
 oM 5 36] ⟨.all,[(8,some 9)],.look 0 (.look 1 (.look 2 (.look 3 (.run 4 true (.look 5 (.look 6 (.pre 8 9 (.look 7 (.fill (.look 10 .done))))))))))⟩) (.seq (sO [oM 37 5,
 oV 38 .neq 37 .i64 0] (.cond (.t 38) (sO [
 ⟨some 39,.build [.int .i64 0,.bool false,.int .u64 0,.int .u64 0,.int .u64 0,.int .u64 0,.int .u64 0,.int .u64 0,.int .u64 0,.int .u64 0,.str ⟨#[]⟩,.nils,.nils,.int .i64 0,.int .u64 0,.int .u64 0,.int .u64 0,.int .u64 0,.int .u64 0,.int .u64 0,.int .u64 0,.int .u64 0] [],none⟩,
 oM 40 5,oS 22 2 39,oM 3 40] .ret) .skip)) (.seq (.draw [oM 42 4,oO 43 (.idxA 4 (.t 42) (.c (.int .i64 0))),oD 44 4 true 43,oD 45 4 true 6,oD 46 9 true 7,
 oQ 47 jP [44,45,46],oM 41 47,oE 48 41 0,oE 49 41 1,
 oO 9 (.alloc 8 1 [.int .u64 0,.int .u64 0,.int .u64 0,.int .u64 0,.int .u64 0,.int .u64 0,.int .u64 0,.int .u64 0]),oS 8 9 48,
 oM 5 49] ⟨.all,[(9,some 10)],.look 0 (.look 1 (.look 2 (.look 3 (.look 4 (.run 5 true (.look 6 (.look 7 (.pre 9 10 (.look 8 (.fill (.look 11 .done)))))))))))⟩) (.seq (sO [
 oM 50 5,oV 51 .neq 50 .i64 0] (.cond (.t 51) (sO [
 ⟨some 52,.build [.int .i64 0,.bool false,.int .u64 0,.int .u64 0,.int .u64 0,.int .u64 0,.int .u64 0,.int .u64 0,.int .u64 0,.int .u64 0,.str ⟨#[]⟩,.nils,.nils,.int .i64 0,.int .u64 0,.int .u64 0,.int .u64 0,.int .u64 0,.int .u64 0,.int .u64 0,.int .u64 0,.int .u64 0] [],none⟩,
 oM 53 5,oS 22 2 52,oM 3 53] .ret) .skip)) (sO [oD 54 9 true 8,oD 55 8 true 9,
 ⟨some 56,.build [.int .i64 0,.bool false,.int .u64 0,.int .u64 0,.int .u64 0,.int .u64 0,.int .u64 0,.int .u64 0,.int .u64 0,.int .u64 0,.str ⟨#[]⟩,.nils,.nils,.int .i64 0,.int .u64 0,.int .u64 0,.int .u64 0,.int .u64 0,.int .u64 0,.int .u64 0,.int .u64 0,.int .u64 0] [(0,1,.c (.int .i64 4)),(1,9,.t 54),(14,8,.t 55)],none⟩,
 oS 22 2 56,oI 3 0] .ret)))))))))))⟩
theorem B_deal_Submit:BT A_deal_Submit jW:=fun h=>aB aI Tryz.func40 (by kernel_rfl) (by kernel_rfl) h
noncomputable def rO:AFun:=⟨1,19,[.cell 2 22 true],
 (sO [
 ⟨some 2,.alloc 22 1 [.int .i64 0,.bool false,.int .u64 0,.int .u64 0,.int .u64 0,.int .u64 0,.int .u64 0,.int .u64 0,.int .u64 0,.int .u64 0,.str ⟨#[]⟩,.nils,.nils,.int .i64 0,.int .u64 0,.int .u64 0,.int .u64 0,.int .u64 0,.int .u64 0,.int .u64 0,.int .u64 0,.int .u64 0],none⟩]
 (.seq (.draw [oM 5 0,oK 6 eD [.t 5,.c (.int .i64 0)],oO 7 (.idxA 4 (.t 6) (.c (.int .i64 0))),oD 8 4 true 7,oK 9 gC [],
 oO 3 (.alloc 1 4 [.int .u64 0]),oO 4 (.alloc 9 1 [.bool false,.int .u64 0,.int .u64 0,.int .u64 0,.int .u64 0,.int .u64 0,.int .u64 0,.int .u64 0,.int .u64 0]),oS 4 3 8,
 oS 9 4 9] ⟨.all,[(5,some 7),(6,some 8)],.look 0 (.run 1 true (.two true 2 (.two true 3 (.pre 5 7 (.run 4 true (.pre 6 8 (.fill .done)))) 4 (.pre 6 8 (.run 3 true (.pre 5 7 (.fill .done))))) 4 (.pre 6 8 (.run 2 true (.run 3 true (.pre 5 7 (.fill .done)))))))⟩)
 (.seq (.draw [oD 10 4 true 3,oD 11 9 true 4,oQ 12 bJ [10,11],oD 13 4 true 3,oM 14 0,oK 15 fM [.t 14,.c (.int .i64 0)],oD 16 9 true 4,
 oQ 17 dV [13,15,16],
 ⟨some 18,.build [.int .i64 0,.bool false,.int .u64 0,.int .u64 0,.int .u64 0,.int .u64 0,.int .u64 0,.int .u64 0,.int .u64 0,.int .u64 0,.str ⟨#[]⟩,.nils,.nils,.int .i64 0,.int .u64 0,.int .u64 0,.int .u64 0,.int .u64 0,.int .u64 0,.int .u64 0,.int .u64 0,.int .u64 0] [(0,1,.c (.int .i64 4)),(1,9,.t 12),(14,8,.t 17)],none⟩,
 oS 22 2 18] ⟨.all,[],.look 0 (.look 1 (.look 3 (.look 4 (.look 6 (.run 2 true (.run 5 true (.run 7 true (.look 8 (.run 9 false .done)))))))))⟩) .ret)))⟩
theorem rF:BT rO fB:=fun h=>aB aI Tryz.func41 (by kernel_rfl) (by kernel_rfl) h
noncomputable def yO:AFun:=⟨2,26,[.t 4],
 (sO [oB 4 false] (.seq (sO [oM 6 0,oL 7 6,oM 8 1,oL 9 8,oW 10 .neq 7 9] (.cond (.t 10) (sO [oB 4 false] .ret) .skip)) (.seq (sO [oI 5 0] (.block 0 (.loop (.seq (sO [oM 11 5,
 oM 12 0,oL 13 12,oW 14 .lss 11 13] (.cond (.t 14) .skip (.exit 0))) (.seq (.block 1 (.seq (.draw [oM 17 0,oM 18 5,oX 19 4 17 18,oD 20 4 true 19,oM 21 1,oM 22 5,oX 23 4 21 22,
 oD 24 4 true 23,oO 25 (.eqa [.i,.i,.i,.i] true (.t 20) (.t 24))] ⟨.no,[],.flat⟩) (.cond (.t 25) (sO [oB 4 false] .ret) .skip))) (.ops [oM 15 5,oV 16 .add 15 .i64 1,
 oM 5 16])))))) (sO [oB 4 true] .ret))))⟩
theorem xS:BT yO hU:=fun h=>aB aI Tryz.func42 (by kernel_rfl) (by kernel_rfl) h
noncomputable def vP:AFun:=⟨2,31,[.t 4],
 (sO [oO 4 (.mv (.c (.nils)))] (sO [oO 5 (.mv (.c (.nils)))] (.seq (sO [oI 6 0] (.block 0 (.loop (.seq (sO [oM 9 6,oM 10 1,oW 11 .leq 9 10] (.cond (.t 11) .skip (.exit 0)))
 (.seq (.block 1 (sO [oM 15 0,oM 16 6,oQ 17 fG [16],oO 18 (.bsl 1 2 [.nils] [(0,1,.t 15),(1,1,.t 17)]),
 ⟨some 19,.call (.c (.fn bW [])) [.c (.str ⟨#[112,111,108,121]⟩),.t 18],none⟩,oM 14 19,oE 20 14 0,oE 21 14 1,oO 7 (.alloc 1 4 [.int .u64 0]),oT 1 4 4 7 20,
 oM 8 21] (.seq (sO [oM 22 6,oV 23 .eql 22 .i64 0] (.cond (.t 23) (.ops [oD 24 4 true 7,oQ 25 dP [24],oT 1 4 4 7 25]) .skip)) (.ops [oM 26 5,oD 27 4 true 7,
 oO 28 (.bsl 4 1 [.int .u64 0,.int .u64 0,.int .u64 0,.int .u64 0] [(0,4,.t 27)]),oO 29 (.app 4 32 (.t 26) (.t 28)),oM 5 29])))) (.ops [oM 12 6,oV 13 .add 12 .i64 1,
 oM 6 13])))))) (sO [oM 30 5,oM 4 30] .ret))))⟩
theorem uW:BT vP eD:=fun h=>aB aI Tryz.func43 (by kernel_rfl) (by kernel_rfl) h
noncomputable def tQ:AFun:=⟨1,58,[.t 2],
 (sO [oB 2 false] (sO [oI 3 0] (.seq (sO [oI 4 0] (.block 0 (.loop (.seq (sO [oM 7 4,oM 8 0,oO 9 (.lens (.t 8)),oW 10 .lss 7 9] (.cond (.t 10) .skip (.exit 0))) (.block 1 (sO [
 oM 12 0,oM 13 4,oO 14 (.sslice (.t 12) (some (.t 13)) none),oQ 15 fN [14],oM 11 15,oE 16 11 0,oE 17 11 1,oM 5 16,oM 6 17] (.seq (sO [oM 18 6,
 oV 19 .eql 18 .i64 0,oM 20 19,oG 21 (.mv (.t 5)) 20 false,oG 22 (.bin .lss (.t 21) (.c (.int .i64 32))) 20 false,oO 23 (.pick (.t 20) (.c (.bool true)) (.t 22)),oM 24 23,
 oG 25 (.mv (.t 5)) 24 false,oG 26 (.bin .geq (.t 25) (.c (.int .i64 127))) 24 false,oG 27 (.mv (.t 26)) 24 false,oG 28 (.mv (.t 5)) 27 true,
 oG 29 (.bin .lss (.t 28) (.c (.int .i64 160))) 27 true,oG 30 (.pick (.t 27) (.t 29) (.c (.bool false))) 24 false,oO 31 (.pick (.t 24) (.c (.bool true)) (.t 30)),oM 32 31,
 oG 33 (.mv (.t 5)) 32 false,oG 34 (.bin .eql (.t 33) (.c (.int .i64 65533))) 32 false,oO 35 (.pick (.t 32) (.c (.bool true)) (.t 34))] (.cond (.t 35) (sO [oB 2 false] .ret)
 .skip)) (sO [oM 36 4,oM 37 6,oW 38 .add 36 37,oM 4 38] (sO [oM 39 3,oV 40 .add 39 .i64 1,oM 3 40] (sO [oM 41 3,oV 42 .gtr 41 .i64 24] (.cond (.t 42) (sO [oB 2 false] .ret)
 .skip))))))))))) (sO [oM 43 3,oV 44 .gtr 43 .i64 0,oM 45 44,oG 46 (.mv (.t 0)) 45 true,oG 47 (.idxs (.t 46) (.c (.int .i64 0))) 45 true,
 oG 48 (.bin .neq (.t 47) (.c (.int .u8 32))) 45 true,oO 49 (.pick (.t 45) (.t 48) (.c (.bool false))),oM 50 49,oG 51 (.mv (.t 0)) 50 true,oG 52 (.mv (.t 0)) 50 true,
 oG 53 (.lens (.t 52)) 50 true,oG 54 (.bin .sub (.t 53) (.c (.int .i64 1))) 50 true,oG 55 (.idxs (.t 51) (.t 54)) 50 true,oG 56 (.bin .neq (.t 55) (.c (.int .u8 32))) 50 true,
 oO 57 (.pick (.t 50) (.t 56) (.c (.bool false))),oM 2 57] .ret))))⟩
theorem tB:BT tQ fO:=fun h=>aB aI Tryz.func44 (by kernel_rfl) (by kernel_rfl) h
noncomputable def uD:AFun:=⟨0,37,[.t 0],
 (sO [oB 0 false] (sO [oO 6 (.bsl 1 1 [.int .u8 0] [(0,1,.c (.int .u8 1))]),⟨some 7,.call (.c (.fn eJ [])) [.t 6,.c (.str ⟨#[32,120]⟩)],none⟩,oM 5 7,oE 8 5 0,
 oE 9 5 1,
 ⟨some 1,.alloc 22 1 [.int .i64 0,.bool false,.int .u64 0,.int .u64 0,.int .u64 0,.int .u64 0,.int .u64 0,.int .u64 0,.int .u64 0,.int .u64 0,.str ⟨#[]⟩,.nils,.nils,.int .i64 0,.int .u64 0,.int .u64 0,.int .u64 0,.int .u64 0,.int .u64 0,.int .u64 0,.int .u64 0,.int .u64 0],none⟩,
 oS 22 1 8,oM 2 9] (sO [oO 11 (.bsl 1 1 [.int .u8 0] [(0,1,.c (.int .u8 1))]),⟨some 12,.call (.c (.fn eJ [])) [.t 11,.c (.str ⟨#[120]⟩)],none⟩,oM 10 12,
 oE 13 10 0,oE 14 10 1,
 ⟨some 3,.alloc 22 1 [.int .i64 0,.bool false,.int .u64 0,.int .u64 0,.int .u64 0,.int .u64 0,.int .u64 0,.int .u64 0,.int .u64 0,.int .u64 0,.str ⟨#[]⟩,.nils,.nils,.int .i64 0,.int .u64 0,.int .u64 0,.int .u64 0,.int .u64 0,.int .u64 0,.int .u64 0,.int .u64 0,.int .u64 0],none⟩,
 oS 22 3 13,oM 4 14] (sO [oM 15 2,oV 16 .eql 15 .i64 8,oM 17 16,oG 18 (.mv (.t 4)) 17 true,oG 19 (.bin .eql (.t 18) (.c (.int .i64 0))) 17 true,
 oO 20 (.pick (.t 17) (.t 19) (.c (.bool false))),oM 21 20,oG 22 (.fldA 0 (.t 3)) 21 true,oG 23 (.load 1 false (.t 22)) 21 true,
 oG 24 (.bin .eql (.t 23) (.c (.int .i64 1))) 21 true,oO 25 (.pick (.t 21) (.t 24) (.c (.bool false))),oM 26 25,oG 27 (.fldA 10 (.t 3)) 26 true,
 oG 28 (.load 1 false (.t 27)) 26 true,⟨some 29,.bin .eql (.t 28) (.c (.str ⟨#[120]⟩)),(some (26,true))⟩,oO 30 (.pick (.t 26) (.t 29) (.c (.bool false))),oM 31 30,
 oG 32 (.fldA 1 (.t 3)) 31 true,oG 33 (.fldA 0 (.t 32)) 31 true,oG 34 (.load 1 false (.t 33)) 31 true,oG 35 (.un .not (.t 34)) 31 true,
 oO 36 (.pick (.t 31) (.t 35) (.c (.bool false))),oM 0 36] .ret))))⟩
theorem tJ:BT uD dX:=fun h=>aB aI Tryz.func45 (by kernel_rfl) (by kernel_rfl) h
noncomputable def pX:AFun:=⟨2,10,[.cell 4 22 true],
 (sO [
 ⟨some 4,.alloc 22 1 [.int .i64 0,.bool false,.int .u64 0,.int .u64 0,.int .u64 0,.int .u64 0,.int .u64 0,.int .u64 0,.int .u64 0,.int .u64 0,.str ⟨#[]⟩,.nils,.nils,.int .i64 0,.int .u64 0,.int .u64 0,.int .u64 0,.int .u64 0,.int .u64 0,.int .u64 0,.int .u64 0,.int .u64 0],none⟩]
 (sO [oM 5 0,oQ 6 dC [5],oQ 7 cL [6],oM 8 1,
 ⟨some 9,.build [.int .i64 0,.bool false,.int .u64 0,.int .u64 0,.int .u64 0,.int .u64 0,.int .u64 0,.int .u64 0,.int .u64 0,.int .u64 0,.str ⟨#[]⟩,.nils,.nils,.int .i64 0,.int .u64 0,.int .u64 0,.int .u64 0,.int .u64 0,.int .u64 0,.int .u64 0,.int .u64 0,.int .u64 0] [(0,1,.c (.int .i64 1)),(1,9,.t 7),(10,1,.t 8)],none⟩,
 oS 22 4 9] .ret))⟩
theorem pT:BT pX dU:=fun h=>aB aI Tryz.func46 (by kernel_rfl) (by kernel_rfl) h
noncomputable def A_act_Check:AFun:=⟨1,35,[.t 2],
 (sO [oO 1 (.box 22 1 (.t 0)),oI 2 0] (sO [oD 4 22 true 1,oQ 5 uV [4],oM 3 5] (.seq (.block 0 (sO [oM 7 3,oO 8 (.eqnI false (.t 7)),oM 6 8] (.cond (.t 6) (sO [oI 2 19]
 .ret) (sO [oD 10 22 true 1,oQ 11 fF [10],oU 12 11,oM 9 12] (.cond (.t 9) (sO [oI 2 1] .ret) .skip))))) (.seq (sO [oF 13 0 1,oD 14 1 false 13] (.block 1 (sO [
 oV 16 .eql 14 .i64 1,oM 15 16] (.cond (.t 15) (sO [oM 17 3,
 ⟨some 18,.tas (.t 17) 165 false (.agg [.bool false,.int .u64 0,.int .u64 0,.int .u64 0,.int .u64 0,.int .u64 0,.int .u64 0,.int .u64 0,.int .u64 0,.str ⟨#[]⟩]),none⟩,
 oQ 19 dJ [18],oM 2 19] .ret) (sO [oV 21 .eql 14 .i64 2,oM 20 21] (.cond (.t 20) (sO [oM 22 3,oO 23 (.tas (.t 22) 168 false (.agg [.nils,.nils])),
 oQ 24 dZ [23],oM 2 24] .ret) (sO [oV 26 .eql 14 .i64 3,oM 25 26] (.cond (.t 25) (sO [oM 27 3,
 oO 28 (.tas (.t 27) 170 false (.agg [.int .i64 0,.bool false,.int .u64 0,.int .u64 0,.int .u64 0,.int .u64 0,.int .u64 0,.int .u64 0,.int .u64 0,.int .u64 0,.int .u64 0,.int .u64 0,.int .u64 0,.int .u64 0,.int .u64 0,.int .u64 0,.int .u64 0,.int .u64 0])),
 oQ 29 eA [28],oM 2 29] .ret) (sO [oV 31 .eql 14 .i64 4,oM 30 31] (.cond (.t 30) (sO [oM 32 3,
 oO 33 (.tas (.t 32) 172 false (.agg [.bool false,.int .u64 0,.int .u64 0,.int .u64 0,.int .u64 0,.int .u64 0,.int .u64 0,.int .u64 0,.int .u64 0,.int .u64 0,.int .u64 0,.int .u64 0,.int .u64 0,.int .u64 0,.int .u64 0,.int .u64 0,.int .u64 0])),
 oQ 34 cQ [33],oM 2 34] .ret) .skip)))))))))) (sO [oI 2 0] .ret)))))⟩
theorem B_act_Check:BT A_act_Check kN:=fun h=>aB aI Tryz.func47 (by kernel_rfl) (by kernel_rfl) h
noncomputable def yJ:AFun:=⟨2,18,[.t 4],
 (sO [oO 2 (.box 1 4 (.t 0)),oO 3 (.box 1 4 (.t 1)),oI 4 0] (.seq (sO [oD 7 4 true 2,oD 8 4 true 3,oO 9 (.eqa [.i,.i,.i,.i] false (.t 7) (.t 8))] (.cond (.t 9) (sO [oI 4 0]
 .ret) .skip)) (.seq (sO [oD 11 4 true 2,oD 12 4 true 3,oQ 13 bM [11,12],oM 10 13,oE 14 10 0,oE 15 10 1,oO 5 (.alloc 1 4 [.int .u64 0]),oT 1 4 4 5 14,oM 6 15] (sO [
 oM 16 6,oV 17 .eql 16 .u64 1] (.cond (.t 17) (sO [oI 4 (-1)] .ret) .skip))) (sO [oI 4 1] .ret))))⟩
theorem xO:BT yJ fJ:=fun h=>aB aI Tryz.func49 (by kernel_rfl) (by kernel_rfl) h
noncomputable def A_field_Prime:AFun:=⟨1,22,[.cell 2 4 true],
 (sO [oO 2 (.alloc 1 4 [.int .u64 0])] (sO [oM 8 0,oQ 9 cF [8],oM 7 9,oE 10 7 0,oE 11 7 1,oO 3 (.alloc 1 4 [.int .u64 0]),oT 1 4 4 3 10,oM 4 11] (.seq (sO [oM 12 4,
 oU 13 12] (.cond (.t 13) (sO [oO 14 (.build [.int .u64 0,.int .u64 0,.int .u64 0,.int .u64 0] []),oT 1 4 4 2 14] .ret) .skip)) (sO [
 oO 16 (.build [.int .u64 0,.int .u64 0,.int .u64 0,.int .u64 0] []),oD 17 4 true 3,oQ 18 dR [16,17],oM 15 18,oE 19 15 0,oE 20 15 1,oO 5 (.alloc 1 4 [.int .u64 0]),
 oT 1 4 4 5 19,oM 6 20] (sO [oD 21 4 true 5,oT 1 4 4 2 21] .ret)))))⟩
theorem tL:BT A_field_Prime bV:=fun h=>aB aI Tryz.func50 (by kernel_rfl) (by kernel_rfl) h
noncomputable def A_field_Red:AFun:=⟨2,19,[.cell 4 4 true],
 (sO [oO 3 (.box 1 4 (.t 1)),oO 4 (.alloc 1 4 [.int .u64 0])] (sO [oM 8 0,oQ 9 cF [8],oM 7 9,oE 10 7 0,oE 11 7 1,oO 5 (.alloc 1 4 [.int .u64 0]),oT 1 4 4 5 10,oM 6 11]
 (.seq (sO [oM 12 6,oU 13 12] (.cond (.t 13) (sO [oO 14 (.build [.int .u64 0,.int .u64 0,.int .u64 0,.int .u64 0] []),oT 1 4 4 4 14] .ret) .skip)) (sO [oD 15 4 true 3,
 oO 16 (.build [.int .u64 0,.int .u64 0,.int .u64 0,.int .u64 0] []),oD 17 4 true 5,oQ 18 fX [15,16,17],oT 1 4 4 4 18] .ret))))⟩
theorem B_field_Red:BT A_field_Red fY:=fun h=>aB aI Tryz.func51 (by kernel_rfl) (by kernel_rfl) h
noncomputable def A_curve_Times:AFun:=⟨2,18,[.cell 4 9 true,.t 5],
 (sO [oO 2 (.box 1 4 (.t 0)),oO 3 (.box 9 1 (.t 1)),
 oO 4 (.alloc 9 1 [.bool false,.int .u64 0,.int .u64 0,.int .u64 0,.int .u64 0,.int .u64 0,.int .u64 0,.int .u64 0,.int .u64 0]),oI 5 0] (sO [oD 7 9 true 3,
 oQ 8 cP [7],oM 6 8] (.seq (sO [oM 9 6,oV 10 .neq 9 .i64 0] (.cond (.t 10) (sO [
 oO 11 (.build [.bool false,.int .u64 0,.int .u64 0,.int .u64 0,.int .u64 0,.int .u64 0,.int .u64 0,.int .u64 0,.int .u64 0] []),oM 12 6,oT 9 1 9 4 11,oM 5 12] .ret)
 .skip)) (.seq (.draw [oD 13 9 true 3,oQ 14 gT [13],oD 15 4 true 2,oQ 16 eL [14,15],oQ 17 eM [16],oT 9 1 9 4 17,
 oI 5 0] ⟨.all,[],.look 0 (.look 2 (.run 1 true (.run 3 false (.run 4 false (.run 5 false (.look 6 .done))))))⟩) .ret))))⟩
theorem B_curve_Times:BT A_curve_Times dY:=fun h=>aB aI Tryz.func53 (by kernel_rfl) (by kernel_rfl) h
noncomputable def wE:AFun:=⟨2,24,[.t 4],
 (sO [oO 2 (.box 9 1 (.t 0)),oO 3 (.box 9 1 (.t 1)),oB 4 false] (sO [oF 5 0 2,oD 6 1 false 5,oF 7 0 3,oD 8 1 false 7,oO 9 (.eqb false (.t 6) (.t 8)),oM 10 9,
 oG 11 (.fldA 1 (.t 2)) 10 true,oG 12 (.load 4 true (.t 11)) 10 true,oG 13 (.fldA 1 (.t 3)) 10 true,oG 14 (.load 4 true (.t 13)) 10 true,
 oG 15 (.eqa [.i,.i,.i,.i] false (.t 12) (.t 14)) 10 true,oO 16 (.pick (.t 10) (.t 15) (.c (.bool false))),oM 17 16,oG 18 (.fldA 5 (.t 2)) 17 true,
 oG 19 (.load 4 true (.t 18)) 17 true,oG 20 (.fldA 5 (.t 3)) 17 true,oG 21 (.load 4 true (.t 20)) 17 true,oG 22 (.eqa [.i,.i,.i,.i] false (.t 19) (.t 21)) 17 true,
 oO 23 (.pick (.t 17) (.t 22) (.c (.bool false))),oM 4 23] .ret))⟩
theorem vK:BT wE cM:=fun h=>aB aI Tryz.func54 (by kernel_rfl) (by kernel_rfl) h
noncomputable def A_curve_Base:AFun:=⟨1,8,[.cell 2 9 true],
 (sO [oO 1 (.box 1 4 (.t 0)),oO 2 (.alloc 9 1 [.bool false,.int .u64 0,.int .u64 0,.int .u64 0,.int .u64 0,.int .u64 0,.int .u64 0,.int .u64 0,.int .u64 0])]
 (.seq (.draw [oK 3 lD [],oQ 4 gT [3],oD 5 4 true 1,oQ 6 eL [4,5],oQ 7 eM [6],
 oT 9 1 9 2 7] ⟨.all,[],.look 2 (.run 0 true (.run 1 true (.run 3 false (.run 4 false (.run 5 false .done)))))⟩) .ret))⟩
theorem B_curve_Base:BT A_curve_Base fZ:=fun h=>aB aI Tryz.func61 (by kernel_rfl) (by kernel_rfl) h
noncomputable def A_act_whole:AFun:=⟨1,58,[.cell 2 22 true],
 (sO [
 ⟨some 2,.alloc 22 1 [.int .i64 0,.bool false,.int .u64 0,.int .u64 0,.int .u64 0,.int .u64 0,.int .u64 0,.int .u64 0,.int .u64 0,.int .u64 0,.str ⟨#[]⟩,.nils,.nils,.int .i64 0,.int .u64 0,.int .u64 0,.int .u64 0,.int .u64 0,.int .u64 0,.int .u64 0,.int .u64 0,.int .u64 0],none⟩]
 (.seq (sO [oM 12 0,
 ⟨some 13,.tas (.t 12) 165 true (.agg [.bool false,.int .u64 0,.int .u64 0,.int .u64 0,.int .u64 0,.int .u64 0,.int .u64 0,.int .u64 0,.int .u64 0,.str ⟨#[]⟩]),none⟩,
 oM 11 13,oE 14 11 0,oE 15 11 1,
 ⟨some 3,.alloc 10 1 [.bool false,.int .u64 0,.int .u64 0,.int .u64 0,.int .u64 0,.int .u64 0,.int .u64 0,.int .u64 0,.int .u64 0,.str ⟨#[]⟩],none⟩,oT 10 1 10 3 14,
 oM 4 15] (sO [oM 16 4] (.cond (.t 16) (sO [oF 17 0 3,oD 18 9 true 17,oF 19 9 3,oD 20 1 false 19,
 ⟨some 21,.build [.int .i64 0,.bool false,.int .u64 0,.int .u64 0,.int .u64 0,.int .u64 0,.int .u64 0,.int .u64 0,.int .u64 0,.int .u64 0,.str ⟨#[]⟩,.nils,.nils,.int .i64 0,.int .u64 0,.int .u64 0,.int .u64 0,.int .u64 0,.int .u64 0,.int .u64 0,.int .u64 0,.int .u64 0] [(0,1,.c (.int .i64 1)),(1,9,.t 18),(10,1,.t 20)],none⟩,
 oS 22 2 21] .ret) .skip))) (.seq (sO [oM 23 0,oO 24 (.tas (.t 23) 168 true (.agg [.nils,.nils])),oM 22 24,oE 25 22 0,oE 26 22 1,oO 5 (.alloc 2 1 [.nils,.nils]),oT 2 1 2 5 25,
 oM 6 26] (sO [oM 27 6] (.cond (.t 27) (sO [oF 28 0 5,oD 29 1 false 28,oF 30 1 5,oD 31 1 false 30,
 ⟨some 32,.build [.int .i64 0,.bool false,.int .u64 0,.int .u64 0,.int .u64 0,.int .u64 0,.int .u64 0,.int .u64 0,.int .u64 0,.int .u64 0,.str ⟨#[]⟩,.nils,.nils,.int .i64 0,.int .u64 0,.int .u64 0,.int .u64 0,.int .u64 0,.int .u64 0,.int .u64 0,.int .u64 0,.int .u64 0] [(0,1,.c (.int .i64 2)),(11,1,.t 29),(12,1,.t 31)],none⟩,
 oS 22 2 32] .ret) .skip))) (.seq (sO [oM 34 0,
 oO 35 (.tas (.t 34) 170 true (.agg [.int .i64 0,.bool false,.int .u64 0,.int .u64 0,.int .u64 0,.int .u64 0,.int .u64 0,.int .u64 0,.int .u64 0,.int .u64 0,.int .u64 0,.int .u64 0,.int .u64 0,.int .u64 0,.int .u64 0,.int .u64 0,.int .u64 0,.int .u64 0])),
 oM 33 35,oE 36 33 0,oE 37 33 1,
 oO 7 (.alloc 18 1 [.int .i64 0,.bool false,.int .u64 0,.int .u64 0,.int .u64 0,.int .u64 0,.int .u64 0,.int .u64 0,.int .u64 0,.int .u64 0,.int .u64 0,.int .u64 0,.int .u64 0,.int .u64 0,.int .u64 0,.int .u64 0,.int .u64 0,.int .u64 0]),
 oS 18 7 36,oM 8 37] (sO [oM 38 8] (.cond (.t 38) (sO [oF 39 0 7,oD 40 1 false 39,oF 41 1 7,oD 42 9 true 41,oF 43 10 7,oD 44 8 true 43,
 ⟨some 45,.build [.int .i64 0,.bool false,.int .u64 0,.int .u64 0,.int .u64 0,.int .u64 0,.int .u64 0,.int .u64 0,.int .u64 0,.int .u64 0,.str ⟨#[]⟩,.nils,.nils,.int .i64 0,.int .u64 0,.int .u64 0,.int .u64 0,.int .u64 0,.int .u64 0,.int .u64 0,.int .u64 0,.int .u64 0] [(0,1,.c (.int .i64 3)),(13,1,.t 40),(1,9,.t 42),(14,8,.t 44)],none⟩,
 oS 22 2 45] .ret) .skip))) (.seq (sO [oM 47 0,
 oO 48 (.tas (.t 47) 172 true (.agg [.bool false,.int .u64 0,.int .u64 0,.int .u64 0,.int .u64 0,.int .u64 0,.int .u64 0,.int .u64 0,.int .u64 0,.int .u64 0,.int .u64 0,.int .u64 0,.int .u64 0,.int .u64 0,.int .u64 0,.int .u64 0,.int .u64 0])),
 oM 46 48,oE 49 46 0,oE 50 46 1,
 oO 9 (.alloc 17 1 [.bool false,.int .u64 0,.int .u64 0,.int .u64 0,.int .u64 0,.int .u64 0,.int .u64 0,.int .u64 0,.int .u64 0,.int .u64 0,.int .u64 0,.int .u64 0,.int .u64 0,.int .u64 0,.int .u64 0,.int .u64 0,.int .u64 0]),
 oS 17 9 49,oM 10 50] (sO [oM 51 10] (.cond (.t 51) (sO [oF 52 0 9,oD 53 9 true 52,oF 54 9 9,oD 55 8 true 54,
 ⟨some 56,.build [.int .i64 0,.bool false,.int .u64 0,.int .u64 0,.int .u64 0,.int .u64 0,.int .u64 0,.int .u64 0,.int .u64 0,.int .u64 0,.str ⟨#[]⟩,.nils,.nils,.int .i64 0,.int .u64 0,.int .u64 0,.int .u64 0,.int .u64 0,.int .u64 0,.int .u64 0,.int .u64 0,.int .u64 0] [(0,1,.c (.int .i64 4)),(1,9,.t 53),(14,8,.t 55)],none⟩,
 oS 22 2 56] .ret) .skip))) (sO [
 ⟨some 57,.build [.int .i64 0,.bool false,.int .u64 0,.int .u64 0,.int .u64 0,.int .u64 0,.int .u64 0,.int .u64 0,.int .u64 0,.int .u64 0,.str ⟨#[]⟩,.nils,.nils,.int .i64 0,.int .u64 0,.int .u64 0,.int .u64 0,.int .u64 0,.int .u64 0,.int .u64 0,.int .u64 0,.int .u64 0] [(0,1,.c (.int .i64 5))],none⟩,
 oS 22 2 57] .ret))))))⟩
theorem kO:BT A_act_whole F_act_whole:=fun h=>aB aI Tryz.func67 (by kernel_rfl) (by kernel_rfl) h
noncomputable def wC:AFun:=⟨2,26,[.t 4],
 (sO [oB 4 false] (.seq (sO [oM 6 0,oL 7 6,oM 8 1,oL 9 8,oW 10 .neq 7 9] (.cond (.t 10) (sO [oB 4 false] .ret) .skip)) (.seq (sO [oI 5 0] (.block 0 (.loop (.seq (sO [oM 11 5,
 oM 12 0,oL 13 12,oW 14 .lss 11 13] (.cond (.t 14) .skip (.exit 0))) (.seq (.block 1 (.seq (.draw [oM 17 0,oM 18 5,oX 19 32 17 18,oD 20 32 true 19,oM 21 1,oM 22 5,oX 23 32 21 22,
 oD 24 32 true 23,oO 25 (.eqa (List.replicate 32 (.i)) true (.t 20) (.t 24))] ⟨.no,[],.flat⟩) (.cond (.t 25) (sO [oB 4 false] .ret) .skip))) (.ops [oM 15 5,
 oV 16 .add 15 .i64 1,oM 5 16])))))) (sO [oB 4 true] .ret))))⟩
theorem vI:BT wC gI:=fun h=>aB aI Tryz.func72 (by kernel_rfl) (by kernel_rfl) h
noncomputable def uE:AFun:=⟨2,27,[.t 4],
 (sO [oB 4 false] (.seq (sO [oM 6 0,oL 7 6,oM 8 1,oL 9 8,oW 10 .neq 7 9] (.cond (.t 10) (sO [oB 4 false] .ret) .skip)) (.seq (sO [oI 5 0] (.block 0 (.loop (.seq (sO [oM 11 5,
 oM 12 0,oL 13 12,oW 14 .lss 11 13] (.cond (.t 14) .skip (.exit 0))) (.seq (.block 1 (.seq (.draw [oM 17 0,oM 18 5,oX 19 9 17 18,oD 20 9 true 19,oM 21 1,oM 22 5,oX 23 9 21 22,
 oD 24 9 true 23,oQ 25 cM [20,24],
 oU 26 25] ⟨.all,[],.look 0 (.look 1 (.look 2 (.look 3 (.look 4 (.look 5 (.look 6 (.look 7 (.run 8 true (.look 9 .done)))))))))⟩) (.cond (.t 26) (sO [oB 4 false] .ret) .skip)))
 (.ops [oM 15 5,oV 16 .add 15 .i64 1,oM 5 16])))))) (sO [oB 4 true] .ret))))⟩
theorem tK:BT uE fS:=fun h=>aB aI Tryz.func73 (by kernel_rfl) (by kernel_rfl) h
noncomputable def wD:AFun:=⟨2,17,[.t 4],
 (sO [oO 2 (.box 8 1 (.t 0)),oO 3 (.box 8 1 (.t 1)),oB 4 false] (sO [oF 5 0 2,oD 6 4 true 5,oF 7 0 3,oD 8 4 true 7,oO 9 (.eqa [.i,.i,.i,.i] false (.t 6) (.t 8)),oM 10 9,
 oG 11 (.fldA 4 (.t 2)) 10 true,oG 12 (.load 4 true (.t 11)) 10 true,oG 13 (.fldA 4 (.t 3)) 10 true,oG 14 (.load 4 true (.t 13)) 10 true,
 oG 15 (.eqa [.i,.i,.i,.i] false (.t 12) (.t 14)) 10 true,oO 16 (.pick (.t 10) (.t 15) (.c (.bool false))),oM 4 16] .ret))⟩
theorem vJ:BT wD gJ:=fun h=>aB aI Tryz.func74 (by kernel_rfl) (by kernel_rfl) h
noncomputable def A_curve_Check:AFun:=⟨1,33,[.t 2],
 (sO [oO 1 (.box 9 1 (.t 0)),oI 2 0] (.seq (sO [oF 4 0 1,oD 5 1 false 4] (.cond (.t 5) (.seq (sO [oD 6 9 true 1,
 oO 7 (.build [.bool false,.int .u64 0,.int .u64 0,.int .u64 0,.int .u64 0,.int .u64 0,.int .u64 0,.int .u64 0,.int .u64 0] [(0,1,.c (.bool true))]),
 oO 8 (.eqa [.b,.i,.i,.i,.i,.i,.i,.i,.i] true (.t 6) (.t 7))] (.cond (.t 8) (sO [oI 2 3] .ret) .skip)) (sO [oI 2 0] .ret)) .skip)) (sO [
 oK 9 bV [.c (.int .i64 0)],oO 3 (.alloc 1 4 [.int .u64 0]),oT 1 4 4 3 9] (.seq (.seq (.draw [oF 10 1 1,oD 11 4 true 10,oD 12 4 true 3,oQ 13 eI [11,12],
 oV 14 .geq 13 .i64 0,oM 15 14,oG 16 (.fldA 5 (.t 1)) 15 false,oG 17 (.load 4 true (.t 16)) 15 false,oG 18 (.load 4 true (.t 3)) 15 false,
 oG 19 (.call (.c (.fn eI [])) [.t 17,.t 18]) 15 false,oG 20 (.bin .geq (.t 19) (.c (.int .i64 0))) 15 false,oO 21 (.pick (.t 15) (.c (.bool true)) (.t 20)),oM 22 21,
 oG 23 (.fldA 5 (.t 1)) 22 false,oG 24 (.load 4 true (.t 23)) 22 false,oG 25 (.fldA 5 (.t 1)) 22 false,oG 26 (.load 4 true (.t 25)) 22 false,
 oG 27 (.call (.c (.fn aP [])) [.t 24,.t 26]) 22 false,oG 28 (.fldA 1 (.t 1)) 22 false,oG 29 (.load 4 true (.t 28)) 22 false,
 oG 30 (.call (.c (.fn iV [])) [.t 29]) 22 false,oG 31 (.eqa [.i,.i,.i,.i] true (.t 27) (.t 30)) 22 false,
 oO 32 (.pick (.t 22) (.c (.bool true)) (.t 31))] ⟨.all,[],.look 0 (.look 1 (.look 2 (.run 3 true (.look 4 (.look 5 (.look 6 (.look 7 (.look 8 (.run 9 true (.look 10 (.look 11 (.look 12 (.look 13 (.look 14 (.look 15 (.look 16 (.look 18 (.look 19 (.run 17 true (.run 20 true (.look 21 (.look 22 .done))))))))))))))))))))))⟩)
 (.cond (.t 32) (sO [oI 2 3] .ret) .skip)) (sO [oI 2 0] .ret)))))⟩
theorem B_curve_Check:BT A_curve_Check cP:=fun h=>aB aI Tryz.func82 (by kernel_rfl) (by kernel_rfl) h
noncomputable def A_limb_Cmp:AFun:=⟨2,26,[.t 4],
 (sO [oO 2 (.box 1 4 (.t 0)),oO 3 (.box 1 4 (.t 1)),oI 4 0] (.seq (sO [oI 5 3] (.block 0 (.loop (.seq (sO [oM 6 5,oV 7 .geq 6 .i64 0] (.cond (.t 7) .skip (.exit 0)))
 (.seq (.block 1 (.block 2 (.seq (.draw [oM 11 5,oO 12 (.idxP 4 1 (.t 2) (.t 11)),oD 13 1 false 12,oM 14 5,oO 15 (.idxP 4 1 (.t 3) (.t 14)),oD 16 1 false 15,oW 17 .lss 13 16,
 oM 10 17] ⟨.no,[],.flat⟩) (.cond (.t 10) (sO [oI 4 (-1)] .ret) (.seq (.draw [oM 19 5,oO 20 (.idxP 4 1 (.t 2) (.t 19)),oD 21 1 false 20,oM 22 5,
 oO 23 (.idxP 4 1 (.t 3) (.t 22)),oD 24 1 false 23,oW 25 .gtr 21 24,oM 18 25] ⟨.no,[],.flat⟩) (.cond (.t 18) (sO [oI 4 1] .ret) .skip)))))) (.ops [oM 8 5,oV 9 .sub 8 .i64 1,
 oM 5 9])))))) (sO [oI 4 0] .ret)))⟩
theorem B_limb_Cmp:BT A_limb_Cmp eI:=fun h=>aB aI Tryz.func84 (by kernel_rfl) (by kernel_rfl) h
noncomputable def wB:AFun:=⟨1,6,[.cell 2 9 true],
 (sO [oO 1 (.box 1 4 (.t 0)),oO 2 (.alloc 9 1 [.bool false,.int .u64 0,.int .u64 0,.int .u64 0,.int .u64 0,.int .u64 0,.int .u64 0,.int .u64 0,.int .u64 0])]
 (.seq (.draw [oD 3 4 true 1,oK 4 jM [],oQ 5 bJ [3,4],oT 9 1 9 2 5] ⟨.all,[],.look 0 (.run 1 true (.run 2 false (.run 3 false .done)))⟩) .ret))⟩
theorem vH:BT wB cL:=fun h=>aB aI Tryz.func92 (by kernel_rfl) (by kernel_rfl) h
noncomputable def rS:AFun:=⟨2,34,[.cell 4 4 true,.t 5],
 (sO [oO 4 (.alloc 1 4 [.int .u64 0]),oB 5 false] (sO [oM 11 0,oM 12 1,oQ 13 dD [11,12],oM 10 13,oE 14 10 0,oE 15 10 1,oM 6 14,oM 7 15] (.seq (sO [oM 16 7,
 oU 17 16] (.cond (.t 17) (sO [oO 18 (.build [.int .u64 0,.int .u64 0,.int .u64 0,.int .u64 0] []),oS 4 4 18,oB 5 false] .ret) .skip)) (sO [oM 19 6,
 oO 20 (.bsl 1 1 [.int .u8 0] [(0,1,.c (.int .u8 0))]),oO 21 (.bsl 1 2 [.nils] [(0,1,.t 19),(1,1,.t 20)]),oQ 22 bX [21],oQ 23 cI [22],
 oO 8 (.alloc 1 32 [.int .u8 0]),oS 32 8 23] (sO [oM 24 6,oO 25 (.bsl 1 1 [.int .u8 0] [(0,1,.c (.int .u8 1))]),oO 26 (.bsl 1 2 [.nils] [(0,1,.t 24),(1,1,.t 25)]),
 oQ 27 bX [26],oQ 28 cI [27],oO 9 (.alloc 1 32 [.int .u8 0]),oS 32 9 28] (.seq (.draw [oD 29 32 true 8,oQ 30 eG [29],oD 31 32 true 9,
 oQ 32 eG [31],oK 33 gF [.c (.int .i64 1),.t 30,.t 32],oS 4 4 33,
 oB 5 true] ⟨.all,[],.look 0 (.look 2 (.run 1 true (.run 3 false (.run 4 false (.run 5 false (.look 6 .done))))))⟩) .ret))))))⟩
theorem rJ:BT rS bW:=fun h=>aB aI Tryz.func93 (by kernel_rfl) (by kernel_rfl) h
noncomputable def xV:AFun:=⟨1,8,[.cell 2 4 true],
 (sO [oO 1 (.box 1 4 (.t 0)),oO 2 (.alloc 1 4 [.int .u64 0])] (.seq (sO [oD 3 4 true 1,oO 4 (.build [.int .u64 0,.int .u64 0,.int .u64 0,.int .u64 0] []),
 oO 5 (.eqa [.i,.i,.i,.i] false (.t 3) (.t 4))] (.cond (.t 5) (sO [oO 6 (.build [.int .u64 0,.int .u64 0,.int .u64 0,.int .u64 0] [(0,1,.c (.int .u64 1))]),oT 1 4 4 2 6]
 .ret) .skip)) (sO [oD 7 4 true 1,oT 1 4 4 2 7] .ret)))⟩
theorem xA:BT xV dP:=fun h=>aB aI Tryz.func94 (by kernel_rfl) (by kernel_rfl) h
noncomputable def vV:AFun:=⟨1,27,[.cell 2 9 true],
 (sO [oO 1 (.box 12 1 (.t 0)),oO 2 (.alloc 9 1 [.bool false,.int .u64 0,.int .u64 0,.int .u64 0,.int .u64 0,.int .u64 0,.int .u64 0,.int .u64 0,.int .u64 0])] (.seq (sO [
 oF 5 8 1,oD 6 4 true 5,oO 7 (.build [.int .u64 0,.int .u64 0,.int .u64 0,.int .u64 0] []),oO 8 (.eqa [.i,.i,.i,.i] false (.t 6) (.t 7))] (.cond (.t 8) (sO [
 oK 9 cD [],oT 9 1 9 2 9] .ret) .skip)) (sO [oF 10 8 1,oD 11 4 true 10,oK 12 fI [.c (.int .i64 0),.t 11],oO 3 (.alloc 1 4 [.int .u64 0]),
 oT 1 4 4 3 12] (sO [oD 13 4 true 3,oD 14 4 true 3,oQ 15 aG [13,14],oO 4 (.alloc 1 4 [.int .u64 0]),oT 1 4 4 4 15] (.seq (.draw [oF 16 0 1,oD 17 4 true 16,
 oD 18 4 true 4,oQ 19 aG [17,18],oF 20 4 1,oD 21 4 true 20,oD 22 4 true 4,oD 23 4 true 3,oQ 24 aG [22,23],oQ 25 aG [21,24],
 oO 26 (.build [.bool false,.int .u64 0,.int .u64 0,.int .u64 0,.int .u64 0,.int .u64 0,.int .u64 0,.int .u64 0,.int .u64 0] [(1,4,.t 19),(5,4,.t 25)]),
 oT 9 1 9 2 26] ⟨.all,[],.look 0 (.look 1 (.look 2 (.look 4 (.look 5 (.look 6 (.look 7 (.run 3 true (.run 8 true (.run 9 true (.look 10 (.run 11 false .done)))))))))))⟩)
 .ret)))))⟩
theorem vE:BT vV gE:=fun h=>aB aI Tryz.func95 (by kernel_rfl) (by kernel_rfl) h
noncomputable def tV:AFun:=⟨2,24,[.cell 4 12 true],
 (sO [oO 2 (.box 1 4 (.t 0)),oO 3 (.box 9 1 (.t 1)),oO 4 (.alloc 12 1 (List.replicate 12 (.int .u64 0)))] (sO [oK 7 cD [],oQ 8 dE [7],
 oO 5 (.alloc 12 1 (List.replicate 12 (.int .u64 0))),oT 12 1 12 5 8] (.seq (sO [oI 6 255] (.block 0 (.loop (.seq (sO [oM 9 6,oV 10 .geq 9 .i64 0] (.cond (.t 10) .skip (.exit 0)))
 (.seq (.block 1 (sO [oD 13 12 true 5,oQ 14 dW [13],oT 12 1 12 5 14] (sO [oD 15 4 true 2,oM 16 6,oQ 17 fK [15,16],oV 18 .eql 17 .i64 1]
 (.cond (.t 18) (.draw [oD 19 12 true 5,oD 20 9 true 3,oQ 21 dE [20],oQ 22 gD [19,21],
 oT 12 1 12 5 22] ⟨.all,[],.look 0 (.look 1 (.run 2 true (.run 3 false (.run 4 false .done))))⟩) .skip)))) (.ops [oM 11 6,oV 12 .sub 11 .i64 1,oM 6 12])))))) (sO [
 oD 23 12 true 5,oT 12 1 12 4 23] .ret))))⟩
theorem tG:BT tV fQ:=fun h=>aB aI Tryz.func96 (by kernel_rfl) (by kernel_rfl) h
noncomputable def nQ:AFun:=⟨1,27,[.cell 2 4 true],
 (sO [oO 2 (.alloc 1 4 [.int .u64 0])] (sO [oO 3 (.mv (.c (.nils)))] (.seq (sO [oI 4 0] (.block 0 (.loop (.seq (sO [oM 7 4,oM 8 0,oL 9 8,oW 10 .lss 7 9] (.cond (.t 10) .skip
 (.exit 0))) (.seq (.block 1 (.ops [oM 13 3,oM 14 0,oM 15 4,oX 16 9 14 15,oD 17 9 true 16,oQ 18 cA [17],oO 19 (.bsl 1 1 [.nils] [(0,1,.t 18)]),
 oO 20 (.app 1 24 (.t 13) (.t 19)),oM 3 20])) (.ops [oM 11 4,oV 12 .add 11 .i64 1,oM 4 12])))))) (sO [oM 22 3,
 ⟨some 23,.call (.c (.fn bW [])) [.c (.str ⟨#[100,108,101,113]⟩),.t 22],none⟩,oM 21 23,oE 24 21 0,oE 25 21 1,oO 5 (.alloc 1 4 [.int .u64 0]),oT 1 4 4 5 24,
 oM 6 25] (sO [oD 26 4 true 5,oT 1 4 4 2 26] .ret)))))⟩
theorem nL:BT nQ dH:=fun h=>aB aI Tryz.func97 (by kernel_rfl) (by kernel_rfl) h
noncomputable def xX:AFun:=⟨2,8,[.cell 4 4 true],
 (sO [oO 2 (.box 1 4 (.t 0)),oO 3 (.box 1 4 (.t 1)),oO 4 (.alloc 1 4 [.int .u64 0])] (sO [oD 5 4 true 2,oD 6 4 true 3,oK 7 bO [.c (.int .i64 1),.t 5,.t 6],
 oT 1 4 4 4 7] .ret))⟩
theorem xC:BT xX gV:=fun h=>aB aI Tryz.func98 (by kernel_rfl) (by kernel_rfl) h
noncomputable def xY:AFun:=⟨2,8,[.cell 4 4 true],
 (sO [oO 2 (.box 1 4 (.t 0)),oO 3 (.box 1 4 (.t 1)),oO 4 (.alloc 1 4 [.int .u64 0])] (sO [oD 5 4 true 2,oD 6 4 true 3,oK 7 bG [.c (.int .i64 1),.t 5,.t 6],
 oT 1 4 4 4 7] .ret))⟩
theorem xD:BT xY gW:=fun h=>aB aI Tryz.func99 (by kernel_rfl) (by kernel_rfl) h
noncomputable def yC:AFun:=⟨2,28,[.cell 4 4 true,.t 5],
 (sO [oO 2 (.box 1 4 (.t 0)),oO 3 (.box 1 4 (.t 1)),oO 4 (.alloc 1 4 [.int .u64 0]),oO 5 (.mv (.c (.int .u64 0)))] (sO [oO 6 (.mv (.c (.int .u64 0)))] (sO [
 oO 7 (.alloc 1 4 [.int .u64 0])] (.seq (sO [oI 8 0] (.block 0 (.loop (.seq (sO [oM 9 8,oV 10 .lss 9 .i64 4] (.cond (.t 10) .skip (.exit 0))) (.seq (.block 1 (.draw [oM 14 8,
 oM 15 8,oO 16 (.idxP 4 1 (.t 2) (.t 15)),oD 17 1 false 16,oM 18 8,oO 19 (.idxP 4 1 (.t 3) (.t 18)),oD 20 1 false 19,oM 21 6,
 oO 22 (.x64 true wU (.t 17) (.t 20) (.t 21)),oM 13 22,oE 23 13 0,oE 24 13 1,oO 25 (.idxP 4 1 (.t 7) (.t 14)),oT 1 4 1 25 23,
 oM 6 24] ⟨.all,[],.look 0 (.look 1 (.look 2 (.look 3 (.look 4 (.look 5 (.look 6 (.look 7 (.run 8 true (.look 9 (.look 10 (.look 11 (.look 12 (.run 13 false (.look 14 .done))))))))))))))⟩))
 (.ops [oM 11 8,oO 12 (.binF .add (.t 11) (.c (.int .i64 1))),oM 8 12])))))) (sO [oD 26 4 true 7,oM 27 6,oT 1 4 4 4 26,oM 5 27] .ret)))))⟩
theorem xI:BT yC bM:=fun h=>aB aI Tryz.func101 (by kernel_rfl) (by kernel_rfl) h
noncomputable def tW:AFun:=⟨1,7,[.cell 2 4 true],
 (sO [oO 2 (.alloc 1 4 [.int .u64 0])] (.seq (sO [oM 3 0,oV 4 .eql 3 .i64 1] (.cond (.t 4) (sO [
 oO 5 (.build [.int .u64 0,.int .u64 0,.int .u64 0,.int .u64 0] [(0,1,.c (.int .u64 4624529908474429119)),(1,1,.c (.int .u64 4994812053365940164)),(2,1,.c (.int .u64 1)),(3,1,.c (.int .u64 0))]),
 oT 1 4 4 2 5] .ret) .skip)) (sO [oO 6 (.build [.int .u64 0,.int .u64 0,.int .u64 0,.int .u64 0] [(0,1,.c (.int .u64 4294968273))]),oT 1 4 4 2 6] .ret)))⟩
theorem lG:BT tW bZ:=fun h=>aB aI Tryz.func102 (by kernel_rfl) (by kernel_rfl) h
noncomputable def A_witanref01_G:AFun:=⟨0,4,[.cell 0 9 true],
 (sO [oO 0 (.alloc 9 1 [.bool false,.int .u64 0,.int .u64 0,.int .u64 0,.int .u64 0,.int .u64 0,.int .u64 0,.int .u64 0,.int .u64 0])] (sO [
 oO 1 (.build [.int .u64 0,.int .u64 0,.int .u64 0,.int .u64 0] [(0,1,.c (.int .u64 6481385041966929816)),(1,1,.c (.int .u64 188021827762530521)),(2,1,.c (.int .u64 6170039885052185351)),(3,1,.c (.int .u64 8772561819708210092))]),
 oO 2 (.build [.int .u64 0,.int .u64 0,.int .u64 0,.int .u64 0] [(0,1,.c (.int .u64 11261198710074299576)),(1,1,.c (.int .u64 18237243440184513561)),(2,1,.c (.int .u64 6747795201694173352)),(3,1,.c (.int .u64 5204712524664259685))]),
 oO 3 (.build [.bool false,.int .u64 0,.int .u64 0,.int .u64 0,.int .u64 0,.int .u64 0,.int .u64 0,.int .u64 0,.int .u64 0] [(1,4,.t 1),(5,4,.t 2)]),oT 9 1 9 0 3]
 .ret))⟩
theorem B_witanref01_G:BT A_witanref01_G jM:=fun h=>aB aI Tryz.func105 (by kernel_rfl) (by kernel_rfl) h
noncomputable def A_deal_long:AFun:=⟨1,6,[.t 2],
 (sO [oB 2 false] (sO [oM 3 0,oL 4 3,oV 5 .gtr 4 .i64 16384,oM 2 5] .ret))⟩
theorem B_deal_long:BT A_deal_long kM:=fun h=>aB aI Tryz.func106 (by kernel_rfl) (by kernel_rfl) h
noncomputable def A_draw_Scalar:AFun:=⟨2,35,[.cell 4 4 true,.t 5],
 (sO [oO 4 (.alloc 1 4 [.int .u64 0]),oI 5 0] (sO [oM 11 0,oM 12 1,oQ 13 iS [11,12],oM 10 13,oE 14 10 0,oE 15 10 1,oM 6 14,oM 7 15] (.seq (sO [oM 16 7,oU 17 16]
 (.cond (.t 17) (sO [oO 18 (.build [.int .u64 0,.int .u64 0,.int .u64 0,.int .u64 0] []),oT 1 4 4 4 18,oI 5 4] .ret) .skip)) (sO [oM 19 6,
 oO 20 (.bsl 1 1 [.int .u8 0] [(0,1,.c (.int .u8 0))]),oQ 21 jH [19,20],oQ 22 kK [21],oQ 23 mF [22],oM 24 6,
 oO 25 (.bsl 1 1 [.int .u8 0] [(0,1,.c (.int .u8 1))]),oQ 26 jH [24,25],oQ 27 kK [26],oQ 28 mF [27],oO 8 (.alloc 1 4 [.int .u64 0]),
 oO 9 (.alloc 1 4 [.int .u64 0]),oT 1 4 4 8 23,oT 1 4 4 9 28] (.seq (.draw [oD 29 4 true 8,oD 30 4 true 9,oK 31 bV [.c (.int .i64 1)],oQ 32 qJ [29,30,31],
 oE 33 32 0,oE 34 32 1,oT 1 4 4 4 33,oM 5 34] ⟨.all,[],.look 0 (.look 1 (.run 2 true (.run 3 false (.look 4 (.look 5 (.run 6 false (.look 7 .done)))))))⟩) .ret)))))⟩
theorem B_draw_Scalar:BT A_draw_Scalar gN:=fun h=>aB aI Tryz.func107 (by kernel_rfl) (by kernel_rfl) h
noncomputable def A_deal_some:AFun:=⟨1,8,[.cell 2 4 true],
 (sO [oO 1 (.box 1 4 (.t 0)),oO 2 (.alloc 1 4 [.int .u64 0])] (.seq (sO [oD 3 4 true 1,oO 4 (.build [.int .u64 0,.int .u64 0,.int .u64 0,.int .u64 0] []),
 oO 5 (.eqa [.i,.i,.i,.i] false (.t 3) (.t 4))] (.cond (.t 5) (sO [oO 6 (.build [.int .u64 0,.int .u64 0,.int .u64 0,.int .u64 0] [(0,1,.c (.int .u64 1))]),oT 1 4 4 2 6]
 .ret) .skip)) (sO [oD 7 4 true 1,oT 1 4 4 2 7] .ret)))⟩
theorem B_deal_some:BT A_deal_some jI:=fun h=>aB aI Tryz.func108 (by kernel_rfl) (by kernel_rfl) h
noncomputable def A_deal_scalar:AFun:=⟨3,26,[.cell 6 4 true,.t 7],
 (sO [oO 6 (.alloc 1 4 [.int .u64 0]),oI 7 0] (sO [oM 11 2,oK 12 sV [.c (.nils),.t 11,.c (.int .i64 4)],oM 10 12,oE 13 10 0,oE 14 10 1,oM 8 13,oM 9 14] (.seq (sO [
 oM 15 9,oV 16 .neq 15 .i64 0] (.cond (.t 16) (sO [oO 17 (.build [.int .u64 0,.int .u64 0,.int .u64 0,.int .u64 0] []),oM 18 9,oT 1 4 4 6 17,oM 7 18] .ret) .skip)) (sO [
 oM 19 0,oM 20 1,oM 21 8,oO 22 (.bsl 1 2 [.nils] [(0,1,.t 20),(1,1,.t 21)]),oQ 23 gN [19,22],oE 24 23 0,oE 25 23 1,oT 1 4 4 6 24,oM 7 25] .ret))))⟩
theorem B_deal_scalar:BT A_deal_scalar iT:=fun h=>aB aI Tryz.func109 (by kernel_rfl) (by kernel_rfl) h
noncomputable def A_contract_Base:AFun:=⟨0,10,[.cell 0 9 true],
 (sO [oO 0 (.alloc 9 1 [.bool false,.int .u64 0,.int .u64 0,.int .u64 0,.int .u64 0,.int .u64 0,.int .u64 0,.int .u64 0,.int .u64 0])] (sO [
 ⟨some 5,.call (.c (.fn lC [])) [.c (.str ⟨#[119,105,116,97,110]⟩),.c (.nils)],none⟩,oM 4 5,oE 6 4 0,oE 7 4 1,oE 8 4 2,
 oO 1 (.alloc 9 1 [.bool false,.int .u64 0,.int .u64 0,.int .u64 0,.int .u64 0,.int .u64 0,.int .u64 0,.int .u64 0,.int .u64 0]),oT 9 1 9 1 6,oM 2 7,oM 3 8] (sO [
 oD 9 9 true 1,oT 9 1 9 0 9] .ret)))⟩
theorem B_contract_Base:BT A_contract_Base iX:=fun h=>aB aI Tryz.func111 (by kernel_rfl) (by kernel_rfl) h
noncomputable def A_dleq_Prove:AFun:=⟨3,55,[.cell 6 8 true,.t 7],
 (sO [oO 3 (.box 1 4 (.t 0)),oO 4 (.box 1 4 (.t 1)),oO 5 (.box 9 1 (.t 2)),
 oO 6 (.alloc 8 1 [.int .u64 0,.int .u64 0,.int .u64 0,.int .u64 0,.int .u64 0,.int .u64 0,.int .u64 0,.int .u64 0]),oI 7 0] (sO [oD 14 9 true 5,oQ 15 cP [14],
 oM 8 15] (.seq (sO [oM 16 8,oV 17 .neq 16 .i64 0] (.cond (.t 17) (sO [
 oO 18 (.build [.int .u64 0,.int .u64 0,.int .u64 0,.int .u64 0,.int .u64 0,.int .u64 0,.int .u64 0,.int .u64 0] []),oM 19 8,oT 8 1 8 6 18,oM 7 19] .ret) .skip)) (sO [
 oD 21 4 true 3,oD 22 9 true 5,oQ 23 dY [21,22],oM 20 23,oE 24 20 0,oE 25 20 1,
 oO 9 (.alloc 9 1 [.bool false,.int .u64 0,.int .u64 0,.int .u64 0,.int .u64 0,.int .u64 0,.int .u64 0,.int .u64 0,.int .u64 0]),oT 9 1 9 9 24,oM 10 25] (sO [
 oD 27 4 true 4,oD 28 9 true 5,oQ 29 dY [27,28],oM 26 29,oE 30 26 0,oE 31 26 1,
 oO 11 (.alloc 9 1 [.bool false,.int .u64 0,.int .u64 0,.int .u64 0,.int .u64 0,.int .u64 0,.int .u64 0,.int .u64 0,.int .u64 0]),oT 9 1 9 11 30,oM 12 31] (.seq (.draw [
 oD 33 4 true 3,oQ 34 fZ [33],oD 35 9 true 5,oD 36 9 true 9,oD 37 4 true 4,oQ 38 fZ [37],oD 39 9 true 11,
 oO 40 (.bsl 9 5 [.bool false,.int .u64 0,.int .u64 0,.int .u64 0,.int .u64 0,.int .u64 0,.int .u64 0,.int .u64 0,.int .u64 0] [(0,9,.t 34),(9,9,.t 35),(18,9,.t 36),(27,9,.t 38),(36,9,.t 39)]),
 oQ 41 hZ [40],oM 32 41,oE 42 32 0,oE 43 32 1,oO 13 (.alloc 1 4 [.int .u64 0]),oS 4 13 42,
 oM 8 43] ⟨.all,[(12,some 13)],.look 0 (.look 2 (.look 3 (.look 4 (.look 6 (.run 1 true (.run 5 true (.run 7 true (.run 8 true (.look 9 (.look 10 (.pre 12 13 (.look 11 (.fill (.look 14 .done))))))))))))))⟩)
 (.seq (sO [oM 44 8,oV 45 .neq 44 .i64 0] (.cond (.t 45) (sO [
 oO 46 (.build [.int .u64 0,.int .u64 0,.int .u64 0,.int .u64 0,.int .u64 0,.int .u64 0,.int .u64 0,.int .u64 0] []),oM 47 8,oT 8 1 8 6 46,oM 7 47] .ret) .skip))
 (.seq (.draw [oD 48 4 true 13,oD 49 4 true 4,oD 50 4 true 13,oD 51 4 true 3,oK 52 dF [.c (.int .i64 1),.t 50,.t 51],
 oK 53 fD [.c (.int .i64 1),.t 49,.t 52],
 oO 54 (.build [.int .u64 0,.int .u64 0,.int .u64 0,.int .u64 0,.int .u64 0,.int .u64 0,.int .u64 0,.int .u64 0] [(0,4,.t 48),(4,4,.t 53)]),oT 8 1 8 6 54,
 oI 7 0] ⟨.all,[],.look 0 (.look 1 (.look 2 (.look 3 (.run 4 true (.run 5 true (.look 6 (.run 7 false (.look 8 .done))))))))⟩) .ret))))))))⟩
theorem B_dleq_Prove:BT A_dleq_Prove jP:=fun h=>aB aI Tryz.func112 (by kernel_rfl) (by kernel_rfl) h
noncomputable def vQ:AFun:=⟨0,10,[.cell 0 9 true],
 (sO [oO 0 (.alloc 9 1 [.bool false,.int .u64 0,.int .u64 0,.int .u64 0,.int .u64 0,.int .u64 0,.int .u64 0,.int .u64 0,.int .u64 0])] (sO [
 ⟨some 5,.call (.c (.fn fP [])) [.c (.str ⟨#[119,105,116,97,110]⟩),.c (.nils)],none⟩,oM 4 5,oE 6 4 0,oE 7 4 1,oE 8 4 2,
 oO 1 (.alloc 9 1 [.bool false,.int .u64 0,.int .u64 0,.int .u64 0,.int .u64 0,.int .u64 0,.int .u64 0,.int .u64 0,.int .u64 0]),oT 9 1 9 1 6,oM 2 7,oM 3 8] (sO [
 oD 9 9 true 1,oT 9 1 9 0 9] .ret)))⟩
theorem vA:BT vQ gC:=fun h=>aB aI Tryz.func113 (by kernel_rfl) (by kernel_rfl) h
end Go.Proofs.YtfolpdmbpbbimaaGreat
end

