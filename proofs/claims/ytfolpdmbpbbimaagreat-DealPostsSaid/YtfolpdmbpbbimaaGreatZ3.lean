/- Texts of a proof, one behind the other; the last of these: Regions told by a plan: whatever order is drawn, what the plan tells comes out; no condition. -/
import Derived.Test.YtfolpdmbpbbimaaGreatZ2
import Derived.Carry
import Derived.OpenShut
import Derived.WideShapes
set_option linter.unusedVariables false
set_option linter.unusedSimpArgs false
set_option maxRecDepth 100000
section
namespace Go.Wit
def aB (f:Nat->Int):Nat->Nat->AV:=fun i _=> .int .u8 (f i)
theorem cH {b1 b2 b3:Bool} {p q:Prop} [Decidable p] [Decidable q] (h1:b1=true) (h2:b2=true) (h3:b3=true) (h4:p) (h5:q):((b1 && b2) && (b3 && (decide p && decide q)))=true:=by simp [h1,h2,h3,h4,h5]
def aM (m:Mem) (x:AV) (n:Nat) (f:Nat->Int):Prop:= ∃ cap,Lend (fun _=>none) (List.range m.length) m x (.vsl 1 n cap (aB f))
def RetB (n:Nat) (f:Nat->Int) (v:AV) (m:Mem):Prop:=
 (v= .nils/\n=0)\/∃ l cap N g,v= .sl l 0 n cap/\m[l]? = some (some ⟨1,N,g⟩)/\n<=N/\∀ i,i<n->g i 0= .int .u8 (f i)
theorem mA {nv:Bool} {f:Nat->Int} {i j:Nat}:Flat nv (aB f i j):= .int _ _
theorem aM.vsl {m:Mem} {n cap:Nat} {f:Nat->Int}:aM m (.vsl 1 n cap (aB f)) n f:=⟨cap,.rv _ _ (.eq _ _ rfl (.vsl _ _ _ _ rfl (fun _ _ _ _=>mA)))⟩
theorem aM.nils {m:Mem} {f:Nat->Int}:aM m .nils 0 f:=⟨0,.nils _ _⟩
theorem aM.sl {m:Mem} {l off n cap N:Nat} {f f':Nat->Int} (h:m[l]? = some (some ⟨1,N,aB f'⟩)) (hn:off+n<=N) (hf:∀ i,i<n->f i=f' (off+i)):aM m (.sl l off n cap) n f:=
 ⟨cap,.sl l off n cap ⟨1,N,aB f'⟩ _ (List.mem_range.2 (bT h)) h hn (fun i j hi _=>⟨by simp only [aB];rw [hf i hi],mA⟩)⟩
theorem aI {B:List Nat} {m:Mem} {v:AV} (h:Flat false v):Lend (fun _=>none) B m v v:= .rv _ _ (.eq _ _ rfl h)
theorem aG {B:List Nat} {m:Mem} {k:IntKind} {n:Int}:Lend (fun _=>none) B m (.int k n) (.int k n):=aI (.int _ _)
theorem gU {P:Program} {fn:FuncId} {args args0:List AV} {m:Mem} {K:AV->Mem->Prop} {R:Nat->(Nat->Int)->Prop} (h:ACall P fn args0 [] (fun v m'=>∃ n f,R n f/\RetB n f v m')) (ha:Lends (fun _=>none) (List.range m.length) m args args0)
 (hK:∀ n f cap,R n f->K (.sl m.length 0 n cap) (m++ [some ⟨1,n,aB f⟩])):ACall P fn args m K:=by
 refine h.frame0 true (List.range m.length) (fun h=>by cases h) ha (fun v m' hv=> ?_)
 obtain⟨n,f,hR,hr⟩:=hv
 rcases hr with⟨rfl,rfl⟩ | ⟨l,cap,N,g,rfl,h1,h2,h3⟩
 · exact⟨.sl m.length 0 0 0,[some ⟨1,0,aB f⟩],[none],Nat.le_refl _,fun i j q hi=>by cases i <;> simp at hi,.nils _ _,⟨.ph _ _ _ (by simp [dF]),trivial⟩,hK 0 f 0 hR⟩
 · refine⟨.sl m.length 0 n cap,[some ⟨1,n,aB f⟩],[some l],Nat.le_refl _,fun i j q hi hj=> ?_,.sl _ _ _ _ _ (by simp [dF]),⟨.old _ l _ _ (by simp [dF]) h1 ⟨rfl,h2,fun i j hi hj=> ?_⟩,trivial⟩,hK n f cap hR⟩
   · cases i <;> cases j <;> simp at hi hj;rfl
   · have hj:j<1:=hj
     obtain rfl:j=0:=by omega
     exact .eq _ _ (by rw [show (Blk.mk 1 N g).get i 0=g i 0 from rfl,h3 i hi];rfl) (by rw [show (Blk.mk 1 N g).get i 0=g i 0 from rfl,h3 i hi];exact .int _ _)
theorem sB {P:Program} {fn:FuncId} {args args0:List AV} {m:Mem} {K:AV->Mem->Prop} {R:Nat->(Nat->Int)->List AV->Prop} (h:ACall P fn args0 [] (fun v m'=>∃ n f x vs,v= .tup (x::vs)/\R n f vs/\RetB n f x m'/\Flats true vs)) (ha:Lends (fun _=>none) (List.range m.length) m args args0)
 (hK:∀ n f cap vs,R n f vs->K (.tup (.sl m.length 0 n cap::vs)) (m++ [some ⟨1,n,aB f⟩])):ACall P fn args m K:=by
 refine h.frame0 true (List.range m.length) (fun h=>by cases h) ha (fun v m' hv=> ?_)
 obtain⟨n,f,x,vs,rfl,hR,hr,hfl⟩:=hv
 have hvs:∀ σ,RVs true σ vs vs:=fun σ=>by
  clear hR hr
  induction vs with
  | nil=>exact .nil
  | cons a r ih=>cases hfl with | cons _ _ h1 h2=>exact .cons _ _ _ _ (.eq _ _ rfl h1) (ih h2)
 rcases hr with⟨rfl,rfl⟩ | ⟨l,cap,N,g,rfl,h1,h2,h3⟩
 · exact⟨.tup (.sl m.length 0 0 0::vs),[some ⟨1,0,aB f⟩],[none],Nat.le_refl _,fun i j q hi=>by cases i <;> simp at hi,.tup _ _ (.cons _ _ _ _ (.nils _ _) (hvs _)),⟨.ph _ _ _ (by simp [dF]),trivial⟩,hK 0 f 0 vs hR⟩
 · refine⟨.tup (.sl m.length 0 n cap::vs),[some ⟨1,n,aB f⟩],[some l],Nat.le_refl _,fun i j q hi hj=> ?_,.tup _ _ (.cons _ _ _ _ (.sl _ _ _ _ _ (by simp [dF])) (hvs _)),⟨.old _ l _ _ (by simp [dF]) h1 ⟨rfl,h2,fun i j hi hj=> ?_⟩,trivial⟩,hK n f cap vs hR⟩
   · cases i <;> cases j <;> simp at hi hj;rfl
   · have hj:j<1:=hj
     obtain rfl:j=0:=by omega
     exact .eq _ _ (by rw [show (Blk.mk 1 N g).get i 0=g i 0 from rfl,h3 i hi];rfl) (by rw [show (Blk.mk 1 N g).get i 0=g i 0 from rfl,h3 i hi];exact .int _ _)
theorem aC {P:Program} {fn:FuncId} {args args0:List AV} {m:Mem} {K:AV->Mem->Prop} {R:AV->Prop} (h:ACall P fn args0 [] (fun v m'=>R v/\Flat true v)) (ha:Lends (fun _=>none) (List.range m.length) m args args0)
 (hK:∀ v,R v->K v m):ACall P fn args m K:=by
 refine h.frame0 true (List.range m.length) (fun h=>by cases h) ha (fun v m' hv=>⟨v,[],[],Nat.le_refl _,fun i j q hi=>by simp at hi,.eq _ _ rfl hv.2,trivial,by simpa using hK v hv.1⟩)
end Go.Wit
end

section
namespace Go.Wit
theorem fL {b:Bool} {p q:Prop} (h:b=false) (hq:q):dG b p q:=by subst h;exact hq
theorem aS {b:Bool} {p q:Prop} (h:b=true) (hp:p):dG b p q:=by subst h;exact hp
theorem aM.look {m:Mem} {n cap:Nat} {g:Nat->Nat->AV} {f:Nat->Int} (hf:∀ i,i<n->g i 0= .int .u8 (f i)):aM m (.vsl 1 n cap g) n f:=
 ⟨cap,.vsl 1 n cap g _ (fun i j hi hj=>by
  obtain rfl:j=0:=by omega
  exact⟨(hf i hi).symm,.int _ _⟩)⟩
theorem aM.any {m:Mem} {l off n cap N:Nat} {g:Nat->Nat->AV} {f:Nat->Int} (h:m[l]? = some (some ⟨1,N,g⟩)) (hn:off+n<=N) (hf:∀ i,i<n->g (off+i) 0= .int .u8 (f i)):aM m (.sl l off n cap) n f:=
 ⟨cap,.sl l off n cap ⟨1,N,g⟩ _ (List.mem_range.2 (bT h)) h hn (fun i j hi hj=>by
  have hj:j<1:=hj
  obtain rfl:j=0:=by omega
  exact⟨by show aB f i 0=g (off+i) 0;rw [hf i hi];rfl,mA⟩)⟩
noncomputable def vcRounds (D:DrawKit) (P:Program) (n k:Nat) (c:ACode) (Q:xI) (N:Nat):Env->Mem->Prop:=
 Nat.rec (motive:=fun _=>Env->Mem->Prop) (fun _ _=>False) (fun _ ih e m=>vcCode D P n k c e m fun x e m=>match x with
  | .normal=>ih e m
  | .exit i=>Q (.exit i) e m
  | .ret=>Q .ret e m
  | _=>False) N
theorem bJ {D:DrawKit} {P:Program} {n k:Nat} (hm:P.follows .mixedOrders=true) {c:ACode} {e:Env} {m:Mem} {Q:xI} (N:Nat) (h:vcRounds D P n k c Q N e m):ALoop D P n k c e m Q:=by
  refine⟨fun b hb C a w L hk hr=>wp_loop_rounds N ?_⟩
  induction N generalizing e m a w L with
  | zero=>exact h.elim
  | succ N ih =>
    rw [rounds_succ]
    refine Code.wp_mono ?_ (mR hm b c hb h C a w L hk hr)
    rintro x a1 w1 ⟨e1,m1,L1,hq,hr1⟩
    cases x with
    | normal=>exact ih hq a1 w1 L1 hr1
    | exit i=>exact ⟨e1,m1,L1,hq,hr1⟩
    | ret=>exact ⟨e1,m1,L1,hq,hr1⟩
    | _=>exact False.elim hq
end Go.Wit
end

section
namespace Go.Wit
inductive Ty where
 | int (k:IntKind)
 | bool
 | str
 | sl (es:Nat) (e:Ty)
 | arr (n:Nat) (e:Ty)
 | st (l:List Ty)
mutual
def Ty.size:Ty->Nat
 | .int _ | .bool | .str | .sl _ _=>1
 | .arr n e=>n*e.size
 | .st l=>Ty.sizes l
def Ty.sizes:List Ty->Nat
 | [] =>0
 | t::ts=>t.size+Ty.sizes ts
end
mutual
def okC:Ty->List AV->Prop
 | .int k,cs=>∃ n,cs= [.int k n] /\ k.min<=n/\n<=k.max
 | .bool,cs=>∃ b,cs= [.bool b]
 | .str,cs=>∃ s,cs= [.str s] /\ s.size<=Go.maxLen
 | .sl es e,cs=>∃ len cap get,cs= [.vsl es len cap get] /\ len<=cap/\cap<=Go.maxLen/\∀ i,i<len->okC e ((List.range es).map (get i))
 | .arr n e,cs=>cs.length=n*e.size/\∀ i,i<n->okC e ((cs.drop (i*e.size)).take e.size)
 | .st l,cs=>okCs l cs
def okCs:List Ty->List AV->Prop
 | [],cs=>cs= []
 | t::ts,cs=>∃ a b,cs=a++b/\a.length=t.size/\okC t a/\okCs ts b
end
mutual
def qI (P:Program):Ty->TypeId->Bool
 | .int k,t=>match P.underlying t with | some (.int k')=>kbeq k k' | _=>false
 | .bool,t=>match P.underlying t with | some .bool=>true | _=>false
 | .str,t=>match P.underlying t with | some .string=>true | _=>false
 | .sl es e,t=>match P.underlying t with | some (.slice u)=>P.cellsOf u == es && (Nat.blt 0 es && (e.size == es && qI P e u)) | _=>false
 | .arr n e,t=>match P.underlying t with | some (.array n' u)=>n == n' && (P.cellsOf t == n*e.size && (P.cellsOf u == e.size && qI P e u)) | _=>false
 | .st l,t=>match P.underlying t with | some (.struct fs)=>P.cellsOf t == Ty.sizes l && chkFs P l fs.toList 0 | _=>false
def chkFs (P:Program):List Ty->List Field->Nat->Bool
 | [],[],_=>true
 | t::ts,f::fs,o=>f.offset == o && (P.cellsOf f.type == t.size && (qI P t f.type && chkFs P ts fs (o+t.size)))
 | _,_,_=>false
end
section
variable {H:Type} {enc:TypeId × Value->H} {P:Program} {w:World} {sp:Nat->Bool} {held:Bool} {L:Lay} {O:Nat->Prop}
theorem cellAt_of_cell? {a:Addr} {v:Value} (h:w.cell? a=some v):a.spot=none/\fK w.heap a.block a.off=some v:=by
 unfold World.cell? at h
 unfold fK
 split at h
 · rename_i heq
   rw [heq]
   split at h
   · cases h
   · rename_i hs
     exact⟨by simpa using hs,h⟩
 · cases h
theorem addr_plus {a:Addr} {n:Nat} (h:a.spot=none):a.add n=⟨a.block,a.off+n,none⟩:=by
 unfold Addr.add
 split
 · rename_i hn;subst hn;cases a;simp_all
 · rfl
def OkR (w:World) (L:Lay) (O:Nat->Prop) (ty:Ty) (cs:List Value):Prop:=cs.length=ty.size/\(∀ c ∈ cs,c.oneCell'=true)/\∃ avs,okC ty avs/\VRs w.heap L O avs cs
theorem row_get {n s:Nat} {cs:List Value} {g:Nat->List AV} (hl:cs.length=n*s) (hg:∀ i,i<n->VRs w.heap L O (g i) ((cs.drop (i*s)).take s)):∃ avs:List AV,avs.length=n*s/\VRs w.heap L O avs cs/\∀ i,i<n->(avs.drop (i*s)).take s=g i:=by
  induction n generalizing cs g with
  | zero =>
    have:cs= [] :=by simpa using hl
    subst this
    exact⟨[],by simp,.nil,fun i hi=>absurd hi (Nat.not_lt_zero _)⟩
  | succ n ih =>
    have hl':(cs.drop s).length=n*s:=by rw [List.length_drop,hl,Nat.succ_mul];omega
    obtain⟨avs,h1,h2,h3⟩:=ih (cs:=cs.drop s) (g:=fun i=>g (i+1)) hl' (fun i hi=>by
      have:=hg (i+1) (by omega)
      rw [List.drop_drop,show s+i*s=(i+1)*s by rw [Nat.succ_mul];omega];exact this)
    have h0:=hg 0 (by omega)
    simp only [Nat.zero_mul,List.drop_zero]at h0
    have hlen0:(g 0).length=s:=by
      have:=h0.length
      rw [List.length_take,hl,Nat.succ_mul]at this;omega
    refine⟨g 0++avs,by rw [List.length_append,hlen0,h1,Nat.succ_mul];omega,?_,fun i hi=> ?_⟩
    · have:=h0.append h2
      rwa [List.take_append_drop]at this
    · cases i with
      | zero=>simp only [Nat.zero_mul,List.drop_zero];rw [<- hlen0,List.take_left]
      | succ i =>
        rw [show (i+1)*s=s+i*s by rw [Nat.succ_mul];omega,<- List.drop_drop,show List.drop s (g 0++avs)=avs by rw [<- hlen0,List.drop_left]]
        exact h3 i (by omega)
theorem range_map_getD {es:Nat} {l:List AV} (h:l.length=es):(List.range es).map (fun j=>l.getD j .un)=l:=by
 subst h
 apply List.ext_getElem?
 intro i
 by_cases hi:i<l.length
 · simp [hi,List.getD]
 · simp [hi]
theorem open_sl (hO:∀ b,¬ O b) {es len cap:Nat} {a:Addr} {e:Ty} (hpos:0<es) (hsz:e.size=es) (hl:len<=cap) (hm:cap<=Go.maxLen) (h0:0<cap->∃ c,w.cells? 0 (a.add (0*es)) es=some c)
 (each:∀ i,i<len->∃ cs',w.cells? 0 (a.add (i*es)) es=some cs'/\OkR w L O e cs'):OkR w L O (.sl es e) [.slice (some a) len cap] :=by
 classical
 refine⟨rfl,by simp [Value.oneCell'],?_⟩
 by_cases hcap:cap=0
 · subst hcap
   obtain rfl:len=0:=by omega
   refine⟨[.vsl es 0 0 fun _ _=> .un],?_,.cons _ _ _ _ (.vsl0 _ _ _) .nil⟩
   simp only [okC];exact⟨0,0,_,rfl,Nat.le_refl _,hm,fun i hi=>absurd hi (Nat.not_lt_zero _)⟩
 · obtain⟨c,hc⟩:=h0 (by omega)
   have hspot:a.spot=none:=by
    obtain⟨_,h2,h3⟩:=World.cells?_some hc
    have:=h3 0 hpos
    rw [List.getElem?_eq_getElem (by omega)]at this
    have:=(cellAt_of_cell? this).1
    simpa [Addr.add]using this
   have key:∀ i,i<len->∃ cs' avs,cs'.length=es/\avs.length=es/\okC e avs/\VRs w.heap L O avs cs'/\(∀ c ∈ cs',c.oneCell'=true)/\∀ j,j<es->fK w.heap a.block (a.off+(i*es+j))=cs'[j]? :=by
    intro i hi
    obtain⟨cs',h1,h2,h3,avs,h4,h5⟩:=each i hi
    obtain⟨_,g2,g3⟩:=World.cells?_some h1
    have hlen:cs'.length=es:=by rw [h2,hsz]
    refine⟨cs',avs,hlen,by rw [<- hlen,h5.length],h4,h5,h3,fun j hj=> ?_⟩
    have:=g3 j hj
    rw [List.getElem?_eq_getElem (by omega)]at this
    have:=(cellAt_of_cell? this).2
    rw [addr_plus hspot,addr_plus rfl]at this
    simp only [<- Nat.add_assoc]at this ⊢
    rw [this,List.getElem?_eq_getElem (by omega)]
   let av:Nat->List AV:=fun i=>if hi:i<len then (key i hi).choose_spec.choose else []
   let cv:Nat->List Value:=fun i=>if hi:i<len then (key i hi).choose else []
   have spec:∀ i,i<len->(cv i).length=es/\(av i).length=es/\okC e (av i)/\VRs w.heap L O (av i) (cv i)/\(∀ c ∈ cv i,c.oneCell'=true)/\∀ j,j<es->fK w.heap a.block (a.off+(i*es+j))=(cv i)[j]? :=by
    intro i hi
    have:=(key i hi).choose_spec.choose_spec
    simp only [av,cv,dif_pos hi]
    exact this
   refine⟨[.vsl es len cap fun i j=>(av i).getD j .un],?_,.cons _ _ _ _ ?_ .nil⟩
   · simp only [okC]
     refine⟨len,cap,_,rfl,hl,hm,fun i hi=> ?_⟩
     rw [range_map_getD (spec i hi).2.1]
     exact(spec i hi).2.2.1
   · have ha:a=⟨a.block,a.off,none⟩:=by cases a;simp_all
     rw [ha]
     refine .vsl _ _ _ _ a.block a.off (fun i j=>(cv i).getD j undef) hl (fun i j hi hj=> ?_) (fun i j hi hj=> ?_)
     · obtain⟨s1,s2,s3,s4,s5,s6⟩:=spec i hi
       have hg:(cv i)[j]? = some ((cv i).getD j undef):=by rw [List.getD,List.getElem?_eq_getElem (by omega)];rfl
       exact⟨hO _,by rw [s6 j hj,hg],s5 _ (List.mem_of_getElem? hg)⟩
     · obtain⟨s1,s2,s3,s4,s5,s6⟩:=spec i hi
       obtain⟨c,h1,h2⟩:=s4.get j (by omega)
       rw [show (cv i).getD j undef=c by rw [List.getD,h1];rfl]
       exact h2
mutual
theorem open_ty (hO:∀ b,¬ O b) (hsp:∀ b,sp b=true):∀ (ty:Ty) (t:TypeId),qI P ty t=true->∀ (fuel:Nat) (cs:List Value) (x:DataW H × List MemPlace),DataW.trod enc P w 0 sp held fuel t cs=some x->OkR w L O ty cs
  | .int k, t, hc, fuel, cs, x, h => by
    simp only [qI]at hc
    split at hc
    case h_2=>cases hc
    rename_i k' hu
    have:=eC hc;subst this
    obtain⟨n,rfl,_,hw⟩:=DataW.trod_int hu h
    simp only [Lit.wf,Bool.and_eq_true,decide_eq_true_eq]at hw
    refine⟨rfl,by simp [Value.oneCell'],[.int k n],?_,.cons _ _ _ _ (.int _ _) .nil⟩
    simp only [okC];exact⟨n,rfl,hw.1,hw.2⟩
  | .bool, t, hc, fuel, cs, x, h => by
    simp only [qI]at hc
    split at hc
    case h_2=>cases hc
    rename_i hu
    obtain⟨b,rfl,_⟩:=DataW.trod_bool hu h
    exact⟨rfl,by simp [Value.oneCell'],[.bool b],by simp only [okC];exact⟨b,rfl⟩,.cons _ _ _ _ (.bool _) .nil⟩
  | .str, t, hc, fuel, cs, x, h => by
    simp only [qI]at hc
    split at hc
    case h_2=>cases hc
    rename_i hu
    obtain⟨s,rfl,_,hs⟩:=DataW.trod_string hu h
    exact⟨rfl,by simp [Value.oneCell'],[.str s],by simp only [okC];exact⟨s,rfl,hs⟩,.cons _ _ _ _ (.str _) .nil⟩
  | .sl es e, t, hc, fuel, cs, x, h => by
    simp only [qI]at hc
    split at hc
    case h_2=>cases hc
    rename_i u hu
    simp only [Bool.and_eq_true,beq_iff_eq,Nat.blt_eq]at hc
    obtain⟨hes,hpos,hsz,hce⟩:=hc
    rcases DataW.trod_slice hu h with⟨rfl,_⟩ | ⟨a,len,cap,elems,rest,n,_,rfl,rfl,hb,hl,hm,hlen,hel,hsp',hns⟩
    · refine⟨rfl,by simp [Value.oneCell'],[.vsl es 0 0 fun _ _=> .un],?_,.cons _ _ _ _ (.vsl0 _ _ _) .nil⟩
      simp only [okC];exact⟨0,0,_,rfl,Nat.le_refl _,Nat.zero_le _,fun i hi=>absurd hi (Nat.not_lt_zero _)⟩
    rw [hes]at hel hsp'
    have get:∀ {i:Nat} {l:List (DataW H × List MemPlace)} {k:Nat},k<l.length->(w.cells? 0 (a.add (i*es)) es).bind (DataW.trod enc P w 0 sp held n u)=l[k]? -> ∃ cs' y,w.cells? 0 (a.add (i*es)) es=some cs'/\DataW.trod enc P w 0 sp held n u cs'=some y:=by
      intro i l k hk h1
      rw [List.getElem?_eq_getElem hk]at h1
      simp only [Option.bind_eq_some_iff]at h1
      obtain⟨cs',h1,h2⟩:=h1
      exact⟨cs',_,h1,h2⟩
    refine open_sl hO hpos hsz hl hm (fun hcap=> ?_) (fun i hi=> ?_)
    · by_cases h0:len=0
      · obtain⟨h1,h2⟩:=hsp' (hsp _)
        obtain⟨cs',_,h3,_⟩:=get (k:=0) (by omega) (h2 0 (by omega))
        rw [h0]at h3
        exact⟨cs',h3⟩
      · obtain⟨cs',_,h3,_⟩:=get (k:=0) (by omega) (hel 0 (by omega))
        exact⟨cs',h3⟩
    · obtain⟨cs',y,h1,h2⟩:=get (k:=i) (by omega) (hel i hi)
      exact⟨cs',h1,open_ty hO hsp e u hce _ _ _ h2⟩
  | .arr n e, t, hc, fuel, cs, x, h => by
    simp only [qI]at hc
    split at hc
    case h_2=>cases hc
    rename_i n' u hu
    simp only [Bool.and_eq_true,beq_iff_eq]at hc
    obtain⟨rfl,hct,hcs,hce⟩:=hc
    obtain⟨xs,m,rfl,rfl,hlen,hxs,hall⟩:=DataW.trod_array hu h
    rw [hct]at hlen
    have each:∀ i,i<n->OkR w L O e ((cs.drop (i*e.size)).take e.size):=by
      intro i hi
      have:=hall i hi
      rw [hcs,List.getElem?_eq_getElem (by omega)]at this
      exact open_ty hO hsp e u hce _ _ _ this
    refine⟨hlen,fun c hcm=> ?_,?_⟩
    · obtain⟨k,hk⟩:=List.getElem?_of_mem hcm
      have hk':=(List.getElem?_eq_some_iff.1 hk).1
      rw [hlen]at hk'
      have hs0:0<e.size:=by
        rcases Nat.eq_zero_or_pos e.size with h0 | h0
        · rw [h0]at hk';omega
        · exact h0
      have hq:k / e.size<n:=(Nat.div_lt_iff_lt_mul hs0).2 hk'
      refine(each (k / e.size) hq).2.1 c (List.mem_of_getElem? (i:=k % e.size) ?_)
      rw [List.getElem?_take,if_pos (Nat.mod_lt _ hs0),List.getElem?_drop,Nat.div_add_mod']
      exact hk
    · classical
      obtain⟨avs,h1,h2,h3⟩:=row_get (g:=fun i=>if hi:i<n then (each i hi).2.2.choose else []) hlen (fun i hi=>by
        have:=(each i hi).2.2.choose_spec.2
        rw [dif_pos hi];exact this)
      refine⟨avs,?_,h2⟩
      simp only [okC]
      refine⟨h1,fun i hi=> ?_⟩
      rw [h3 i hi,dif_pos hi]
      exact(each i hi).2.2.choose_spec.1
  | .st l, t, hc, fuel, cs, x, h => by
    simp only [qI]at hc
    split at hc
    case h_2=>cases hc
    rename_i fs hu
    simp only [Bool.and_eq_true,beq_iff_eq]at hc
    obtain⟨xs,m,rfl,rfl,hlen,hxs,hall⟩:=DataW.trod_struct hu h
    have:=open_fs hO hsp l fs.toList 0 hc.2 m (cs:=cs) (by rw [hlen,hc.1];simp) (fun i f hf=>by
      have hf':fs[i]? = some f:=by simpa using hf
      have h1:=hall i f hf'
      have hi:i<fs.size:=(Array.getElem?_eq_some_iff.1 hf').1
      rw [List.getElem?_eq_getElem (by omega)]at h1
      exact⟨_,h1⟩)
    simpa using this
theorem open_fs (hO:∀ b,¬ O b) (hsp:∀ b,sp b=true):∀ (l:List Ty) (fs:List Field) (o:Nat),chkFs P l fs o=true->∀ (fuel:Nat) {cs:List Value},cs.length=o+Ty.sizes l->(∀ (i:Nat) f,fs[i]? = some f->∃ x:DataW H × List MemPlace,DataW.trod enc P w 0 sp held fuel f.type ((cs.drop f.offset).take (P.cellsOf f.type))=some x)->OkR w L O (.st l) (cs.drop o)
  | [], [], o, hc, fuel, cs, hl, h => by
    have:cs.drop o= [] :=by apply List.drop_of_length_le;simp [Ty.sizes]at hl;omega
    rw [this]
    exact⟨by simp [Ty.size,Ty.sizes],by simp,[],by simp [okC,okCs],.nil⟩
  | [],_::_,o,hc,fuel,cs,hl,h=>by simp [chkFs]at hc
  | _::_,[],o,hc,fuel,cs,hl,h=>by simp [chkFs]at hc
  | t :: ts, f :: fs, o, hc, fuel, cs, hl, h => by
    simp only [chkFs,Bool.and_eq_true,beq_iff_eq]at hc
    obtain⟨ho,hsz,hct,hcf⟩:=hc
    obtain⟨x,hx⟩:=h 0 f rfl
    rw [ho,hsz]at hx
    obtain⟨a1,a2,avs,a3,a4⟩:=open_ty hO hsp t f.type hct _ _ _ hx
    simp only [Ty.sizes]at hl
    obtain⟨b1,b2,bvs,b3,b4⟩:=open_fs hO hsp ts fs (o+t.size) hcf fuel (cs:=cs) (by omega) (fun i f hf=>h (i+1) f (by simpa using hf))
    have hsplit:cs.drop o=(cs.drop o).take t.size++cs.drop (o+t.size):=by rw [<- List.drop_drop,List.take_append_drop]
    rw [hsplit]
    refine⟨by rw [List.length_append,a1,b1];simp [Ty.size,Ty.sizes],fun c hcm=> ?_,avs++bvs,?_,a4.append b4⟩
    · rcases List.mem_append.1 hcm with hm | hm
      · exact a2 c hm
      · exact b2 c hm
    · simp only [okC]at b3 ⊢
      simp only [okCs]
      exact⟨avs,bvs,rfl,by rw [<- a4.length,a1],a3,b3⟩
end
def okV:Ty->AV->Prop
 | .arr n e,v=>∃ cs,v= .agg cs/\okC (.arr n e) cs
 | .st l,v=>∃ cs,v= .agg cs/\okC (.st l) cs
 | ty,v=>okC ty [v]
theorem open_val (hO:∀ b,¬ O b) (hsp:∀ b,sp b=true) {ty:Ty} {t:TypeId} (hc:qI P ty t=true) {r:Reach} {b0:Nat} {v:Value} {d:DataW H} {ps:List MemPlace} (hval:Value.okWide P w r b0 t v) (h:DataW.Trod enc P w 0 sp held t v d ps):
    ∃ av,okV ty av/\VR w.heap L O av v:=by
  obtain⟨fuel,hf⟩:=h
  obtain⟨h1,h2,avs,h3,h4⟩:=open_ty (L:=L) hO hsp ty t hc fuel _ _ hf
  have one:∀ {v:Value},v.cells= #[v] -> VRs w.heap L O avs v.cells.toList->okC ty avs->∃ av,okC ty [av] /\ VR w.heap L O av v:=by
    intro v hv h4 h3
    rw [hv]at h4
    cases h4 with
    | cons a c as cs g1 g2=>cases g2;exact⟨a,h3,g1⟩
  cases ty with
  | arr n e =>
    simp only [qI]at hc
    split at hc
    case h_2=>cases hc
    rename_i n' u hu
    simp only [Value.okWide,hu]at hval
    obtain⟨cs,rfl,_,_⟩:=hval
    exact⟨.agg avs,⟨avs,rfl,h3⟩,.agg _ _ h4⟩
  | st l =>
    simp only [qI]at hc
    split at hc
    case h_2=>cases hc
    rename_i fs hu
    simp only [Value.okWide,hu]at hval
    obtain⟨cs,rfl,_,_⟩:=hval
    exact⟨.agg avs,⟨avs,rfl,h3⟩,.agg _ _ h4⟩
  | int k =>
    simp only [qI]at hc
    split at hc
    case h_2=>cases hc
    rename_i hu
    obtain⟨n,rfl⟩:=WideShapes.okWide_int hu hval
    exact one rfl h4 h3
  | bool =>
    simp only [qI]at hc
    split at hc
    case h_2=>cases hc
    rename_i hu
    obtain⟨n,rfl⟩:=WideShapes.okWide_bool hu hval
    exact one rfl h4 h3
  | str =>
    simp only [qI]at hc
    split at hc
    case h_2=>cases hc
    rename_i hu
    obtain⟨n,rfl⟩:=WideShapes.okWide_string hu hval
    exact one rfl h4 h3
  | sl es e =>
    simp only [qI]at hc
    split at hc
    case h_2=>cases hc
    rename_i hu
    obtain⟨n,_,_,rfl⟩:=WideShapes.okWide_slice hu hval
    exact one rfl h4 h3
def okVs:List Ty->List AV->Prop
 | [],vs=>vs= []
 | t::ts,vs=>∃ v r,vs=v::r/\okV t v/\okVs ts r
def chkTys (P:Program):List Ty->List TypeId->Bool
 | [],[] =>true
 | ty::tys,t::ts=>qI P ty t && chkTys P tys ts
 | _,_=>false
theorem open_vals (hO:∀ b,¬ O b) (hsp:∀ b,sp b=true) {r:Reach} {b0:Nat}:∀ {tys:List Ty} {ts:List TypeId} {vs:List Value} {ds:List (DataW H)} {ps:List MemPlace},chkTys P tys ts=true->(∀ (j:Nat) t v,ts[j]? = some t->vs[j]? = some v->Value.okWide P w r b0 t v)->
    DataW.TrodAll enc P w 0 sp held ts vs ds ps->∃ avs,okVs tys avs/\VRs w.heap L O avs vs
  | [], [], vs, ds, ps, hc, hv, h => by
    match vs,ds,h with
    | [],[],h=>exact ⟨[],rfl,.nil⟩
  | [],_::_,vs,ds,ps,hc,hv,h=>by simp [chkTys]at hc
  | _::_,[],vs,ds,ps,hc,hv,h=>by simp [chkTys]at hc
  | ty :: tys, t :: ts, vs, ds, ps, hc, hv, h => by
    match vs,ds,h with
    | v :: vs, d :: ds, ⟨p, q, h1, h2, _⟩ =>
      simp only [chkTys,Bool.and_eq_true]at hc
      obtain⟨av,g1,g2⟩:=open_val (L:=L) hO hsp hc.1 (hv 0 t v rfl rfl) h1
      obtain⟨avs,g3,g4⟩:=open_vals hO hsp hc.2 (fun j t v a b=>hv (j+1) t v (by simpa using a) (by simpa using b)) h2
      exact⟨av::avs,⟨av,avs,rfl,g1,g3⟩,.cons _ _ _ _ g2 g4⟩
end
theorem shut_vals {H:Type} {enc:TypeId × Value->H} {P:Program} (hl:laidOutB P=true) {W W':World} (hb:Go.RowKit.Below W.heap.size W W'):∀ {ts:List TypeId} {vs:List Value} {ds:List (DataW H)} {ps:List MemPlace},ts.all (fun t=>P.readableRec t && decide (t<P.types.size))=true->
    DataW.TrodAll enc P W 0 (fun _=>true) true ts vs ds ps->DataW.TrodAll enc P W' 0 (fun b=>decide (b<W.heap.size)) true ts vs ds ps
  | [],[],[],ps,_,h=>h
  | t :: ts, v :: vs, d :: ds, ps, hc, ⟨p, q, h1, h2, he⟩ => by
    simp only [List.all_cons,Bool.and_eq_true,decide_eq_true_eq]at hc
    obtain⟨n,hn⟩:=h1
    exact⟨p,q,hb.trod hl hc.1.1 hc.1.2 ⟨n,hn⟩ (DataW.trod_lt n _ _ _ hn),shut_vals hl hb hc.2 h2,he⟩
end Go.Wit
end

section
namespace Go.Wit
open Go.RowKit
def kG (a b:List AV):Prop:= ∀ (h:Array Obj) (L:Lay) (O:Nat->Prop) (vs:List Value),VRs h L O a vs->VRs h L O b vs
def dO (a b:AV):Prop:= ∀ (h:Array Obj) (L:Lay) (O:Nat->Prop) (v:Value),VR h L O a v->VR h L O b v
theorem kG.nil:kG [] [] :=fun _ _ _ _ h=>h
theorem kG.cons {a b:AV} {as bs:List AV} (h1:dO a b) (h2:kG as bs):kG (a::as) (b::bs):=by
 intro h L O vs hv
 cases hv with
 | cons _ _ _ _ g1 g2=>exact .cons _ _ _ _ (h1 _ _ _ _ g1) (h2 _ _ _ _ g2)
theorem dO.refl (a:AV):dO a a:=fun _ _ _ _ h=>h
theorem kG.append {a b c d:List AV} (h1:kG a b) (h2:kG c d):kG (a++c) (b++d):=by
  intro h L O vs hv
  have:∀ {x y:List AV} {vs:List Value},VRs h L O (x++y) vs->∃ u w,vs=u++w/\VRs h L O x u/\VRs h L O y w:=by
    intro x
    induction x with
    | nil=>intro y vs hv;exact⟨[],vs,rfl,.nil,hv⟩
    | cons a l ih =>
      intro y vs hv
      cases hv with
      | cons _ c _ cs g1 g2 =>
        obtain⟨u,w,rfl,g3,g4⟩:=ih g2
        exact⟨c::u,w,rfl,.cons _ _ _ _ g1 g3,g4⟩
  obtain⟨u,w,rfl,g1,g2⟩:=this hv
  exact(h1 _ _ _ _ g1).append (h2 _ _ _ _ g2)
theorem dO.agg {a b:List AV} (h:kG a b):dO (.agg a) (.agg b):=by
 intro H L O v hv
 cases hv with
 | agg _ c hs=>exact .agg _ _ (h _ _ _ _ hs)
theorem dO.vsl {es n cap:Nat} {g g':Nat->Nat->AV} (h:∀ i j,i<n->j<es->dO (g i j) (g' i j)):dO (.vsl es n cap g) (.vsl es n cap g'):=by
 intro H L O v hv
 cases hv with
 | vsl0 _ _ a=>exact .vsl0 _ _ a
 | vsl _ _ _ _ b o vals h0 h1 h2=>exact .vsl _ _ _ _ b o vals h0 h1 (fun i j hi hj=>h i j hi hj _ _ _ _ (h2 i j hi hj))
theorem dO.of_eq {a b:AV} (h:a=b):dO a b:=h ▸ dO.refl a
theorem ok_ints {k:IntKind} {av:AV} (h:okV (.sl 1 (.int k)) av):∃ (n cap:Nat) (f:Nat->Int),dO av (.vsl 1 n cap fun i _=> .int k (f i))/\n<=cap/\cap<=Go.maxLen/\∀ i,i<n->k.min<=f i/\f i<=k.max:=by
 simp only [okV,okC]at h
 obtain⟨n,cap,get,he,h1,h2,h3⟩:=h
 obtain rfl:=List.head_eq_of_cons_eq he
 classical
 refine⟨n,cap,fun i=>if hi:i<n then (h3 i hi).choose else 0,dO.vsl (fun i j hi hj=> ?_),h1,h2,fun i hi=> ?_⟩
 · have:=(h3 i hi).choose_spec.1
   obtain rfl:j=0:=by omega
   simp only [List.range_one,List.map_cons,List.map_nil]at this
   simp only [dif_pos hi]
   exact dO.of_eq (List.head_eq_of_cons_eq this)
 · simp only [dif_pos hi];exact(h3 i hi).choose_spec.2
theorem ok_bytes {av:AV} (h:okV (.sl 1 (.int .u8)) av):∃ (n cap:Nat) (f:Nat->Int),dO av (.vsl 1 n cap (aB f))/\n<=cap/\cap<=Go.maxLen/\∀ i,i<n->0<=f i/\f i<=255:=ok_ints h
theorem ok_int {k:IntKind} {av:AV} (h:okV (.int k) av):∃ n,av= .int k n/\k.min<=n/\n<=k.max:=by
 simp only [okV,okC]at h
 obtain⟨n,he,h1⟩:=h
 exact⟨n,List.head_eq_of_cons_eq he,h1⟩
theorem trod_len {H:Type} {enc:TypeId × Value->H} {P:Program} {W:World} {b0:Nat} {sp:Nat->Bool} {hd:Bool}:∀ {ts:List TypeId} {vs:List Value} {ds:List (DataW H)} {ps:List MemPlace},DataW.TrodAll enc P W b0 sp hd ts vs ds ps->ds.length=ts.length
 | [],[],[],_,_=>rfl
 | t::ts,v::vs,d::ds,ps,⟨p,q,h1,h2,_⟩=>by rw [List.length_cons,List.length_cons,trod_len h2]
theorem mD {α:Type} {l:List α} {n:Nat} (h:l.length=n+1):∃ d r,l=d::r/\r.length=n:=by
 cases l with
 | nil=>simp at h
 | cons d r=>exact ⟨d,r,rfl,by simpa using h⟩
theorem nil_of_len {α:Type} {l:List α} (h:l.length=0):l= [] :=by simpa using h
theorem law_open {H:Type} {enc:TypeId × Value->H} {P:Program} {f:FuncId} {W:World} {r:Reach} {b0:Nat} {tys:List Ty} {ts:List TypeId} {args:Array Value} {ds:List (DataW H)} {ps:List MemPlace} (hc:chkTys P tys ts=true)
 (hv:∀ (j:Nat) t v,ts[j]? = some t->args.toList[j]? = some v->Value.okWide P W r b0 t v) (hA:DataW.TrodAll enc P W 0 (fun _=>true) true ts args.toList ds ps)
 (S:∀ avs,okVs tys avs->∃ avs',kG avs avs'/\ACall P f avs' [] (fun x _=>x= .bool true)):
 Calls P f args W fun e W'=>e= .returned (.bool true)/\Below W.heap.size W W':=by
 obtain⟨avs,h1,h2⟩:=open_vals (L:=fun _=>none) (O:=fun _=>False) (fun _ h=>h) (fun _=>rfl) hc hv hA
 obtain⟨avs',h3,h4⟩:=S avs h1
 exact law_true h4 (h3 _ _ _ _ h2)
end Go.Wit
end

section
namespace Go.Wit
def det1 (fl:Bool):AV->Bool
 | .int _ _=>true
 | .bool _=>true
 | .str _=>true
 | .nilp=>true
 | .nils=>true
 | .nili=>true
 | .ptr _ _ _=> !fl
 | .sl _ _ n c=> !fl && Nat.blt 0 (c+n)
 | _=>false
def det2 (fl:Bool):AV->Bool
 | .agg cs=>cs.all (det1 fl)
 | v=>det1 fl v
def det3 (fl:Bool):AV->Bool
 | .tup cs=>cs.all (det2 fl)
 | v=>det2 fl v
section
variable {h h':Array Obj} {L L':Lay} {O O':Nat->Prop} {fl:Bool}
theorem det1_same {v:AV} {c c':Value} (hd:det1 fl v=true) (hL:∀ l e e',L l=some e->L' l=some e'->e=e') (h1:VR h L O v c) (h2:VR h' L' O' v c'):c=c':=by
  cases v <;> simp only [det1,Bool.false_eq_true,Bool.and_eq_true,Nat.blt_eq]at hd <;> (try (cases h1;cases h2;rfl))
  · cases h1 with
    | ptr _ _ _ e g1 => cases h2 with
      | ptr _ _ _ e' g2=>rw [hL _ _ _ g1 g2]
  · cases h1 with
    | sl0 _ _ a=>omega
    | sl0n _ _=>omega
    | sl _ _ _ _ e g1 g2 g3 => cases h2 with
      | sl0 _ _ a=>omega
      | sl0n _ _=>omega
      | sl _ _ _ _ e' k1 k2 k3=>rw [hL _ _ _ g1 k1]
theorem mB {v:AV} {c:Value} (hd:det1 fl v=true) (hL:fl=true\/∀ l e,L l=some e->L' l=some e) (h1:VR h L O v c):VR h' L' O' v c:=by
  cases v <;> simp only [det1,Bool.false_eq_true,Bool.and_eq_true,Nat.blt_eq]at hd
  · cases h1;exact .int _ _
  · cases h1;exact .bool _
  · cases h1;exact .str _
  · cases h1;exact .nilp
  · cases h1 with
    | ptr _ _ _ e g1 =>
      rcases hL with hL | hL
      · rw [hL]at hd;cases hd
      · exact .ptr _ _ _ e (hL _ _ g1)
  · cases h1;exact .nils
  · cases h1 with
    | sl0 _ _ a=>exact .sl0 _ _ a
    | sl0n _ _=>exact .sl0n _ _
    | sl _ _ _ _ e g1 g2 g3 =>
      rcases hL with hL | hL
      · rw [hL]at hd;cases hd.1
      · exact .sl _ _ _ _ e (hL _ _ g1) g2 g3
  · cases h1;exact .nili
theorem dets_same {d:AV->Bool} (hd1:∀ {v:AV} {c c':Value},d v=true->VR h L O v c->VR h' L' O' v c'->c=c'):∀ {cs:List AV} {vs vs':List Value},cs.all d=true->VRs h L O cs vs->VRs h' L' O' cs vs'->vs=vs'
  | [],_,_,_,h1,h2=>by cases h1;cases h2;rfl
  | c :: cs, _, _, hd, h1, h2 => by
    simp only [List.all_cons,Bool.and_eq_true]at hd
    cases h1 with
    | cons _ _ _ _ a1 a2 => cases h2 with
      | cons _ _ _ _ b1 b2=>rw [hd1 hd.1 a1 b1,dets_same hd1 hd.2 a2 b2]
theorem dets_move {d:AV->Bool} (hd1:∀ {v:AV} {c:Value},d v=true->VR h L O v c->VR h' L' O' v c):∀ {cs:List AV} {vs:List Value},cs.all d=true->VRs h L O cs vs->VRs h' L' O' cs vs
  | [],_,_,h1=>by cases h1;exact .nil
  | c :: cs, _, hd, h1 => by
    simp only [List.all_cons,Bool.and_eq_true]at hd
    cases h1 with
    | cons _ _ _ _ a1 a2=>exact .cons _ _ _ _ (hd1 hd.1 a1) (dets_move hd1 hd.2 a2)
theorem det2_same {v:AV} {c c':Value} (hd:det2 fl v=true) (hL:∀ l e e',L l=some e->L' l=some e'->e=e') (h1:VR h L O v c) (h2:VR h' L' O' v c'):c=c':=by
  unfold det2 at hd
  split at hd
  · cases h1 with
    | agg _ x a => cases h2 with
      | agg _ y b =>
        have:=dets_same (fun hd=>det1_same hd hL) hd a b
        rw [show x=y from by cases x;cases y;simp_all]
  · exact det1_same hd hL h1 h2
theorem uU {v:AV} {c:Value} (hd:det2 fl v=true) (hL:fl=true\/∀ l e,L l=some e->L' l=some e) (h1:VR h L O v c):VR h' L' O' v c:=by
 unfold det2 at hd
 split at hd
 · cases h1 with | agg _ x a=>exact .agg _ _ (dets_move (fun hd=>mB hd hL) hd a)
 · exact mB hd hL h1
theorem det3_same {v:AV} {c c':Value} (hd:det3 fl v=true) (hL:∀ l e e',L l=some e->L' l=some e'->e=e') (h1:VR h L O v c) (h2:VR h' L' O' v c'):c=c':=by
  unfold det3 at hd
  split at hd
  · cases h1 with
    | tup _ x a => cases h2 with
      | tup _ y b =>
        have:=dets_same (fun hd=>det2_same hd hL) hd a b
        rw [show x=y from by cases x;cases y;simp_all]
  · exact det2_same hd hL h1 h2
theorem det3_move {v:AV} {c:Value} (hd:det3 fl v=true) (hL:fl=true\/∀ l e,L l=some e->L' l=some e) (h1:VR h L O v c):VR h' L' O' v c:=by
 unfold det3 at hd
 split at hd
 · cases h1 with | tup _ x a=>exact .tup _ _ (dets_move (fun hd=>uU hd hL) hd a)
 · exact uU hd hL h1
end
def flt (v:AV):AV:=bif det3 true v then v else .un
theorem flt_vr {h h':Array Obj} {L L':Lay} {O O':Nat->Prop} {v:AV} {c:Value} (h1:VR h L O v c):VR h' L' O' (flt v) c:=by
 unfold flt
 cases hd:det3 true v with
 | true=>exact det3_move hd (.inl rfl) h1
 | false=>exact .un _
def nm0 (k:Nat):AV->Bool
 | .ptr l _ _=>Nat.blt l k
 | .sl l _ n c=>Nat.blt l k && Nat.blt 0 (c+n)
 | v=>det1 true v
def fl0 (k:Nat) (v:AV):AV:=bif nm0 k v then v else .un
theorem fl0_vr {h h':Array Obj} {L L':Lay} {O O':Nat->Prop} {k:Nat} {v:AV} {c:Value} (hL:∀ l e,l<k->L l=some e->L' l=some e) (h1:VR h L O v c):VR h' L' O' (fl0 k v) c:=by
  unfold fl0
  cases hd:nm0 k v with
  | false=>exact .un _
  | true =>
    show VR h' L' O' v c
    cases v with
    | ptr l i j =>
      simp only [nm0,Nat.blt_eq]at hd
      cases h1 with
      | ptr _ _ _ e g1=>exact .ptr _ _ _ e (hL _ _ hd g1)
    | sl l o n cp =>
      simp only [nm0,Bool.and_eq_true,Nat.blt_eq]at hd
      cases h1 with
      | sl0 _ _ a=>exact .sl0 _ _ a
      | sl0n _ _=>exact .sl0n _ _
      | sl _ _ _ _ e g1 g2 g3=>exact .sl _ _ _ _ e (hL _ _ hd.1 g1) g2 g3
    | _=>exact mB (fl:=true) hd (.inl rfl) h1
def uJ:AOp->Bool
 | .mv _=>true
 | .ext _ _=>true
 | .fldA _ _=>true
 | _=>false
theorem nZ {P:Program} {o:Oper} {ao:AOp} {ev:Operand->Value} {w:World} {r:Value} (hc:dT P o.op ao=true) (hr:uJ ao=true) (h:(execOp ev o).run P w= .ok (.value r) w) (w':World):(execOp ev o).run P w'= .ok (.value r) w':=by
  cases ao <;> simp only [uJ,Bool.false_eq_true]at hr
  · cases hop:o.op <;> rw [hop]at hc <;> (try (simp [dT]at hc;done))
    all_goals
      simp only [execOp,hop,Sem.run_pure,Result.ok.injEq,and_true]at h ⊢
      try exact h
  · rename_i off x'
    cases hop:o.op <;> rw [hop]at hc <;> (try (simp [dT]at hc;done))
    rename_i s x f
    simp only [dT,Bool.and_eq_true]at hc
    have hf:=hc.1
    unfold fieldB at hf
    split at hf
    · rename_i fs hu
      split at hf
      · rename_i fd hfd
        simp only [Bool.and_eq_true,beq_iff_eq]at hf
        obtain⟨hoff,hsz⟩:=hf
        split at hsz
        · rename_i inf hinf
          have hsz':¬ inf.size=0:=by simpa using hsz
          have hrun:∀ (ad:Addr),ev x= .pointer (some ad)->∀ w,(execOp ev o).run P w= .ok (.value (.pointer (some (ad.add off)))) w:=by
            intro ad hr w
            simp [execOp,hop,hr,Instr.fieldAt,run_underlying hu,hfd,Instr.sureAddr,fieldPlace,sizeOf,typeInfo,hinf,hsz',hoff]
          cases hv:ev x with
          | pointer a =>
            cases a with
            | none=>simp [execOp,hop,hv,Instr.fieldAt,run_underlying hu,hfd,Instr.sureAddr,fieldPlace,sizeOf,typeInfo,hinf,hsz',hoff]at h
            | some ad =>
              rw [hrun ad hv]at h ⊢
              injection h with h1 h2
              rw [h1]
          | _=>simp [execOp,hop,hv,Instr.fieldAt,run_underlying hu,hfd,Instr.sureAddr,fieldPlace,sizeOf,typeInfo,hinf,hsz',hoff,stuck]at h
        · simp at hsz
      · simp at hf
    · simp at hf
  · cases hop:o.op <;> rw [hop]at hc <;> (try (simp [dT]at hc;done))
    simp only [execOp,hop,Instr.extract]at h ⊢
    split at h
    · split at h
      · simp only [Sem.run_bind,Sem.run_pure,Result.andThen_ok,Result.ok.injEq,and_true]at h ⊢
        exact h
      · simp [stuck]at h
    · simp [stuck]at h
end Go.Wit
end

section
namespace Go.Wit
structure HB where
 i:Nat
 d:Nat
 val:Nat->AV
 blk:Blk
 e:LE
def XH (C:Ctx) (hs:List HB) (b:Nat):Prop:=C.X b\/∃ h,h ∈ hs/\0<h.e.tot/\h.e.b=b
def CX (C:Ctx) (hs:List HB) (m:Mem) (w:World) (L:Lay):Ctx:=⟨XH C hs,w,own m L,L,m.length⟩
structure HOk (C:Ctx) (h:HB) (a:Act) (w:World):Prop where
 es:h.e.es=h.blk.es
 n:h.blk.n<=h.e.tot
 det:∀ i j,i<h.blk.n->j<h.blk.es->det1 true (h.blk.get i j)=true
 cells:0<h.e.tot->∃ c T,w.heap[h.e.b]? = some (.cells c T (0,0))/\c.size=h.e.tot*h.e.es/\C.w0.heap.size<=h.e.b/\
  ∀ i j,i<h.blk.n->j<h.blk.es->∃ v,c[i*h.blk.es+j]? = some v/\VR #[] (fun _=>none) (fun _=>False) (h.blk.get i j) v/\v.oneCell'=true
 val:∀ (heap:Array Obj) (L:Lay) (O:Nat->Prop) l,L l=some h.e->VR heap L O (h.val l) (a.tmps.getD h.d undef)
structure HRel (C:Ctx) (n:Nat) (hs:List HB) (e:Env) (m:Mem) (a:Act) (w:World) (L:Lay):Prop where
 size:a.tmps.size=n
 defers:a.defers= []
 memC:MRel C m w L
 memX:MRel (CX C hs m w L) m w L
 env:ERel (CX C hs m w L) e m a w L
 hid:∀ h,h ∈ hs->HOk C h a w
 pair:hs.Pairwise fun h h'=>0<h.e.tot->0<h'.e.tot->h.e.b ≠ h'.e.b
section
variable {P:Program} {C:Ctx} {n:Nat} {hs:List HB} {m m':Mem} {w w':World} {L L':Lay} {e e':Env} {a a':Act}
theorem VR.less {h:Array Obj} {O O':Nat->Prop} (hO:∀ b,O' b->O b) {v:AV} {c:Value} (hv:VR h L O v c):VR h L O' v c:=
 hv.ext ⟨fun _ _ h=>h,fun _ _ _=>rfl,fun b _ hn hb=>hn (hO b hb)⟩
theorem MRel.backX {X':Nat->Prop} (hR:MRel C m w L) (h:MRel ⟨X',w,own m L,L,m.length⟩ m' w' L') (hX:∀ b,C.X b->X' b):MRel C m' w' L':=by
 have hold:∀ b,own m L b->C.w0.heap.size<=b\/C.O0 b:=by
  rintro b ⟨l,blk,e,h1,h2,h3,rfl⟩
  obtain⟨e',g1,g2,g3,g0⟩:=hR.blk l blk h1
  rw [h2]at g1;obtain rfl:=Option.some.inj g1
  obtain⟨c,T,g4,g5,g6,g7⟩:=g0 h3
  exact g6
 have hs:=hR.size
 have hs':w.heap.size<=w'.heap.size:=h.size
 refine⟨h.os.trans hR.os,h.tape.trans hR.tape,h.output.trans hR.output,by omega,fun b hb hO=> ?_,h.lay,fun l blk hl=> ?_,h.inj,fun l hl=> ?_,hR.xlt,fun b hb hx=>h.notX b hb (hX b hx)⟩
 · have:¬ own m L b:=fun ho=>(hold b ho).elim (fun h=>by omega) hO
   exact(h.frame b (by show b<w.heap.size;omega) this).trans (hR.frame b hb hO)
 · obtain⟨e,h1,h2,h3,h0⟩:=h.blk l blk hl
   refine⟨e,h1,h2,h3,fun ht=> ?_⟩
   obtain⟨c,T,h4,h5,h6,h7⟩:=h0 ht
   refine⟨c,T,h4,h5,?_,fun i j hi hj=> ?_⟩
   · rcases h6 with h6 | h6
     · exact .inl (by have:w.heap.size<=e.b:=h6;omega)
     · exact hold _ h6
   · obtain⟨v,k1,k2,k3⟩:=h7 i j hi hj
     exact⟨v,k1,k2.less (fun b hb=>hb.imp (hX b) id),k3⟩
 · obtain⟨g1,g2⟩:=hR.base l hl
   obtain⟨g3,g4⟩:=h.base l g1
   exact⟨g3,g4.trans g2⟩
theorem HRel.start (hr:Rel C n e m a w L):HRel (C.here m w L) n [] e m a w L:=by
 have hh:=hr.mem.here
 have hX:XH (C.here m w L) [] = (C.here m w L).X:=by
  funext b;apply propext
  exact⟨fun h=>h.elim id (fun⟨h,hm,_⟩=>by simp at hm),.inl⟩
 have hcx:CX (C.here m w L) [] m w L=C.here m w L:=by
  simp only [CX,hX];rfl
 refine⟨hr.size,hr.defers,hh,by rw [hcx];exact hh,?_,fun h hm=>by simp at hm,.nil⟩
 rw [hcx];exact hr.env
theorem HRel.xlt (H:HRel C n hs e m a w L) {b:Nat} (hb:XH C hs b):b<w.heap.size:=H.memX.xlt b hb
theorem HRel.step (H:HRel C n hs e m a w L) (hM:MRel (CX C hs m w L) m' w' L') (hE:ERel (CX C hs m w L) e' m' a' w' L') (hsz:a'.tmps.size=n) (hdf:a'.defers= [])
 (hd:∀ h,h ∈ hs->a'.tmps.getD h.d undef=a.tmps.getD h.d undef):HRel C n hs e' m' a' w' L':=by
 refine⟨hsz,hdf,H.memC.backX hM (fun b hb=> .inl hb),hM.here,hE,fun h hm=> ?_,H.pair⟩
 obtain⟨h1,h2,h2',h3,h4⟩:=H.hid h hm
 refine⟨h1,h2,h2',fun ht=> ?_,fun heap L O l hl=>by rw [hd h hm];exact h4 heap L O l hl⟩
 obtain⟨c,T,g1,g2,g3,g4⟩:=h3 ht
 refine⟨c,T,?_,g2,g3,g4⟩
 rw [<- g1]
 exact hM.frame _ (Array.getElem?_eq_some_iff.1 g1).1 (fun ho=>H.memX.notX _ ho (.inr ⟨h,hm,ht,rfl⟩))
theorem HRel.poke (H:HRel C n hs e m a w L) (hs':List HB) (hX1:∀ b,XH C hs b->XH C hs' b) (hX2:∀ b,b<w.heap.size->XH C hs' b->XH C hs b) (hlt:∀ b,XH C hs' b->b<w'.heap.size)
 (hos:w'.os=w.os) (htp:w'.tape=w.tape) (hout:w'.output=w.output) (hsz:w.heap.size<=w'.heap.size)
 (hheap:∀ b,b<w.heap.size->(∀ h,h ∈ hs->0<h.e.tot->h.e.b ≠ b)->w'.heap[b]? = w.heap[b]?):MRel C m w' L/\MRel (CX C hs' m w' L) m w' L/\ERel (CX C hs' m w' L) e m a w' L:=by
 have hx:Ext w.heap L (OO (CX C hs m w L) m L) w'.heap L (OO (CX C hs' m w' L) m L):=by
  refine⟨fun _ _ h=>h,fun b hb hO=>hheap b hb (fun h hm ht hbb=>hO (.inl (.inr ⟨h,hm,ht,hbb⟩))),fun b hb hO hO'=> ?_⟩
  rcases hO' with h1 | h1
  · exact hO (.inl (hX2 b hb h1))
  · exact hO (.inr h1)
 have hblk:∀ l blk,m[l]? = some (some blk)->∃ e,L l=some e/\e.es=blk.es/\blk.n<=e.tot/\(0<e.tot->∃ c T,w'.heap[e.b]? = some (.cells c T (0,0))/\c.size=e.tot*e.es/\own m L e.b/\
  ∀ i j,i<blk.n->j<blk.es->∃ v,c[i*blk.es+j]? = some v/\VR w'.heap L (OO (CX C hs' m w' L) m L) (blk.get i j) v/\v.oneCell'=true):=by
  intro l blk hl
  obtain⟨e,g1,g2,g3,g0⟩:=H.memX.blk l blk hl
  refine⟨e,g1,g2,g3,fun ht=> ?_⟩
  obtain⟨c,T,k1,k2,k3,k4⟩:=g0 ht
  have ho:own m L e.b:=⟨l,blk,e,hl,g1,ht,rfl⟩
  refine⟨c,T,?_,k2,ho,fun i j hi hj=> ?_⟩
  · rw [<- k1]
    exact hheap _ (Array.getElem?_eq_some_iff.1 k1).1 (fun h hm ht' hbb=>H.memX.notX _ ho (.inr ⟨h,hm,ht',hbb⟩))
  · obtain⟨v,q1,q2,q3⟩:=k4 i j hi hj
    exact⟨v,q1,q2.ext hx,q3⟩
 refine⟨?_,?_,fun t=>(H.env t).ext hx⟩
 · have hsC:=H.memC.size
   refine⟨hos.trans H.memC.os,htp.trans H.memC.tape,hout.trans H.memC.output,by omega,fun b hb hO=> ?_,H.memC.lay,fun l blk hl=> ?_,H.memC.inj,H.memC.base,H.memC.xlt,H.memC.notX⟩
   · rw [<- H.memC.frame b hb hO]
     refine hheap b (by omega) (fun h hm ht hbb=> ?_)
     obtain⟨_,_,_,hcl,_⟩:=H.hid h hm
     obtain⟨c,T,_,_,g3,_⟩:=hcl ht
     omega
   · obtain⟨e,g1,g2,g3,g0⟩:=hblk l blk hl
     obtain⟨e',q1,_,_,q0⟩:=H.memC.blk l blk hl
     rw [g1]at q1;obtain rfl:=Option.some.inj q1
     refine⟨e,g1,g2,g3,fun ht=> ?_⟩
     obtain⟨c,T,k1,k2,k3,k4⟩:=g0 ht
     obtain⟨_,_,_,_,r3,_⟩:=q0 ht
     refine⟨c,T,k1,k2,r3,fun i j hi hj=> ?_⟩
     obtain⟨v,s1,s2,s3⟩:=k4 i j hi hj
     exact⟨v,s1,s2.less (fun b hb=>hb.imp (fun h=>hX1 b (.inl h)) id),s3⟩
 · refine⟨rfl,rfl,rfl,Nat.le_refl _,fun _ _ _=>rfl,H.memX.lay,fun l blk hl=> ?_,H.memX.inj,fun l hl=>⟨hl,rfl⟩,hlt,fun b ho hx'=> ?_⟩
   · obtain⟨e,g1,g2,g3,g0⟩:=hblk l blk hl
     refine⟨e,g1,g2,g3,fun ht=> ?_⟩
     obtain⟨c,T,k1,k2,k3,k4⟩:=g0 ht
     exact⟨c,T,k1,k2,.inr k3,k4⟩
   · exact H.memX.notX b ho (hX2 b (own_lt H.memC ho) hx')
theorem HRel.tell {h:HB} (H:HRel C n (h::hs) e m a w L):∃ L2,HRel C n hs (e.set h.d (h.val m.length)) (m++ [some h.blk]) a w L2:=by
  obtain⟨h1,h2,hdet,h3,h4⟩:=H.hid h (.head _)
  let L2:Lay:=fun l=>if l=m.length then some h.e else L l
  have hLe:∀ l e,L l=some e->L2 l=some e:=by
    intro l e hl
    have:l ≠ m.length:=by rintro rfl;rw [H.memC.lay _ (Nat.le_refl _)]at hl;cases hl
    simp only [L2,if_neg this];exact hl
  have hget:∀ l b,(m++ [some h.blk])[l]? = some (some b)->(l<m.length/\m[l]? = some (some b)/\L2 l=L l)\/(l=m.length/\b=h.blk/\L2 l=some h.e):=by
    intro l b hl
    by_cases hlt:l<m.length
    · rw [List.getElem?_append_left hlt]at hl
      exact .inl ⟨hlt,hl,by simp only [L2,if_neg (Nat.ne_of_lt hlt)]⟩
    · rw [List.getElem?_append_right (by omega)]at hl
      cases hq:l - m.length with
      | zero =>
        rw [hq]at hl
        simp only [List.getElem?_cons_zero,Option.some.injEq]at hl
        have:l=m.length:=by omega
        exact .inr ⟨this,hl.symm,by simp only [L2,if_pos this]⟩
      | succ q=>rw [hq]at hl;simp at hl
  have hown:∀ b,own (m++ [some h.blk]) L2 b ↔ (own m L b\/(0<h.e.tot/\h.e.b=b)):=by
    intro b
    constructor
    · rintro⟨l,blk,e,g1,g2,g3,g4⟩
      rcases hget l blk g1 with⟨k1,k2,k3⟩ | ⟨k1,k2,k3⟩
      · exact .inl ⟨l,blk,e,k2,by rw [<- k3];exact g2,g3,g4⟩
      · rw [k3]at g2;obtain rfl:=Option.some.inj g2
        exact .inr ⟨g3,g4⟩
    · rintro(⟨l,blk,e,g1,g2,g3,g4⟩ | ⟨g3,g4⟩)
      · exact⟨l,blk,e,by rw [List.getElem?_append_left (bT g1)];exact g1,hLe _ _ g2,g3,g4⟩
      · exact⟨m.length,h.blk,h.e,by simp,by simp only [L2,if_pos trivial],g3,g4⟩
  have hOO:∀ b,OO (CX C hs (m++ [some h.blk]) w L2) (m++ [some h.blk]) L2 b ↔ OO (CX C (h::hs) m w L) m L b:=by
    intro b
    simp only [OO,CX,hown,XH,List.mem_cons]
    constructor
    · rintro((h1 | ⟨q,hq,h2⟩) | (h1 | h1))
      · exact .inl (.inl h1)
      · exact .inl (.inr ⟨q,.inr hq,h2⟩)
      · exact .inr h1
      · exact .inl (.inr ⟨h,.inl rfl,h1⟩)
    · rintro((k1 | ⟨q,hq0 | hq,k2⟩) | k1)
      · exact .inl (.inl k1)
      · exact .inr (.inr (by rw [hq0]at k2;exact k2))
      · exact .inl (.inr ⟨q,hq,k2⟩)
      · exact .inr (.inl k1)
  have hext:∀ {v c},VR w.heap L (OO (CX C (h::hs) m w L) m L) v c->VR w.heap L2 (OO (CX C hs (m++ [some h.blk]) w L2) (m++ [some h.blk]) L2) v c:=fun {v c} hv=>
    hv.ext ⟨hLe,fun _ _ _=>rfl,fun b _ hn hb=>hn ((hOO b).1 hb)⟩
  have hpw:=List.pairwise_cons.1 H.pair
  have hnot:∀ b,own m L b->0<h.e.tot->h.e.b ≠ b:=fun b ho ht hb=>H.memX.notX b ho (.inr ⟨h,.head _,ht,hb⟩)
  have hinj:∀ l l' b b' e e',(m++ [some h.blk])[l]? = some (some b)->(m++ [some h.blk])[l']? = some (some b')->L2 l=some e->L2 l'=some e'->0<e.tot->0<e'.tot->e.b=e'.b->l=l':=by
    intro l l' b b' e e' g1 g2 g3 g4 t1 t2 g5
    rcases hget l b g1 with⟨k1,k2,k3⟩ | ⟨k1,k2,k3⟩ <;> rcases hget l' b' g2 with⟨q1,q2,q3⟩ | ⟨q1,q2,q3⟩
    · exact H.memC.inj l l' b b' e e' k2 q2 (by rw [<- k3];exact g3) (by rw [<- q3];exact g4) t1 t2 g5
    · rw [q3]at g4;obtain rfl:=Option.some.inj g4
      exact(hnot e.b ⟨l,b,e,k2,by rw [<- k3];exact g3,t1,rfl⟩ t2 g5.symm).elim
    · rw [k3]at g3;obtain rfl:=Option.some.inj g3
      exact(hnot e'.b ⟨l',b',e',q2,by rw [<- q3];exact g4,t2,rfl⟩ t1 g5).elim
    · omega
  have hlay:∀ l,(m++ [some h.blk]).length<=l->L2 l=none:=by
    intro l hl
    simp only [List.length_append,List.length_cons,List.length_nil]at hl
    simp only [L2,if_neg (show l ≠ m.length by omega)]
    exact H.memC.lay l (by omega)
  have hblk:∀ l blk,(m++ [some h.blk])[l]? = some (some blk)->∃ e,L2 l=some e/\e.es=blk.es/\blk.n<=e.tot/\(0<e.tot->∃ c T,w.heap[e.b]? = some (.cells c T (0,0))/\c.size=e.tot*e.es/\(C.w0.heap.size<=e.b\/C.O0 e.b)/\
      ∀ i j,i<blk.n->j<blk.es->∃ v,c[i*blk.es+j]? = some v/\VR w.heap L2 (OO (CX C hs (m++ [some h.blk]) w L2) (m++ [some h.blk]) L2) (blk.get i j) v/\v.oneCell'=true):=by
    intro l blk hl
    rcases hget l blk hl with⟨k1,k2,k3⟩ | ⟨k1,rfl,k3⟩
    · obtain⟨e,g1,g2,g3,g0⟩:=H.memX.blk l blk k2
      obtain⟨e',q1,_,_,q0⟩:=H.memC.blk l blk k2
      rw [g1]at q1;obtain rfl:=Option.some.inj q1
      refine⟨e,by rw [k3];exact g1,g2,g3,fun ht=> ?_⟩
      obtain⟨c,T,r1,r2,r3,r4⟩:=g0 ht
      obtain⟨_,_,_,_,s3,_⟩:=q0 ht
      refine⟨c,T,r1,r2,s3,fun i j hi hj=> ?_⟩
      obtain⟨v,s1,s2,s3⟩:=r4 i j hi hj
      exact⟨v,s1,hext s2,s3⟩
    · refine⟨h.e,k3,h1,h2,fun ht=> ?_⟩
      obtain⟨c,T,r1,r2,r3,r4⟩:=h3 ht
      refine⟨c,T,r1,r2,.inl r3,fun i j hi hj=> ?_⟩
      obtain⟨v,s1,s2,s3⟩:=r4 i j hi hj
      exact⟨v,s1,mB (hdet i j hi hj) (.inl rfl) s2,s3⟩
  refine⟨L2,H.size,H.defers,?_,?_,fun t=> ?_,fun q hq=> ?_,hpw.2⟩
  · refine⟨H.memC.os,H.memC.tape,H.memC.output,H.memC.size,H.memC.frame,hlay,fun l blk hl=> ?_,hinj,fun l hl=> ?_,H.memC.xlt,fun b hb=> ?_⟩
    · obtain⟨e,g1,g2,g3,g0⟩:=hblk l blk hl
      refine⟨e,g1,g2,g3,fun ht=> ?_⟩
      obtain⟨c,T,r1,r2,r3,r4⟩:=g0 ht
      refine⟨c,T,r1,r2,r3,fun i j hi hj=> ?_⟩
      obtain⟨v,s1,s2,s3⟩:=r4 i j hi hj
      exact⟨v,s1,s2.less (fun b hb=>hb.imp .inl id),s3⟩
    · obtain⟨g1,g2⟩:=H.memC.base l hl
      exact⟨by simp;omega,by simp only [L2,if_neg (Nat.ne_of_lt g1)];exact g2⟩
    · rcases(hown b).1 hb with h5 | ⟨h5,h6⟩
      · exact H.memC.notX b h5
      · intro hx
        have:=H.memC.xlt b hx
        obtain⟨c,T,r1,r2,r3,r4⟩:=h3 h5
        omega
  · refine⟨rfl,rfl,rfl,Nat.le_refl _,fun _ _ _=>rfl,hlay,fun l blk hl=> ?_,hinj,fun l hl=>⟨hl,rfl⟩,fun b hb=> ?_,fun b hb hx=> ?_⟩
    · obtain⟨e,g1,g2,g3,g0⟩:=hblk l blk hl
      refine⟨e,g1,g2,g3,fun ht=> ?_⟩
      obtain⟨c,T,r1,r2,r3,r4⟩:=g0 ht
      exact⟨c,T,r1,r2,.inr ⟨l,blk,e,hl,g1,ht,rfl⟩,r4⟩
    · exact H.memX.xlt b (by rcases hb with hb | ⟨q,hq,h5⟩;exact .inl hb;exact .inr ⟨q,.tail _ hq,h5⟩)
    · rcases(hown b).1 hb with h5 | ⟨h5,h6⟩
      · exact H.memX.notX b h5 (by rcases hx with hx | ⟨q,hq,h7⟩;exact .inl hx;exact .inr ⟨q,.tail _ hq,h7⟩)
      · rcases hx with hx | ⟨q,hq,h7,h8⟩
        · have:=H.memC.xlt b hx
          obtain⟨c,T,r1,r2,r3,r4⟩:=h3 h5
          omega
        · exact hpw.1 q hq h5 h7 (h6.trans h8.symm)
  · rcases Env.set_upd e h.d (h.val m.length) t with h5 | ⟨h5,h6⟩ | ⟨h5,h6⟩
    · rw [h5];exact .un _
    · rw [h6];exact hext (H.env t)
    · rw [h6,h5];exact h4 _ _ _ _ (by simp only [L2,if_pos trivial])
  · exact H.hid q (.tail _ hq)
end
end Go.Wit
end

section
namespace Go.Wit
theorem Env.setF_get:∀ (f:Nat) (e:Env) (n:Nat) (v:AV) (t:Nat),n+1<2 ^ f->t+1<2 ^ f->(Env.setF f e n v).get t=if t=n then v else e.get t
  | 0,e,n,v,t,h1,_=>by simp at h1
  | f + 1, e0, n, v, t, h1, h2 => by
    obtain⟨l,u,r,he,hs⟩:=Env.node_eta e0 t
    rw [hs,he t]
    have h1':n+1<2*2 ^ f:=by rw [Nat.pow_succ]at h1;omega
    have h2':t+1<2*2 ^ f:=by rw [Nat.pow_succ]at h2;omega
    unfold Env.setF
    rcases Nat.eq_zero_or_pos n with hn | hn
    · subst hn
      simp only [beq_self_eq_true,cond_true]
      rcases Nat.eq_zero_or_pos t with ht | ht
      · subst ht;rw [if_pos rfl,Env.get_node0]
      · rw [if_neg (by omega)]
        by_cases hp:t % 2=1
        · rw [Env.get_node1 _ _ _ hp,Env.get_node1 _ _ _ hp]
        · rw [Env.get_node2 _ _ _ (by omega) (by omega),Env.get_node2 _ _ _ (by omega) (by omega)]
    · have h0:(n == 0)=false:=by simp;omega
      simp only [h0,cond_false]
      by_cases hp:n % 2=1
      · have hp':(n % 2 == 1)=true:=by simp [hp]
        simp only [hp',cond_true]
        rcases Nat.eq_zero_or_pos t with ht | ht
        · subst ht;rw [if_neg (by omega),Env.get_node0,Env.get_node0]
        · by_cases hq:t % 2=1
          · rw [Env.get_node1 _ _ _ hq,Env.get_node1 _ _ _ hq,Env.setF_get f l (n / 2) v (t / 2) (by omega) (by omega)]
            by_cases htn:t=n
            · subst htn;simp
            · rw [if_neg htn,if_neg (by omega)]
          · rw [Env.get_node2 _ _ _ (by omega) (by omega),Env.get_node2 _ _ _ (by omega) (by omega),if_neg (by omega)]
      · have hp':(n % 2 == 1)=false:=by simp;omega
        simp only [hp',cond_false]
        rcases Nat.eq_zero_or_pos t with ht | ht
        · subst ht;rw [if_neg (by omega),Env.get_node0,Env.get_node0]
        · by_cases hq:t % 2=1
          · rw [Env.get_node1 _ _ _ hq,Env.get_node1 _ _ _ hq,if_neg (by omega)]
          · rw [Env.get_node2 _ _ _ (by omega) (by omega),Env.get_node2 _ _ _ (by omega) (by omega),Env.setF_get f r (n / 2 - 1) v (t / 2 - 1) (by omega) (by omega)]
            by_cases htn:t=n
            · subst htn;simp
            · rw [if_neg htn,if_neg (by omega)]
theorem Env.set_get {e:Env} {n t:Nat} {v:AV} (hn:n<4000) (ht:t<4000):(e.set n v).get t=if t=n then v else e.get t:=Env.setF_get 12 e n v t (by omega) (by omega)
def fOf:AOpr->Option (Nat × (Nat->AV) × Blk)
  | ⟨some d,.alloc es n zs,none⟩=>bif zs.all (det1 true) && (zs.length == es)then some (d,fun l=> .ptr l 0 0,⟨es,n,fun _ j=>zs.getD j .un⟩)else none
  | ⟨some d, .mksl es bytes zs (.c (.int _ a)) (.c (.int _ c)), none⟩ =>
    bif zs.all (det1 true) && ((zs.length == es) && (decide (0<=a) && (decide (a<=c) && decide (c*bytes<=281474976710656/\c<=281474976710656))))then
      some (d,fun l=> .sl l 0 a.toNat c.toNat,⟨es,c.toNat,fun _ j=>zs.getD j .un⟩)else none
  | _=>none
theorem aBt {zs:List AV} {es j:Nat} (h:zs.all (det1 true)=true) (hl:zs.length=es) (hj:j<es):det1 true (zs.getD j .un)=true:=by
 rw [List.getD,List.getElem?_eq_getElem (by omega)]
 exact List.all_eq_true.1 h _ (List.getElem_mem _)
theorem fOf_spec {P:Program} {ao:AOpr} {d:Nat} {val:Nat->AV} {blk:Blk} (h:fOf ao=some (d,val,blk)):
    ao.dst=some d/\ao.guard=none/\uH P ao.op Env.nil [] (fun v m=>v=val 0/\m= [some blk])/\(∀ i j,j<blk.es->det1 true (blk.get i j)=true)/\
    ∀ (heap heap':Array Obj) (L L':Lay) (O O':Nat->Prop) l l' e r,VR heap L O (val l) r->L l=some e->L' l'=some e->VR heap' L' O' (val l') r:=by
  unfold fOf at h
  split at h
  · rename_i d' es n zs
    cases hb:zs.all (det1 true) && (zs.length == es)with
    | false=>rw [hb]at h;cases h
    | true =>
      rw [hb]at h
      simp only [cond_true,Option.some.injEq,Prod.mk.injEq]at h
      obtain⟨rfl,rfl,rfl⟩:=h
      simp only [Bool.and_eq_true,beq_iff_eq]at hb
      refine⟨rfl,rfl,?_,fun i j hj=>aBt hb.1 hb.2 hj,fun heap heap' L L' O O' l l' e r hv h1 h2=> ?_⟩
      · simp only [uH,evD,newV,dG,updK_eq]
        exact⟨rfl,rfl⟩
      · cases hv with
        | ptr _ _ _ e' g=>rw [h1]at g;obtain rfl:=Option.some.inj g;exact .ptr _ _ _ _ h2
  · rename_i d' es bytes zs k a k' c
    cases hb:zs.all (det1 true) && ((zs.length == es) && (decide (0<=a) && (decide (a<=c) && decide (c*bytes<=281474976710656/\c<=281474976710656))))with
    | false=>rw [hb]at h;cases h
    | true =>
      rw [hb]at h
      simp only [cond_true,Option.some.injEq,Prod.mk.injEq]at h
      obtain⟨rfl,rfl,rfl⟩:=h
      simp only [Bool.and_eq_true,beq_iff_eq]at hb
      refine⟨rfl,rfl,?_,fun i j hj=>aBt hb.1 hb.2.1 hj,fun heap heap' L L' O O' l l' e r hv h1 h2=> ?_⟩
      · simp only [uH,evD,Opn.ev,hb.2.2.1,hb.2.2.2.1,hb.2.2.2.2,Bool.and_self,dG,updK_eq]
        exact⟨rfl,rfl⟩
      · generalize hv':(fun l=>AV.sl l 0 a.toNat c.toNat) l=u at hv
        cases hv with
        | sl0 _ _ ad=>simp only [AV.sl.injEq]at hv';obtain⟨_,_,h3,h4⟩:=hv';simp only [h3,h4];exact .sl0 _ _ _
        | sl0n _ _=>simp only [AV.sl.injEq]at hv';obtain⟨_,_,h3,h4⟩:=hv';simp only [h3,h4];exact .sl0n _ _
        | sl _ _ _ _ e' g1 g2 g3 =>
          simp only [AV.sl.injEq]at hv'
          obtain⟨rfl,rfl,rfl,rfl⟩:=hv'
          rw [h1]at g1;obtain rfl:=Option.some.inj g1
          exact .sl _ _ _ _ _ h2 g2 g3
        | _=>cases hv'
  · cases h
section
variable {P:Program} {C:Ctx} {n:Nat} {hs:List HB} {m m':Mem} {w w':World} {L L':Lay} {e e':Env} {a a':Act} {o:Oper} {ao:AOpr}
theorem put_get {d:Nat} {r:Value} (hd:d<a.tmps.size):(a.put (some d) r).tmps.getD d undef=r:=by
 simp only [Act.put,Array.getD_eq_getD_getElem?,Array.getElem?_setIfInBounds]
 simp [hd]
theorem dX {d t:Nat} {r:Value} (hd:t ≠ d):(a.put (some d) r).tmps.getD t undef=a.tmps.getD t undef:=by
 simp only [Act.put,Array.getD_eq_getD_getElem?,Array.getElem?_setIfInBounds]
 rw [if_neg (fun h=>hd h.symm)]
theorem HRel.make (H:HRel C n hs e m a w L) {i d:Nat} {val:Nat->AV} {blk:Blk} (hc:dT P o.op ao.op=true) (hdst:o.dst=ao.dst) (hf:fOf ao=some (d,val,blk)) (hdn:d<n) (he:e.get d= .un) (hds:∀ h,h ∈ hs->h.d ≠ d)
 {next:Act->World->Prop} {Q:Exit->Act->World->Prop} (hnext:∀ h r w',h.i=i->h.d=d->h.val=val->h.blk=blk->HRel C n (h::hs) e m (a.put (some d) r) w' L->next (a.put o.dst r) w'):o.wp P a w next Q:=by
 obtain⟨f1,f2,f3,f4,f5⟩:=fOf_spec (P:=P) hf
 let C0:Ctx:=⟨fun b=>b<w.heap.size,w,fun _=>False,fun _=>none,0⟩
 have hR0:MRel C0 [] w (fun _=>none):=⟨rfl,rfl,rfl,Nat.le_refl _,fun _ _ _=>rfl,fun _ _=>rfl,fun l b hl=>by simp at hl,fun l l' b b' e e' hl=>by simp at hl,fun l hl=>absurd hl (Nat.not_lt_zero _),fun b hb=>hb,fun b hb=>by
  obtain⟨l,blk,e,h1,_⟩:=hb;simp at h1⟩
 refine run_sound hR0 (e:=Env.nil) (fun t=>by rw [Env.get_nil];exact .un _) hc f3 (fun v m' r w' L' hk hM hE' hv=> ?_)
 obtain⟨rfl,rfl⟩:=hk
 obtain⟨e1,g1,g2,g3,g0⟩:=hM.blk 0 blk rfl
 have hframe:∀ b,b<w.heap.size->w'.heap[b]? = w.heap[b]? :=fun b hb=>hM.frame b hb (fun h=>h)
 have hnew:0<e1.tot->w.heap.size<=e1.b/\e1.b<w'.heap.size:=fun ht=>by
  obtain⟨c,T,k1,k2,k3,k4⟩:=g0 ht
  exact⟨k3.elim id False.elim,(Array.getElem?_eq_some_iff.1 k1).1⟩
 have hsz:w.heap.size<=w'.heap.size:=hM.size
 obtain⟨p1,p2,p3⟩:=H.poke (⟨i,d,val,blk,e1⟩::hs) (w':=w') (fun b hb=>hb.imp id (fun⟨q,hq,hb⟩=>⟨q,.tail _ hq,hb⟩)) (fun b hb hx=>by
  rcases hx with hx | ⟨q,hq,h1,h2⟩
  · exact .inl hx
  · rcases List.mem_cons.1 hq with rfl | hq
    · have:=hnew h1;simp only at h2;omega
    · exact .inr ⟨q,hq,h1,h2⟩) (fun b hx=>by
  rcases hx with hx | ⟨q,hq,h1,h2⟩
  · have:=H.xlt (.inl hx);omega
  · rcases List.mem_cons.1 hq with rfl | hq
    · have:=hnew h1;simp only at h2;omega
    · have:=H.xlt (.inr ⟨q,hq,h1,h2⟩);omega) hM.os hM.tape hM.output hsz (fun b hb _=>hframe b hb)
 rw [hdst,f1]at hnext ⊢
 have hda:d<a.tmps.size:=by rw [H.size];exact hdn
 refine hnext ⟨i,d,val,blk,e1⟩ r w' rfl rfl rfl rfl ⟨by rw [mW];exact H.size,by rw [Wit.put_defers];exact H.defers,p1,p2,fun t=> ?_,fun h hh=> ?_,?_⟩
 · by_cases ht:t=d
   · rw [ht,he];exact .un _
   · rw [dX ht];exact p3 t
 · rcases List.mem_cons.1 hh with rfl | hh
   · refine⟨g2,g3,fun i j _ hj=>f4 i j hj,fun ht=> ?_,fun heap L2 O2 l hl=> ?_⟩
     · obtain⟨c,T,k1,k2,k3,k4⟩:=g0 ht
       refine⟨c,T,k1,k2,Nat.le_trans H.memC.size (hnew ht).1,fun i j hi hj=> ?_⟩
       obtain⟨v,q1,q2,q3⟩:=k4 i j hi hj
       exact⟨v,q1,mB (f4 i j hj) (.inl rfl) q2,q3⟩
     · simp only
       rw [put_get hda]
       exact f5 _ _ _ _ _ _ _ _ _ _ hv g1 hl
   · obtain⟨h1,h2,h2',h3,h4⟩:=H.hid h hh
     refine⟨h1,h2,h2',fun ht=> ?_,fun heap L2 O2 l hl=>by rw [dX (hds h hh)];exact h4 _ _ _ _ hl⟩
     obtain⟨c,T,k1,k2,k3,k4⟩:=h3 ht
     exact⟨c,T,by rw [hframe _ (Array.getElem?_eq_some_iff.1 k1).1];exact k1,k2,k3,k4⟩
 · refine List.pairwise_cons.2 ⟨fun q hq h1 h2 h3=> ?_,H.pair⟩
   have:=(hnew h1).1
   have:=H.xlt (.inr ⟨q,hq,h2,rfl⟩)
   simp only at h3
   omega
def storeB (sz:Nat) (v:AV) (blk:Blk):Option Blk:=bif eJ v sz && cI blk 0 0 sz then some ⟨blk.es,blk.n,updG blk 0 0 sz (cellsOf v)⟩else none
theorem storeB_spec {sz:Nat} {v:AV} {blk blk':Blk} (h:storeB sz v blk=some blk'):eJ v sz=true/\cI blk 0 0 sz=true/\blk'=⟨blk.es,blk.n,updG blk 0 0 sz (cellsOf v)⟩:=by
  unfold storeB at h
  cases hb:eJ v sz && cI blk 0 0 sz with
  | false=>rw [hb]at h;cases h
  | true =>
    rw [hb]at h
    simp only [Bool.and_eq_true]at hb
    exact⟨hb.1,hb.2,(Option.some.inj h).symm⟩
theorem cells_det {v:AV} (h:det2 true v=true):(cellsOf v).all (det1 true)=true:=by
 unfold det2 at h
 split at h
 · exact h
 · rename_i v' hne
   cases v' <;> simp_all [cellsOf]
theorem upd_det {sz:Nat} {v:AV} {blk:Blk} (hd:det2 true v=true) (hc:eJ v sz=true) (hb:∀ i j,i<blk.n->j<blk.es->det1 true (blk.get i j)=true) {i j:Nat} (hi:i<blk.n) (hj:j<blk.es):det1 true (updG blk 0 0 sz (cellsOf v) i j)=true:=by
  have hl:(cellsOf v).length=sz:=by
    unfold eJ at hc
    simp only [Bool.and_eq_true,beq_iff_eq]at hc
    exact hc.1
  have hv:=cells_det hd
  unfold updG
  simp only [iY]
  cases Nat.ble (0+sz) blk.es with
  | true =>
    simp only [cond_true]
    cases hq:(i == 0 && (Nat.ble 0 j && Nat.blt j (0+sz)))with
    | false=>exact hb i j hi hj
    | true =>
      simp only [Bool.and_eq_true,Nat.blt_eq]at hq
      exact aBt hv hl (by omega)
  | false =>
    simp only [cond_false]
    cases hq:(Nat.ble (0*blk.es+0) (i*blk.es+j) && Nat.blt (i*blk.es+j) (0*blk.es+0+sz))with
    | false=>exact hb i j hi hj
    | true =>
      simp only [Bool.and_eq_true,Nat.blt_eq]at hq
      exact aBt hv hl (by omega)
theorem pair_ne:∀ {hs:List HB},(hs.Pairwise fun h h'=>0<h.e.tot->0<h'.e.tot->h.e.b ≠ h'.e.b)->∀ {x y:HB},x ∈ hs->y ∈ hs->x ≠ y->0<x.e.tot->0<y.e.tot->x.e.b=y.e.b->False
  | [],_,x,y,hx,_,_,_,_,_=>by simp at hx
  | z :: hs, hp, x, y, hx, hy, hne, h1, h2, h3 => by
    obtain⟨p1,p2⟩:=List.pairwise_cons.1 hp
    rcases List.mem_cons.1 hx with hx' | hx' <;> rcases List.mem_cons.1 hy with hy' | hy'
    · exact hne (hx'.trans hy'.symm)
    · exact p1 y hy' (hx' ▸ h1) h2 (hx' ▸ h3)
    · exact p1 x hx' (hy' ▸ h2) h1 (hy' ▸ h3.symm)
    · exact pair_ne p2 hx' hy' hne h1 h2 h3
def setB (i:Nat) (blk:Blk) (h:HB):HB:=if h.i=i then ⟨h.i,h.d,h.val,blk,h.e⟩else h
theorem setB_e {i:Nat} {blk:Blk} {h:HB}:(setB i blk h).e=h.e:=by unfold setB;split <;> rfl
theorem setB_d {i:Nat} {blk:Blk} {h:HB}:(setB i blk h).d=h.d:=by unfold setB;split <;> rfl
theorem setB_i {i:Nat} {blk:Blk} {h:HB}:(setB i blk h).i=h.i:=by unfold setB;split <;> rfl
theorem setB_val {i:Nat} {blk:Blk} {h:HB}:(setB i blk h).val=h.val:=by unfold setB;split <;> rfl
theorem HRel.put (H:HRel C n hs e m a w L) {sz d v:Nat} {h:HB} {x:AV} {blk':Blk} (hc:dT P o.op (.store sz (.t d) (.t v))=true) (hdst:o.dst=none) (hh:h ∈ hs) (hd:h.d=d) (hval:h.val=fun l=> .ptr l 0 0) (hu:∀ h',h' ∈ hs->h'.i=h.i->h'=h)
 (hx:VR #[] (fun _=>none) (fun _=>False) x (a.tmps.getD v undef)) (hdet:det2 true x=true) (hb:storeB sz x h.blk=some blk') (hdv:d ≠ v) (hd4:d<4000) (hv4:v<4000)
 {next:Act->World->Prop} {Q:Exit->Act->World->Prop} (hnext:∀ r w',HRel C n (hs.map (setB h.i blk')) e m a w' L->next (a.put o.dst r) w'):o.wp P a w next Q:=by
 obtain⟨b1,b2,b3⟩:=storeB_spec hb
 obtain⟨k1,k2,k2',k3,k4⟩:=H.hid h hh
 let C1:Ctx:=⟨fun b=>b<w.heap.size/\¬ (0<h.e.tot/\b=h.e.b),w,fun b=>0<h.e.tot/\b=h.e.b,fun l=>if l=0 then some h.e else none,1⟩
 let L1:Lay:=fun l=>if l=0 then some h.e else none
 have hone:∀ {l b},[some h.blk][l]? = some (some b)->l=0/\b=h.blk:=by
  intro l b hl
  cases l with
  | zero=>simp at hl;exact⟨rfl,hl.symm⟩
  | succ l=>simp at hl
 have hR1:MRel C1 [some h.blk] w L1:=by
  refine⟨rfl,rfl,rfl,Nat.le_refl _,fun _ _ _=>rfl,fun l hl=> ?_,fun l b hl=> ?_,fun l l' b b' e e' h1 h2 _ _ _ _ _=>by rw [(hone h1).1,(hone h2).1],fun l hl=> ?_,fun b hb=>hb.1,fun b hb hx=> ?_⟩
  · simp only [L1,if_neg (show l ≠ 0 by simp at hl;omega)]
  · obtain⟨rfl,rfl⟩:=hone hl
    refine⟨h.e,rfl,k1,k2,fun ht=> ?_⟩
    obtain⟨c,T,q1,q2,q3,q4⟩:=k3 ht
    refine⟨c,T,q1,q2,.inr ⟨ht,rfl⟩,fun i j hi hj=> ?_⟩
    obtain⟨u,r1,r2,r3⟩:=q4 i j hi hj
    exact⟨u,r1,mB (k2' i j hi hj) (.inl rfl) r2,r3⟩
  · have hl:l<1:=hl
    obtain rfl:l=0:=by omega
    exact⟨by simp,rfl⟩
  · obtain⟨l,b',e,h1,h2,h3,h4⟩:=hb
    obtain⟨rfl,rfl⟩:=hone h1
    have:h.e=e:=Option.some.inj h2
    subst this
    exact hx.2 ⟨h3,h4.symm⟩
 let E1:Env:=(Env.nil.set v x).set d (.ptr 0 0 0)
 have hE1:ERel C1 E1 [some h.blk] a w L1:=by
  intro t
  rcases Env.set_upd (Env.nil.set v x) d (.ptr 0 0 0) t with h5 | ⟨h5,h6⟩ | ⟨h5,h6⟩
  · rw [show E1.get t= .un from h5];exact .un _
  · rw [show E1.get t=_ from h6]
    rcases Env.set_upd Env.nil v x t with h7 | ⟨h7,h8⟩ | ⟨h7,h8⟩
    · rw [h7];exact .un _
    · rw [h8,Env.get_nil];exact .un _
    · rw [h8,h7];exact uU hdet (.inl rfl) hx
  · rw [show E1.get t=_ from h6,h5,<- hd]
    have:=k4 w.heap L1 (OO C1 [some h.blk] L1) 0 rfl
    rw [hval]at this
    exact this
 have g1:E1.get d= .ptr 0 0 0:=by rw [Env.set_get hd4 hd4,if_pos rfl]
 have g2:E1.get v=x:=by rw [Env.set_get hd4 hv4,if_neg (fun h=>hdv h.symm),Env.set_get hv4 hv4,if_pos rfl]
 have hvc:uH P (.store sz (.t d) (.t v)) E1 [some h.blk] (fun _ m'=>m'= [some blk']):=by
  simp only [uH,evD,Opn.ev,g1,g2,storeV,List.getElem?_cons_zero,b1,cond_true,b2,dG,updK_eq]
  rw [b3];rfl
 refine run_sound hR1 hE1 hc hvc (fun v' m1 r w' L1' hk hM _ _=> ?_)
 subst hk
 have hframe:∀ b,b<w.heap.size->¬ (0<h.e.tot/\b=h.e.b)->w'.heap[b]? = w.heap[b]? :=fun b hb hn=>hM.frame b hb hn
 have hsz:w.heap.size<=w'.heap.size:=hM.size
 have hL1:L1' 0=some h.e:=(hM.base 0 (Nat.lt_succ_self 0)).2
 have hXe:XH C (hs.map (setB h.i blk'))=XH C hs:=by
  funext b;apply propext
  constructor
  · rintro(hx | ⟨q,hq,h1,h2⟩)
    · exact .inl hx
    · obtain⟨q',hq',rfl⟩:=List.mem_map.1 hq
      rw [setB_e]at h1 h2
      exact .inr ⟨q',hq',h1,h2⟩
  · rintro(hx | ⟨q,hq,h1,h2⟩)
    · exact .inl hx
    · exact .inr ⟨_,List.mem_map.2 ⟨q,hq,rfl⟩,by rw [setB_e];exact h1,by rw [setB_e];exact h2⟩
 obtain⟨p1,p2,p3⟩:=H.poke (hs.map (setB h.i blk')) (w':=w') (fun b hb=>by rw [hXe];exact hb) (fun b _ hb=>by rw [hXe]at hb;exact hb) (fun b hb=>by
  rw [hXe]at hb
  have:=H.xlt hb;omega) hM.os hM.tape hM.output hsz (fun b hb hn=>hframe b hb (fun⟨h1,h2⟩=>hn h hh h1 h2.symm))
 refine hnext r w' ⟨H.size,H.defers,p1,p2,p3,fun q hq=> ?_,?_⟩
 · obtain⟨q',hq',rfl⟩:=List.mem_map.1 hq
   by_cases hi:q'.i=h.i
   · obtain rfl:=hu q' hq' hi
     have:setB q'.i blk' q'=⟨q'.i,q'.d,q'.val,blk',q'.e⟩:=by unfold setB;rw [if_pos rfl]
     rw [this]
     obtain⟨e1,r1,r2,r3,r0⟩:=hM.blk 0 blk' rfl
     rw [hL1]at r1;obtain rfl:=Option.some.inj r1
     have hdet':∀ i j,i<blk'.n->j<blk'.es->det1 true (blk'.get i j)=true:=by
      rw [b3];exact fun i j hi hj=>upd_det hdet b1 k2' hi hj
     refine⟨r2,r3,hdet',fun ht=> ?_,k4⟩
     obtain⟨c,T,s1,s2,s3,s4⟩:=r0 ht
     obtain⟨_,_,_,_,s5,_⟩:=k3 ht
     refine⟨c,T,s1,s2,s5,fun i j hi hj=> ?_⟩
     obtain⟨u,t1,t2,t3⟩:=s4 i j hi hj
     exact⟨u,t1,mB (hdet' i j hi hj) (.inl rfl) t2,t3⟩
   · have:setB h.i blk' q'=q':=by unfold setB;rw [if_neg hi]
     rw [this]
     obtain⟨h1,h2,h2',h3,h4⟩:=H.hid q' hq'
     refine⟨h1,h2,h2',fun ht=> ?_,h4⟩
     obtain⟨c,T,s1,s2,s3,s4⟩:=h3 ht
     refine⟨c,T,?_,s2,s3,s4⟩
     rw [<- s1]
     refine hframe _ (Array.getElem?_eq_some_iff.1 s1).1 (fun⟨h5,h6⟩=>hi ?_)
     by_cases hqh:q'=h
     · rw [hqh]
     · exact(pair_ne H.pair hq' hh hqh ht h5 h6).elim
 · rw [List.pairwise_map]
   refine H.pair.imp (fun {x y} hxy=> ?_)
   rw [setB_e,setB_e];exact hxy
end
end Go.Wit
end

section
namespace Go.Wit
def hid (keep:Keep) (l:Nat):Bool:=match keep with
 | .all=>false
 | .but ls=>ls.contains l
 | _=>true
def flB (k:Nat) (h:Bool) (b:Blk):Blk:=bif h then ⟨b.es,b.n,fun _ _=> .un⟩else ⟨b.es,b.n,fun i j=>fl0 k (b.get i j)⟩
noncomputable def butF (ls:List Nat) (k:Nat) (m:Mem):Nat->Mem:=List.rec (motive:=fun _=>Nat->Mem) (fun _=> []) (fun b _ ih i=>(bif ls.contains i then b.map fun blk=>⟨blk.es,blk.n,fun _ _=> .un⟩else b.map fun blk=>⟨blk.es,blk.n,fun i j=>fl0 k (blk.get i j)⟩)::ih (i+1)) m
noncomputable def butM (ls:List Nat) (m:Mem):Nat->Mem:=List.rec (motive:=fun _=>Nat->Mem) (fun _=> []) (fun b _ ih i=>(bif ls.contains i then b.map fun blk=>⟨blk.es,blk.n,fun _ _=> .un⟩else b)::ih (i+1)) m
noncomputable def flM (keep:Keep) (m:Mem):Mem:=match keep with
 | .no=>m.map fun _=>none
 | .all=>m.map fun b=>b.map fun blk=>⟨blk.es,blk.n,fun i j=>fl0 m.length (blk.get i j)⟩
 | .shp=>m.map fun b=>b.map fun blk=>⟨blk.es,blk.n,fun _ _=> .un⟩
 | .but ls=>butF ls m.length m 0
def shpM (m:Mem):List (Option (Nat × Nat)):=m.map fun b=>b.map fun blk=>(blk.es,blk.n)
def keepR (keep:Keep) (m0 m:Mem):Prop:=match keep with
 | .no=>True
 | .all=>∃ t,m=m0++t
 | .shp=>∃ t,shpM m=shpM m0++t
 | .but ls=>∃ t,butM ls m 0=butM ls m0 0++t
theorem butM_app (ls:List Nat):∀ (m t:Mem) (i:Nat),butM ls (m++t) i=butM ls m i++butM ls t (i+m.length)
  | [],t,i=>rfl
  | b :: m, t, i => by
    show _::butM ls (m++t) (i+1)=_::(butM ls m (i+1)++butM ls t (i+(m.length+1)))
    rw [butM_app ls m t (i+1)]
    congr 3;omega
theorem xB (keep:Keep) (m:Mem):keepR keep m m:=by
 cases keep with
 | no=>trivial
 | all=>exact ⟨[],by simp⟩
 | shp=>exact ⟨[],by simp⟩
 | but ls=>exact ⟨[],by simp⟩
theorem keepR_app {keep:Keep} {m0 m:Mem} (h:keepR keep m0 m) (t:Mem):keepR keep m0 (m++t):=by
 cases keep with
 | no=>trivial
 | all=>obtain ⟨u,rfl⟩:=h;exact⟨u++t,by rw [List.append_assoc]⟩
 | shp=>obtain ⟨u,hu⟩:=h;exact⟨u++shpM t,by rw [shpM,List.map_append];change shpM m++shpM t=_;rw [hu,List.append_assoc]⟩
 | but ls=>obtain ⟨u,hu⟩:=h;exact⟨u++butM ls t (0+m.length),by rw [butM_app,hu,List.append_assoc]⟩
def vcLk2 (e:Env) (m:Mem) (o:AOp) (K:AV->AV->Prop):Prop:=
 bif uJ o then (match evD o e m with | some ⟨ok,v,none⟩=>dG ok (K v (flt v)) False | _=>False)else False
def vcLk3 (e g:Env) (m:Mem) (o:AOp) (K:AV->AV->Prop):Prop:=
  match o with
  | .idxA es x i => match x.ev g with
    | .vsl es' len cap get => match zS es [] (.vsl es' len cap get) (i.ev g) with
      | some ⟨ok,v,none⟩=>dG ok (K v v) False
      | _=>False
    | _=>False
  | .slice es x lo hi mx => match x.ev g with
    | .vsl es' len cap get => match mU es [] (.vsl es' len cap get) (lo.map (·.ev g)) (hi.map (·.ev g)) (mx.map (·.ev g)) with
      | some ⟨ok,v,none⟩=>dG ok (K v v) False
      | _=>False
    | _=>False
  | .arrp n es x => match x.ev g with
    | .vsl es' len cap get => match arrpV n es (.vsl es' len cap get) with
      | some ⟨ok,v,none⟩=>dG ok (K v v) False
      | _=>False
    | _=>False
  | .mv x=>K (x.ev e) (x.ev g)
  | .load sz ag x => match x.ev g with
    | .vptr n get j => match loadV sz ag [] (.vptr n get j) with
      | some ⟨ok,v,none⟩=>dG ok (K v v) False
      | _=>False
    | _=>False
  | .fldA off x => match x.ev g with
    | .vptr n get j=>K (.vptr n get (j+off)) (.vptr n get (j+off))
    | _=>False
  | o=>vcLk2 e m o K
def vcLk1 (e g:Env) (m mS:Mem) (o:AOp) (K:AV->AV->Prop):Prop:=
 match evD o g mS with
 | some ⟨ok,v,none⟩=>bif det3 false v then dG ok (K v v) False else vcLk3 e g m o K
 | _=>vcLk3 e g m o K
def vcLk (e g:Env) (m mS:Mem) (o:AOp) (K:AV->AV->Prop):Prop:=
  match o with
  | .pick c x y => match c.ev e with
    | .bool b=>K (bif b then x.ev e else y.ev e) (bif b then x.ev g else y.ev g)
    | _=>False
  | .mv x=>K (x.ev e) (x.ev g)
  | .slice es x lo hi mx => match x.ev g with
    | .sl l off len cap => match mU es mS (.sl l off len cap) (lo.map (·.ev g)) (hi.map (·.ev g)) (mx.map (·.ev g)) with
      | some ⟨ok,v,none⟩=>dG ok (K v v) False
      | _=>False
    | _=>vcLk1 e g m mS (.slice es x lo hi mx) K
  | o=>vcLk1 e g m mS o K
def vcLook (o:AOpr) (e g:Env) (m mS:Mem) (K:Env->Env->Prop):Prop:=
  match o.guard with
  | none=>vcLk e g m mS o.op fun v u=>putK e o.dst v fun e=>putK g o.dst u fun g=>K e g
  | some (t, want) => match e.get t with
    | .bool b=>dG (b == want) (Env.setK 12 e t (.bool want) fun e=>vcLk e g m mS o.op fun v u=>putK e o.dst v fun e=>putK g o.dst u fun g=>K e g)
        (Env.setK 12 e t (.bool (!want)) fun e=>putK e o.dst (.tup []) fun e=>putK g o.dst (.tup []) fun g=>K e g)
    | .tup [] =>putK e o.dst (.tup []) fun e=>putK g o.dst (.tup []) fun g=>K e g
    | _=>False
def layR (m:Mem) (L:Lay):Lay:=fun l=>if l<m.length then L l else none
theorem qX {m:Mem} {L:Lay} {l:Nat} (h:l<m.length):layR m L l=L l:=by unfold layR;rw [if_pos h]
theorem layR_ge {m:Mem} {L:Lay} {l:Nat} (h:¬ l<m.length):layR m L l=none:=by unfold layR;rw [if_neg h]
def SP (C:Ctx) (keep:Keep) (m0:Mem) (w':World):Prop:= ∃ L',MRel C (flM keep m0) w' L'
def GR (C:Ctx) (m0:Mem) (w0:World) (L0:Lay) (g:Env) (a:Act):Prop:= ∀ t,VR w0.heap L0 (OO C m0 L0) (g.get t) (a.tmps.getD t undef)
section
variable {P:Program} {C0:Ctx} {n:Nat} {hs:List HB} {m0 m m':Mem} {w0 w w':World} {L0 L L':Lay} {e e' g:Env} {a a':Act} {o:Oper} {ao:AOpr} {keep:Keep}
theorem butF_get (ls:List Nat) (k:Nat):∀ (m:Mem) (i l:Nat),(butF ls k m i)[l]? = (m[l]?).map fun b=>b.map (flB k (ls.contains (i+l)))
  | [],i,l=>by show ([] :Mem)[l]? = _;simp
  | b :: m, i, 0 => by
    show ((bif ls.contains i then b.map fun blk=>(⟨blk.es,blk.n,fun _ _=> .un⟩ :Blk)else b.map fun blk=>(⟨blk.es,blk.n,fun i j=>fl0 k (blk.get i j)⟩ :Blk))::butF ls k m (i+1))[0]? = _
    cases h:ls.contains i <;> simp [h,flB] <;> rfl
  | b :: m, i, l + 1 => by
    show (_::butF ls k m (i+1))[l+1]? = _
    rw [List.getElem?_cons_succ,List.getElem?_cons_succ,butF_get ls k m (i+1) l,show i+1+l=i+(l+1) by omega]
theorem butM_get (ls:List Nat):∀ (m:Mem) (i l:Nat),(butM ls m i)[l]? = (m[l]?).map fun b=>bif ls.contains (i+l)then b.map fun blk=>⟨blk.es,blk.n,fun _ _=> .un⟩else b
  | [],i,l=>by show ([] :Mem)[l]? = _;simp
  | b :: m, i, 0 => by
    show ((bif ls.contains i then b.map fun blk=>(⟨blk.es,blk.n,fun _ _=> .un⟩ :Blk)else b)::butM ls m (i+1))[0]? = _
    simp
  | b :: m, i, l + 1 => by
    show (_::butM ls m (i+1))[l+1]? = _
    rw [List.getElem?_cons_succ,List.getElem?_cons_succ,butM_get ls m (i+1) l,show i+1+l=i+(l+1) by omega]
theorem butM_length (ls:List Nat):∀ (m:Mem) (i:Nat),(butM ls m i).length=m.length
 | [],i=>rfl
 | b::m,i=>by show (butM ls m (i+1)).length+1=_;rw [butM_length ls m];rfl
theorem butF_length (ls:List Nat) (k:Nat):∀ (m:Mem) (i:Nat),(butF ls k m i).length=m.length
 | [],i=>rfl
 | b::m,i=>by show (butF ls k m (i+1)).length+1=_;rw [butF_length ls k m];rfl
theorem flM_get {l:Nat} {b:Blk} (h:(flM keep m)[l]? = some (some b)):(∀ k,keep=k->k ≠ .no)/\∃ blk,m[l]? = some (some blk)/\b=flB m.length (hid keep l) blk:=by
  cases keep with
  | no =>
    simp only [flM,List.getElem?_map,Option.map_eq_some_iff]at h
    obtain⟨q,h1,h2⟩:=h
    cases h2
  | all =>
    simp only [flM,List.getElem?_map,Option.map_eq_some_iff]at h
    obtain⟨q,h1,h2⟩:=h
    obtain⟨blk,rfl,h3⟩:=h2
    exact⟨(by rintro k rfl h;cases h),blk,h1,h3.symm⟩
  | shp =>
    simp only [flM,List.getElem?_map,Option.map_eq_some_iff]at h
    obtain⟨q,h1,h2⟩:=h
    obtain⟨blk,rfl,h3⟩:=h2
    exact⟨(by rintro k rfl h;cases h),blk,h1,h3.symm⟩
  | but ls =>
    simp only [flM]at h
    rw [butF_get]at h
    simp only [Option.map_eq_some_iff]at h
    obtain⟨q,h1,h2⟩:=h
    obtain⟨blk,rfl,h3⟩:=h2
    rw [Nat.zero_add]at h3
    exact⟨(by rintro k rfl h;cases h),blk,h1,h3.symm⟩
theorem flM_length:(flM keep m).length=m.length:=by
 cases keep with
 | but ls=>exact butF_length ls _ m 0
 | _=>simp [flM]
theorem flB_es {k:Nat} {h:Bool} {b:Blk}:(flB k h b).es=b.es:=by cases h <;> rfl
theorem flB_n {k:Nat} {h:Bool} {b:Blk}:(flB k h b).n=b.n:=by cases h <;> rfl
theorem uN (hk:keepR keep m0 m) (hn:∀ k,keep=k->k ≠ .no) {l:Nat} {b:Blk} (h:m0[l]? = some (some b)):∃ b',m[l]? = some (some b')/\b'.es=b.es/\b'.n=b.n/\(hid keep l=false->b'=b):=by
  cases keep with
  | no=>exact absurd rfl (hn _ rfl)
  | all =>
    obtain⟨t,rfl⟩:=hk
    exact⟨b,by rw [List.getElem?_append_left (bT h)];exact h,rfl,rfl,fun _=>rfl⟩
  | shp =>
    obtain⟨t,ht⟩:=hk
    have h1:(shpM m)[l]? = some (some (b.es,b.n)):=by
      rw [ht,List.getElem?_append_left (by simp [shpM];exact bT h)]
      simp [shpM,h]
    simp only [shpM,List.getElem?_map,Option.map_eq_some_iff]at h1
    obtain⟨q,q1,q2⟩:=h1
    obtain⟨b',rfl,q3⟩:=q2
    simp only [Prod.mk.injEq]at q3
    exact⟨b',q1,q3.1,q3.2,fun h=>by cases h⟩
  | but ls =>
    obtain⟨t,ht⟩:=hk
    have h1:(butM ls m 0)[l]? = (butM ls m0 0)[l]? :=by
      rw [ht,List.getElem?_append_left (by rw [butM_length];exact bT h)]
    rw [butM_get,butM_get,h,Nat.zero_add,Option.map_some]at h1
    simp only [Option.map_eq_some_iff]at h1
    obtain⟨q,q1,q2⟩:=h1
    cases hc:ls.contains l with
    | false =>
      rw [hc]at q2
      simp only [cond_false]at q2
      subst q2
      exact⟨b,q1,rfl,rfl,fun _=>rfl⟩
    | true =>
      rw [hc]at q2
      simp only [cond_true,Option.map_some,Option.map_eq_some_iff]at q2
      obtain⟨b',rfl,q3⟩:=q2
      simp only [Blk.mk.injEq]at q3
      exact⟨b',q1,q3.1,q3.2.1,fun h=>by simp only [hid,hc]at h;cases h⟩
theorem flB_vr {k:Nat} {h':Bool} {h:Array Obj} {L:Lay} {O:Nat->Prop} {L':Lay} {O':Nat->Prop} {b b':Blk} {i j:Nat} {v:Value} (hL:∀ l e,l<k->L l=some e->L' l=some e) (hb:h'=false->b'=b) (hv:VR h L O (b'.get i j) v):VR h L' O' ((flB k h' b).get i j) v:=by
 cases h' with
 | true=>exact .un _
 | false=>rw [hb rfl]at hv;exact fl0_vr hL hv
theorem keepS (hC:MRel (C0.here m0 w0 L0) m w L) (hk:keepR keep m0 m):MRel (C0.here m0 w0 L0) (flM keep m0) w (layR m0 L):=by
 have hown:∀ b,own (flM keep m0) (layR m0 L) b->own m L b:=by
  rintro b ⟨l,blk,e,h1,h2,h3,h4⟩
  obtain⟨hkk,blk1,g1,_⟩:=flM_get h1
  obtain⟨b',g2,_⟩:=uN hk hkk g1
  rw [qX (bT g1)]at h2
  exact⟨l,b',e,g2,h2,h3,h4⟩
 refine⟨hC.os,hC.tape,hC.output,hC.size,hC.frame,fun l hl=> ?_,fun l b hl=> ?_,fun l l' b b' e e' h1 h2 h3 h4 t1 t2 h5=> ?_,fun l hl=> ?_,hC.xlt,fun b hb=>hC.notX b (hown b hb)⟩
 · rw [flM_length]at hl
   rw [layR_ge (by omega)]
 · obtain⟨hkk,blk,g1,rfl⟩:=flM_get hl
   obtain⟨b',g2,g3,g4,g5⟩:=uN hk hkk g1
   have hl':=bT g1
   obtain⟨e,k1,k2,k3,k0⟩:=hC.blk l b' g2
   refine⟨e,by rw [qX hl'];exact k1,by rw [k2,g3,flB_es],by rw [flB_n,<- g4];exact k3,fun ht=> ?_⟩
   obtain⟨c,T,q1,q2,q3,q4⟩:=k0 ht
   refine⟨c,T,q1,q2,q3,fun i j hi hj=> ?_⟩
   rw [flB_n]at hi
   rw [flB_es]at hj ⊢
   obtain⟨v,r1,r2,r3⟩:=q4 i j (by omega) (by omega)
   exact⟨v,by rw [<- g3];exact r1,flB_vr (fun l e hl he=>by rw [qX hl];exact he) g5 r2,r3⟩
 · obtain⟨hkk,b1,g1,_⟩:=flM_get h1
   obtain⟨_,b2,g2,_⟩:=flM_get h2
   obtain⟨c1,k1,_⟩:=uN hk hkk g1
   obtain⟨c2,k2,_⟩:=uN hk hkk g2
   rw [qX (bT g1)]at h3
   rw [qX (bT g2)]at h4
   exact hC.inj l l' c1 c2 e e' k1 k2 h3 h4 t1 t2 h5
 · obtain⟨h1,h2⟩:=hC.base l hl
   have hl':l<m0.length:=hl
   exact⟨by rw [flM_length];exact hl',by rw [qX hl'];exact h2⟩
theorem extS (hR0:MRel (C0.here m0 w0 L0) m0 w0 L0) (hS:MRel (C0.here m0 w0 L0) (flM keep m0) w' L'):Ext w0.heap L0 (OO (C0.here m0 w0 L0) m0 L0) w'.heap L' (OO (C0.here m0 w0 L0) (flM keep m0) L'):=by
 refine⟨fun l e hl=> ?_,fun b hb hO=>hS.frame b hb (fun ho=>hO (.inr ho)),fun b hb hO hO'=> ?_⟩
 · have hlt:l<m0.length:=by
    rcases Nat.lt_or_ge l m0.length with h1 | h1
    · exact h1
    · rw [hR0.lay l h1]at hl;cases hl
   rw [(hS.base l hlt).2];exact hl
 · rcases hO' with hX | ⟨l,blk,e,h1,h2,h3,rfl⟩
   · exact hO (.inl hX)
   · obtain⟨e',g1,g2,g3,g0⟩:=hS.blk l blk h1
     rw [h2]at g1;obtain rfl:=Option.some.inj g1
     obtain⟨c,T,g4,g5,g6,g7⟩:=g0 h3
     rcases g6 with g6 | g6
     · have:w0.heap.size<=e.b:=g6;omega
     · exact hO (.inr g6)
theorem ext0 (hR0:MRel (C0.here m0 w0 L0) m0 w0 L0) (H:HRel (C0.here m0 w0 L0) n hs e m a w L):Ext w0.heap L0 (OO (C0.here m0 w0 L0) m0 L0) w.heap L (OO (CX (C0.here m0 w0 L0) hs m w L) m L):=by
 have hC:=H.memC
 refine⟨fun l e hl=> ?_,fun b hb hO=>hC.frame b hb (fun ho=>hO (.inr ho)),fun b hb hO hO'=> ?_⟩
 · by_cases hlt:l<m0.length
   · rw [(hC.base l hlt).2];exact hl
   · rw [hR0.lay l (by omega)]at hl;cases hl
 · rcases hO' with(hX | ⟨h,h1,h2,h3⟩) | ⟨l,blk,e,h1,h2,h3,rfl⟩
   · exact hO (.inl hX)
   · obtain⟨c,T,_,_,h5,_⟩:=(H.hid h h1).cells h2
     have:w0.heap.size<=h.e.b:=h5
     omega
   · obtain⟨e',g1,g2,g3,g0⟩:=hC.blk l blk h1
     rw [h2]at g1;obtain rfl:=Option.some.inj g1
     obtain⟨c,T,g4,g5,g6,g7⟩:=g0 h3
     rcases g6 with g6 | g6
     · have:w0.heap.size<=e.b:=g6;omega
     · exact hO (.inr g6)
theorem chk_idxA {op:Op} {es:Nat} {x' i':Opn} (h:dT P op (.idxA es x' i')=true):∃ t el x i,op= .indexAddr t x i/\P.underlying t=some (.slice el)/\szB P el es=true/\aN x x'=true/\aN i i'=true:=by
 cases op <;> (try (simp [dT]at h;done))
 simp only [dT,Bool.and_eq_true]at h
 obtain⟨d,hd,hd'⟩:=bF h.1
 cases d <;> simp only [dSl,Bool.false_eq_true]at hd'
 exact⟨_,_,_,_,rfl,hd,hd',h.2.1,h.2.2⟩
theorem idxA_still {C:Ctx} {t el es:Nat} {x y:Operand} {x' y':Opn} (hE:ERel C g m0 a w0 L0) (ho:o.op= .indexAddr t x y) (ht:P.underlying t=some (.slice el)) (hs:szB P el es=true) (hx:aN x x'=true) (hy:aN y y'=true)
    {es' len cap:Nat} {get:Nat->Nat->AV} (hxv:x'.ev g= .vsl es' len cap get) {ok:Bool} {v:AV} (hev:zS es [] (.vsl es' len cap get) (y'.ev g)=some ⟨ok,v,none⟩) (hok:ok=true):
    ∃ r,(∀ w',(execOp a.eval o).run P w'= .ok (.value r) w')/\VR w0.heap L0 (OO C m0 L0) v r:=by
  have hx:=aP hE hx
  have hy:=aP hE hy
  rw [hxv]at hx
  generalize y'.ev g=yv at hy hev
  generalize hra:a.eval x=r at hx
  generalize hrb:a.eval y=s at hy
  cases hy <;> (try (simp [zS]at hev;done))
  rename_i k n
  have hrun:∀ (ad:Addr) (len cap:Nat),r= .slice (some ad) len cap->0<=n->n<(len:Int)->∀ w',(execOp a.eval o).run P w'= .ok (.value (.pointer (some (ad.add (n.toNat*es))))) w':=by
    intro ad len cap hr h0 h1 w'
    simp [execOp,ho,hra,hrb,hr,Instr.indexAt,asIntOf,run_underlying ht,h0,h1,gA w' hs]
  simp only [zS]at hev
  cases hb:es' == es <;> simp only [hb,cond_true,cond_false,cL,Option.some.injEq,reduceCtorEq,Out.mk.injEq,and_true]at hev
  obtain⟨rfl,rfl⟩:=hev
  simp only [Bool.and_eq_true,decide_eq_true_eq]at hok
  obtain rfl:es'=es:=by simpa using hb
  cases hx with
  | vsl0 _ _ ad=>omega
  | vsl _ _ _ _ b o' vals hle hc hv =>
    refine⟨_,hrun _ _ _ rfl hok.1 hok.2,?_⟩
    rw [gD]
    have hn:=toNat_lt hok.1 hok.2
    refine .vptr es' (get n.toNat) 0 b (o'+n.toNat*es') (vals n.toNat) (fun t ht=> ?_) (fun t ht=>hv _ _ hn ht)
    have:=hc n.toNat t hn ht
    rw [Nat.add_assoc];exact this
theorem chk_slice {op:Op} {es:Nat} {x':Opn} {lo' hi' mx':Option Opn} (h:dT P op (.slice es x' lo' hi' mx')=true):∃ t el x lo hi mx,op= .slice t x lo hi mx/\P.underlying t=some (.slice el)/\szB P el es=true/\aN x x'=true/\kH lo lo'=true/\kH hi hi'=true/\kH mx mx'=true:=by
 cases op <;> (try (simp [dT]at h;done))
 simp only [dT,Bool.and_eq_true]at h
 obtain⟨d,hd,hd'⟩:=bF h.1
 cases d <;> simp only [dSl,Bool.false_eq_true]at hd'
 exact⟨_,_,_,_,_,_,rfl,hd,hd',h.2.1,h.2.2.1,h.2.2.2.1,h.2.2.2.2⟩
theorem slice_still {C:Ctx} {t el es:Nat} {x:Operand} {lo hi mx:Option Operand} {x':Opn} {lo' hi' mx':Option Opn} (hE:ERel C g m0 a w0 L0) (ho:o.op= .slice t x lo hi mx) (ht:P.underlying t=some (.slice el)) (hs:szB P el es=true)
    (hx:aN x x'=true) (h1:kH lo lo'=true) (h2:kH hi hi'=true) (h3:kH mx mx'=true)
    {es' len cap:Nat} {get:Nat->Nat->AV} (hxv:x'.ev g= .vsl es' len cap get) {ok:Bool} {v:AV} (hev:mU es [] (.vsl es' len cap get) (lo'.map (·.ev g)) (hi'.map (·.ev g)) (mx'.map (·.ev g))=some ⟨ok,v,none⟩) (hok:ok=true):
    ∃ r,(∀ w',(execOp a.eval o).run P w'= .ok (.value r) w')/\VR w0.heap L0 (OO C m0 L0) v r:=by
  have hx:=aP hE hx
  have hlo:=jX hE h1
  have hhi:=jX hE h2
  have hmx:=jX hE h3
  rw [hxv]at hx
  generalize hra:a.eval x=r at hx
  have hrun:∀ (ad:Option Addr) (len cap l h q:Nat),r= .slice ad len cap->(∀ w',(Instr.sliceBounds true len cap (lo.map a.eval) (hi.map a.eval) (mx.map a.eval)).run P w'= .ok (l,h,q) w')->
      ∀ w',(execOp a.eval o).run P w'= .ok (.value (.slice (if q=l then ad else ad.map (·.add (l*es))) (h - l) (q - l))) w':=by
    intro ad len cap l h q hr hb w'
    simp [execOp,ho,hra,hr,Instr.sliceAt,Instr.slice,run_underlying ht,hb w',gA w' hs]
  simp only [mU]at hev
  cases hbe:es' == es
  case false=>simp [hbe]at hev
  simp only [hbe,cond_true]at hev
  obtain rfl:es'=es:=by simpa using hbe
  cases hx with
  | vsl0 _ _ ad =>
    cases hb:bnds 0 0 (lo'.map (·.ev g)) (hi'.map (·.ev g)) (mx'.map (·.ev g))with
    | none=>simp [hb]at hev
    | some q =>
      obtain⟨c,l,h,q⟩:=q
      simp only [hb,Option.map_some,Option.some.injEq,Out.mk.injEq,and_true]at hev
      obtain⟨rfl,rfl⟩:=hev
      simp only [Bool.and_eq_true]at hok
      have r0:=fun w'=>iK (P:=P) (w:=w') hlo hhi hmx hb hok.1 (Nat.le_refl _) true
      obtain⟨_,r2,r3,r4⟩:=r0 w0
      have e1:q=0:=by omega
      have e2:h=0:=by omega
      have e3:l=0:=by omega
      subst e1 e2 e3
      exact⟨_,hrun _ _ _ _ _ _ rfl (fun w'=>(r0 w').1),by simpa using VR.vsl0 _ _ _⟩
  | vsl _ _ _ _ b o' vals hle hc hv =>
    cases hb:bnds len cap (lo'.map (·.ev g)) (hi'.map (·.ev g)) (mx'.map (·.ev g))with
    | none=>simp [hb]at hev
    | some q =>
      obtain⟨c,l1,h,q⟩:=q
      simp only [hb,Option.map_some,Option.some.injEq,Out.mk.injEq,and_true]at hev
      obtain⟨rfl,rfl⟩:=hev
      simp only [Bool.and_eq_true,decide_eq_true_eq]at hok
      have r0:=fun w'=>iK (P:=P) (w:=w') hlo hhi hmx hb hok.1 hle true
      obtain⟨_,r2,r3,r4⟩:=r0 w0
      refine⟨_,hrun _ _ _ _ _ _ rfl (fun w'=>(r0 w').1),?_⟩
      by_cases hq:q=l1
      · subst hq
        have:h=q:=by omega
        subst this
        simpa using VR.vsl0 _ _ _
      · rw [if_neg hq]
        simp only [Option.map_some,gD]
        refine .vsl _ _ _ _ b (o'+l1*es') (fun i j=>vals (i+l1) j) (by omega) (fun i j hi hj=> ?_) (fun i j hi hj=>hv _ _ (by omega) hj)
        have:=hc (i+l1) j (by omega) hj
        have e:o'+l1*es'+(i*es'+j)=o'+((i+l1)*es'+j):=by rw [Nat.add_mul];omega
        rw [e];exact this
theorem chk_pick {op:Op} {c' x' y':Opn} (h:dT P op (.pick c' x' y')=true):∃ c x y,op= .pick c x y/\aN c c'=true/\aN x x'=true/\aN y y'=true:=by
 cases op <;> (try (simp [dT]at h;done))
 simp only [dT,Bool.and_eq_true]at h
 exact⟨_,_,_,rfl,h.1,h.2.1,h.2.2⟩
theorem chk_arrp {op:Op} {n es:Nat} {x':Opn} (h:dT P op (.arrp n es x')=true):∃ t el x,op= .sliceToArrayPointer t x/\P.underlying t=some (.array n el)/\aN x x'=true:=by
 cases op <;> (try (simp [dT]at h;done))
 simp only [dT,Bool.and_eq_true]at h
 obtain⟨d,hd,hd'⟩:=bF h.1
 cases d <;> simp only [dArr,Bool.false_eq_true,Bool.and_eq_true,beq_iff_eq]at hd'
 obtain⟨rfl,-⟩:=hd'
 exact⟨_,_,_,rfl,hd,h.2⟩
theorem arrp_still {C:Ctx} {t el es n:Nat} {x:Operand} {x':Opn} (hE:ERel C g m0 a w0 L0) (ho:o.op= .sliceToArrayPointer t x) (ht:P.underlying t=some (.array n el)) (hx:aN x x'=true)
    {es' len cap:Nat} {get:Nat->Nat->AV} (hxv:x'.ev g= .vsl es' len cap get) {ok:Bool} {v:AV} (hev:arrpV n es (.vsl es' len cap get)=some ⟨ok,v,none⟩) (hok:ok=true):
    ∃ r,(∀ w',(execOp a.eval o).run P w'= .ok (.value r) w')/\VR w0.heap L0 (OO C m0 L0) v r:=by
  have hx:=aP hE hx
  rw [hxv]at hx
  generalize hra:a.eval x=r at hx
  have hrun:∀ (ad:Option Addr) (len cap:Nat),r= .slice ad len cap->n<=len->∀ w',(execOp a.eval o).run P w'= .ok (.value (.pointer ad)) w':=by
    intro ad len cap hr hb w'
    simp [execOp,ho,hra,hr,Instr.arrayAt,run_underlying ht,show ¬ len<n from by omega]
  simp only [arrpV]at hev
  cases hn:(es' == es && (!(es == 0) && !(n == 0))) <;> simp only [hn,cond_true,cond_false,cL,Option.some.injEq,reduceCtorEq,Out.mk.injEq,and_true]at hev
  obtain⟨rfl,rfl⟩:=hev
  simp only [decide_eq_true_eq]at hok
  simp only [Bool.and_eq_true,beq_iff_eq,Bool.not_eq_true',beq_eq_false_iff_ne]at hn
  obtain⟨rfl,hn1,hn2⟩:=hn
  cases hx with
  | vsl0 _ _ ad=>omega
  | vsl _ _ _ _ b o' vals hle hc hv =>
    refine⟨_,hrun _ _ _ rfl hok,?_⟩
    have hpos:0<es':=by omega
    have hdm:∀ t,t / es'*es'+t % es'=t:=fun t=>by rw [Nat.mul_comm];exact Nat.div_add_mod _ _
    have hlt:∀ t,t<n*es'->t / es'<len:=fun t ht=>by
      have:t / es'<n:=(Nat.div_lt_iff_lt_mul hpos).2 ht
      omega
    refine .vptr (n*es') _ 0 b o' (fun t=>vals (t / es') (t % es')) (fun t ht=> ?_) (fun t ht=>hv _ _ (hlt t ht) (Nat.mod_lt _ hpos))
    have:=hc (t / es') (t % es') (hlt t ht) (Nat.mod_lt _ hpos)
    rw [hdm]at this;exact this
theorem chk_load {op:Op} {sz:Nat} {ag:Bool} {x':Opn} (h:dT P op (.load sz ag x')=true):∃ t x,op= .load t x/\aggB P t=some ag/\szB P t sz=true/\aN x x'=true:=by
 cases op <;> (try (simp [dT]at h;done))
 simp only [dT,Bool.and_eq_true,decide_eq_true_eq]at h
 exact⟨_,_,rfl,h.1,h.2.1,h.2.2⟩
theorem chk_fldA {op:Op} {off:Nat} {x':Opn} (h:dT P op (.fldA off x')=true):∃ s f x,op= .fieldAddr s x f/\fieldB P s f off=true/\aN x x'=true:=by
 cases op <;> (try (simp [dT]at h;done))
 simp only [dT,Bool.and_eq_true]at h
 exact⟨_,_,_,rfl,h.1,h.2⟩
theorem fldA_still {C:Ctx} {s f off:Nat} {x:Operand} {x':Opn} (hE:ERel C g m0 a w0 L0) (ho:o.op= .fieldAddr s x f) (hf:fieldB P s f off=true) (hx:aN x x'=true)
    {n j:Nat} {get:Nat->AV} (hxv:x'.ev g= .vptr n get j):
    ∃ r,(∀ w',(execOp a.eval o).run P w'= .ok (.value r) w')/\VR w0.heap L0 (OO C m0 L0) (.vptr n get (j+off)) r:=by
  have hx:=aP hE hx
  rw [hxv]at hx
  generalize hra:a.eval x=r at hx
  unfold fieldB at hf
  split at hf
  · rename_i fs hu
    split at hf
    · rename_i fd hfd
      simp only [Bool.and_eq_true,beq_iff_eq]at hf
      obtain⟨hoff,hsz⟩:=hf
      split at hsz
      · rename_i inf hinf
        have hsz':¬ inf.size=0:=by simpa using hsz
        have hrun:∀ (ad:Addr),r= .pointer (some ad)->∀ w',(execOp a.eval o).run P w'= .ok (.value (.pointer (some (ad.add off)))) w':=by
          intro ad hr w'
          simp [execOp,ho,hra,hr,Instr.fieldAt,run_underlying hu,hfd,Instr.sureAddr,fieldPlace,sizeOf,typeInfo,hinf,hsz',hoff]
        cases hx with
        | vptr _ _ _ b o' vals hc hv =>
          refine⟨_,hrun _ rfl,?_⟩
          rw [gD,Nat.add_assoc];exact .vptr _ _ _ _ _ _ hc hv
      · simp at hsz
    · simp at hf
  · simp at hf
theorem load_still {C:Ctx} {t sz:Nat} {ag:Bool} {x:Operand} {x':Opn} (hE:ERel C g m0 a w0 L0) (ho:o.op= .load t x) (ha:aggB P t=some ag) (hs:szB P t sz=true) (hx:aN x x'=true)
    {n j:Nat} {get:Nat->AV} (hxv:x'.ev g= .vptr n get j) {ok:Bool} {v:AV} (hev:loadV sz ag [] (.vptr n get j)=some ⟨ok,v,none⟩) (hok:ok=true):
    ∃ r,(∀ w',(∀ b,b<w0.heap.size->¬ OO C m0 L0 b->w'.heap[b]? = w0.heap[b]?)->(execOp a.eval o).run P w'= .ok (.value r) w')/\VR w0.heap L0 (OO C m0 L0) v r:=by
  have hx:=aP hE hx
  rw [hxv]at hx
  generalize hra:a.eval x=r at hx
  have hrun:∀ (b o':Nat) (f:Nat->Value),r= .pointer (some ⟨b,o',none⟩)->∀ w',(∀ k,k<(if ag then sz else 1)->w'.cell? ⟨b,o'+k,none⟩=some (f k))->
      (execOp a.eval o).run P w'= .ok (.value (if ag then .agg ((List.range sz).map f).toArray else f 0)) w':=by
    intro b o' f hr w' hf
    have h1:=qQ (P:=P) ha hs hf
    simp [execOp,ho,hra,hr,Instr.loadAt,Instr.sureAddr,h1]
  have vrs:∀ {n:Nat} {g:Nat->AV} {f:Nat->Value},(∀ k,k<n->VR w0.heap L0 (OO C m0 L0) (g k) (f k))->VRs w0.heap L0 (OO C m0 L0) ((List.range n).map g) ((List.range n).map f):=by
    intro n g f hh
    refine VRs.of_get (by simp) (fun i c hc=> ?_)
    have hi:i<n:=by
      rcases Nat.lt_or_ge i n with h | h
      · exact h
      · rw [List.getElem?_eq_none (by simpa using h)]at hc;cases hc
    simp [hi]at hc
    subst hc
    simpa [List.getD,hi]using hh i hi
  cases hx with
  | vptr _ _ _ b o' vals hc hv =>
    have cell:∀ w':World,(∀ b,b<w0.heap.size->¬ OO C m0 L0 b->w'.heap[b]? = w0.heap[b]?)->∀ t,t<n->w'.cell? ⟨b,o'+t,none⟩=some (vals t):=by
      intro w' hw t ht
      obtain⟨h1,h2,_⟩:=hc t ht
      have e:=cellAt_eq (o:=o'+t) (hw b (cellAt_lt h2) h1)
      rw [h2]at e
      unfold fK at e
      simp only [World.cell?]
      revert e;split <;> simp_all
    simp only [loadV]at hev
    cases ag with
    | true =>
      simp only [cond_true,cL,Option.some.injEq,Out.mk.injEq,and_true]at hev
      obtain⟨rfl,rfl⟩:=hev
      have hle:=Nat.le_of_ble_eq_true hok
      refine⟨_,fun w' hw=>hrun b (o'+j) (fun k=>vals (j+k)) rfl w' (fun k hk=> ?_),?_⟩
      · simp only [if_true]at hk
        rw [Nat.add_assoc]
        exact cell w' hw (j+k) (by omega)
      · simpa using VR.agg _ _ (by simpa using vrs (fun k hk=>hv (j+k) (by omega)))
    | false =>
      simp only [cond_false,cL,Option.some.injEq,Out.mk.injEq,and_true]at hev
      obtain⟨rfl,rfl⟩:=hev
      have hle:=Nat.le_of_ble_eq_true hok
      refine⟨_,fun w' hw=>hrun b (o'+j) (fun k=>vals (j+k)) rfl w' (fun k hk=> ?_),?_⟩
      · simp at hk;subst hk
        exact cell w' hw j (by omega)
      · simpa using hv j (by omega)
theorem slice_pure {C:Ctx} {t el es:Nat} {x:Operand} {lo hi mx:Option Operand} {x':Opn} {lo' hi' mx':Option Opn} (hE:ERel C g m0 a w0 L0) (ho:o.op= .slice t x lo hi mx) (ht:P.underlying t=some (.slice el)) (hs:szB P el es=true)
    (hx:aN x x'=true) (h1:kH lo lo'=true) (h2:kH hi hi'=true) (h3:kH mx mx'=true)
    {l off len cap:Nat} {mS:Mem} (hxv:x'.ev g= .sl l off len cap) {ok:Bool} {v:AV} (hev:mU es mS (.sl l off len cap) (lo'.map (·.ev g)) (hi'.map (·.ev g)) (mx'.map (·.ev g))=some ⟨ok,v,none⟩) (hok:ok=true):
    (∃ r,∀ w',(execOp a.eval o).run P w'= .ok (.value r) w')/\∃ o2 n2 c2,v= .sl l o2 n2 c2:=by
  have hx:=aP hE hx
  have hlo:=jX hE h1
  have hhi:=jX hE h2
  have hmx:=jX hE h3
  rw [hxv]at hx
  generalize hra:a.eval x=r at hx
  have hrun:∀ (ad:Option Addr) (len cap l h q:Nat),r= .slice ad len cap->(∀ w',(Instr.sliceBounds true len cap (lo.map a.eval) (hi.map a.eval) (mx.map a.eval)).run P w'= .ok (l,h,q) w')->
      ∀ w',(execOp a.eval o).run P w'= .ok (.value (.slice (if q=l then ad else ad.map (·.add (l*es))) (h - l) (q - l))) w':=by
    intro ad len cap l h q hr hb w'
    simp [execOp,ho,hra,hr,Instr.sliceAt,Instr.slice,run_underlying ht,hb w',gA w' hs]
  simp only [mU]at hev
  split at hev
  · rename_i blk _
    cases hbe:blk.es == es
    case false=>simp [hbe]at hev
    simp only [hbe,cond_true]at hev
    cases hb:bnds len cap (lo'.map (·.ev g)) (hi'.map (·.ev g)) (mx'.map (·.ev g))with
    | none=>simp [hb]at hev
    | some q =>
      obtain⟨c,b,h,q⟩:=q
      simp only [hb,Option.map_some,Option.some.injEq,Out.mk.injEq,and_true]at hev
      obtain⟨rfl,rfl⟩:=hev
      refine⟨?_,_,_,_,rfl⟩
      cases hx with
      | sl0 _ _ ad=>exact ⟨_,hrun _ _ _ _ _ _ rfl (fun w'=>(iK (P:=P) (w:=w') hlo hhi hmx hb hok (Nat.le_refl _) true).1)⟩
      | sl0n _ _=>exact ⟨_,hrun _ _ _ _ _ _ rfl (fun w'=>(iK (P:=P) (w:=w') hlo hhi hmx hb hok (Nat.le_refl _) true).1)⟩
      | sl _ _ _ _ e q1 q2 q3=>exact ⟨_,hrun _ _ _ _ _ _ rfl (fun w'=>(iK (P:=P) (w:=w') hlo hhi hmx hb hok q2 true).1)⟩
  · cases hev
theorem sl_move {h h':Array Obj} {L L':Lay} {O O':Nat->Prop} {l o n c:Nat} {r:Value} (hL:∀ l e,L l=some e->L' l=some e) (hv:VR h L O (.sl l o n c) r):VR h' L' O' (.sl l o n c) r:=by
 cases hv with
 | sl0 _ _ ad=>exact .sl0 _ _ _
 | sl0n _ _=>exact .sl0n _ _
 | sl _ _ _ _ e q1 q2 q3=>exact .sl _ _ _ _ e (hL _ _ q1) q2 q3
theorem lk_sound (hR0:MRel (C0.here m0 w0 L0) m0 w0 L0) (H:HRel (C0.here m0 w0 L0) n hs e m a w L) (G:GR (C0.here m0 w0 L0) m0 w0 L0 g a) {op:AOp} (hc:dT P o.op op=true)
    {K:AV->AV->Prop} (hvc:vcLk e g m (flM keep m0) op K):∃ v u r,K v u/\(∀ w',(uJ op=true\/SP (C0.here m0 w0 L0) keep m0 w')->(execOp a.eval o).run P w'= .ok (.value r) w')/\VR w.heap L (OO (CX (C0.here m0 w0 L0) hs m w L) m L) v r/\VR w0.heap L0 (OO (C0.here m0 w0 L0) m0 L0) u r:=by
  have second:vcLk2 e m op K->∃ v u r,K v u/\(∀ w',(uJ op=true\/SP (C0.here m0 w0 L0) keep m0 w')->(execOp a.eval o).run P w'= .ok (.value r) w')/\VR w.heap L (OO (CX (C0.here m0 w0 L0) hs m w L) m L) v r/\VR w0.heap L0 (OO (C0.here m0 w0 L0) m0 L0) u r:=by
    intro h
    unfold vcLk2 at h
    cases hr:uJ op with
    | false=>rw [hr]at h;exact h.elim
    | true =>
      rw [hr]at h
      simp only [cond_true]at h
      split at h
      · rename_i ok v hev
        obtain⟨hok,hK⟩:=dB h
        obtain⟨r,w',L',_,h1,h2,h3,h4⟩:=iV H.memX H.env hc hev hok
        obtain⟨rfl,rfl,hrun⟩:=h4 rfl
        exact⟨v,flt v,r,hK,fun w2 _=>nZ hc hr hrun w2,h3,flt_vr h3⟩
      · exact h.elim
  have third:vcLk3 e g m op K->∃ v u r,K v u/\(∀ w',(uJ op=true\/SP (C0.here m0 w0 L0) keep m0 w')->(execOp a.eval o).run P w'= .ok (.value r) w')/\VR w.heap L (OO (CX (C0.here m0 w0 L0) hs m w L) m L) v r/\VR w0.heap L0 (OO (C0.here m0 w0 L0) m0 L0) u r:=by
    intro h
    unfold vcLk3 at h
    split at h
    case h_7=>exact second h
    case h_6=>
      rename_i off x
      split at h
      case h_2=>exact h.elim
      rename_i n' get j hxv
      obtain⟨s,f,cx,ho,hf,hx⟩:=chk_fldA hc
      obtain⟨r,h1,h2⟩:=fldA_still (o:=o) G ho hf hx hxv
      exact⟨_,_,r,h,fun w' _=>h1 w',h2.ext (ext0 hR0 H),h2⟩
    case h_5=>
      rename_i sz ag x
      split at h
      case h_2=>exact h.elim
      rename_i n' get j hxv
      split at h
      case h_2=>exact h.elim
      rename_i ok v hev
      obtain⟨hok,hK⟩:=dB h
      obtain⟨t,cx,ho,ha,hs',hx⟩:=chk_load hc
      obtain⟨r,h1,h2⟩:=load_still (o:=o) G ho ha hs' hx hxv hev hok
      refine⟨v,v,r,hK,fun w' hw'=>h1 w' (fun b hb hO=> ?_),h2.ext (ext0 hR0 H),h2⟩
      rcases hw' with hreg | ⟨L1,hS1⟩
      · exact absurd hreg (by simp [uJ])
      · exact(extS hR0 hS1).heap b hb hO
    case h_4=>
      rename_i x
      obtain⟨r,w',L',_,h1,h2,h3,h4⟩:=iV H.memX H.env hc (out:=⟨true,x.ev e,none⟩) rfl rfl
      obtain⟨rfl,rfl,hrun⟩:=h4 rfl
      obtain⟨r0,w1,L1,_,k1,k2,k3,k4⟩:=iV hR0 (e:=g) G hc (out:=⟨true,x.ev g,none⟩) rfl rfl
      obtain⟨rfl,rfl,hrun0⟩:=k4 rfl
      have e1:=nZ hc rfl hrun0 w'
      rw [hrun]at e1
      have:r=r0:=by injection e1 with e1 _;injection e1
      subst this
      exact⟨_,_,r,h,fun w2 _=>nZ hc rfl hrun w2,h3,k3⟩
    case h_1=>
      rename_i es x i
      split at h
      case h_2=>exact h.elim
      rename_i es' len cap get hxv
      split at h
      case h_2=>exact h.elim
      rename_i ok v hev
      obtain⟨hok,hK⟩:=dB h
      obtain⟨t,el,cx,cy,ho,ht,hs',hx,hy⟩:=chk_idxA hc
      obtain⟨r,h1,h2⟩:=idxA_still (o:=o) G ho ht hs' hx hy hxv hev hok
      exact⟨v,v,r,hK,fun w' _=>h1 w',h2.ext (ext0 hR0 H),h2⟩
    case h_2=>
      rename_i es x lo hi mx
      split at h
      case h_2=>exact h.elim
      rename_i es' len cap get hxv
      split at h
      case h_2=>exact h.elim
      rename_i ok v hev
      obtain⟨hok,hK⟩:=dB h
      obtain⟨t,el,cx,clo,chi,cmx,ho,ht,hs',hx,g1,g2,g3⟩:=chk_slice hc
      obtain⟨r,h1,h2⟩:=slice_still (o:=o) G ho ht hs' hx g1 g2 g3 hxv hev hok
      exact⟨v,v,r,hK,fun w' _=>h1 w',h2.ext (ext0 hR0 H),h2⟩
    case h_3=>
      rename_i n' es x
      split at h
      case h_2=>exact h.elim
      rename_i es' len cap get hxv
      split at h
      case h_2=>exact h.elim
      rename_i ok v hev
      obtain⟨hok,hK⟩:=dB h
      obtain⟨t,el,cx,ho,ht,hx⟩:=chk_arrp hc
      obtain⟨r,h1,h2⟩:=arrp_still (o:=o) G ho ht hx hxv hev hok
      exact⟨v,v,r,hK,fun w' _=>h1 w',h2.ext (ext0 hR0 H),h2⟩
  have fourth:vcLk1 e g m (flM keep m0) op K->∃ v u r,K v u/\(∀ w',(uJ op=true\/SP (C0.here m0 w0 L0) keep m0 w')->(execOp a.eval o).run P w'= .ok (.value r) w')/\VR w.heap L (OO (CX (C0.here m0 w0 L0) hs m w L) m L) v r/\VR w0.heap L0 (OO (C0.here m0 w0 L0) m0 L0) u r:=by
    intro hvc
    unfold vcLk1 at hvc
    split at hvc
    · rename_i ok v hev
      cases hd:det3 false v with
      | false=>rw [hd]at hvc;exact third hvc
      | true =>
        rw [hd]at hvc
        simp only [cond_true]at hvc
        obtain⟨hok,hK⟩:=dB hvc
        have at_:∀ {w1:World} {L1:Lay},MRel (C0.here m0 w0 L0) (flM keep m0) w1 L1->∃ r,(execOp a.eval o).run P w1= .ok (.value r) w1/\VR w1.heap L1 (OO (C0.here m0 w0 L0) (flM keep m0) L1) v r:=by
          intro w1 L1 hS
          have hx:=extS hR0 hS
          obtain⟨r,w',L',_,h1,h2,h3,h4⟩:=iV hS (e:=g) (fun t=>(G t).ext hx) hc hev hok
          obtain⟨rfl,rfl,hrun⟩:=h4 rfl
          exact⟨r,hrun,h3⟩
        have hS0:MRel (C0.here m0 w0 L0) (flM keep m0) w0 (layR m0 L0):=keepS hR0 (xB keep m0)
        obtain⟨r,h1,h2⟩:=at_ hS0
        have hLL:∀ l e,layR m0 L0 l=some e->l<m0.length/\L l=some e/\L0 l=some e:=by
          intro l e hl
          by_cases hlt:l<m0.length
          · rw [qX hlt]at hl
            exact⟨hlt,by rw [<- hl];exact(H.memC.base l hlt).2,hl⟩
          · rw [layR_ge hlt]at hl;cases hl
        refine⟨v,v,r,hK,fun w1 hw1=> ?_,det3_move hd (.inr fun l e hl=>(hLL l e hl).2.1) h2,det3_move hd (.inr fun l e hl=>(hLL l e hl).2.2) h2⟩
        rcases hw1 with hreg | ⟨L1,hS1⟩
        · exact nZ hc hreg h1 w1
        obtain⟨r1,k1,k2⟩:=at_ hS1
        have:r=r1:=det3_same hd (fun l e e' g1 g2=>by
          obtain⟨q1,q2,q3⟩:=hLL l e g1
          have:L1 l=L0 l:=(hS1.base l q1).2
          rw [this,q3]at g2
          exact Option.some.inj g2) h2 k2
        rw [this];exact k1
    · exact third hvc
  unfold vcLk at hvc
  split at hvc
  · rename_i c x y
    split at hvc
    case h_2=>exact hvc.elim
    rename_i b hb
    obtain⟨cc,cx,cy,ho,h1,h2,h3⟩:=chk_pick hc
    have e1:=aP H.env h1
    rw [hb]at e1
    have hcv:a.eval cc= .bool b:=by
      generalize a.eval cc=q at e1
      cases e1;rfl
    refine⟨_,_,if b then a.eval cx else a.eval cy,hvc,fun w' _=>by simp [execOp,ho,hcv,asBool],?_,?_⟩
    · have hx:=aP H.env h2
      have hy:=aP H.env h3
      cases b <;> simp [hx,hy]
    · have hx:=aP (C:=C0.here m0 w0 L0) (w:=w0) (L:=L0) (m:=m0) (e:=g) G h2
      have hy:=aP (C:=C0.here m0 w0 L0) (w:=w0) (L:=L0) (m:=m0) (e:=g) G h3
      cases b <;> simp [hx,hy]
  · rename_i x
    obtain⟨r,w',L',_,h1,h2,h3,h4⟩:=iV H.memX H.env hc (out:=⟨true,x.ev e,none⟩) rfl rfl
    obtain⟨rfl,rfl,hrun⟩:=h4 rfl
    obtain⟨r0,w1,L1,_,k1,k2,k3,k4⟩:=iV hR0 (e:=g) G hc (out:=⟨true,x.ev g,none⟩) rfl rfl
    obtain⟨rfl,rfl,hrun0⟩:=k4 rfl
    have e1:=nZ hc rfl hrun0 w'
    rw [hrun]at e1
    have:r=r0:=by injection e1 with e1 _;injection e1
    subst this
    exact⟨_,_,r,hvc,fun w2 _=>nZ hc rfl hrun w2,h3,k3⟩
  · rename_i es x lo hi mx
    split at hvc
    case h_2=>exact fourth hvc
    rename_i l off len cap hxv
    split at hvc
    case h_2=>exact hvc.elim
    rename_i ok v hev
    obtain⟨hok,hK⟩:=dB hvc
    obtain⟨t,el,cx,clo,chi,cmx,ho,ht,hs',hx,g1,g2,g3⟩:=chk_slice hc
    obtain⟨⟨r,hr⟩,o2,n2,c2,rfl⟩:=slice_pure (o:=o) G ho ht hs' hx g1 g2 g3 hxv hev hok
    have hS0:MRel (C0.here m0 w0 L0) (flM keep m0) w0 (layR m0 L0):=keepS hR0 (xB keep m0)
    have hx0:=extS hR0 hS0
    obtain⟨r1,w',L',_,h1,h2,h3,h4⟩:=iV hS0 (e:=g) (fun t=>(G t).ext hx0) hc (out:=⟨ok,.sl l o2 n2 c2,none⟩) (by simp only [evD,hxv];exact hev) hok
    obtain⟨rfl,rfl,hrun⟩:=h4 rfl
    have e1:=hr w'
    rw [hrun]at e1
    have:r1=r:=by injection e1 with e1 _;injection e1
    subst this
    have hLL:∀ l e,layR m0 L0 l=some e->L l=some e/\L0 l=some e:=by
      intro l e hl
      by_cases hlt:l<m0.length
      · rw [qX hlt]at hl
        exact⟨by rw [<- hl];exact(H.memC.base l hlt).2,hl⟩
      · rw [layR_ge hlt]at hl;cases hl
    exact⟨_,_,r1,hK,fun w2 _=>hr w2,sl_move (fun l e h=>(hLL l e h).1) h3,sl_move (fun l e h=>(hLL l e h).2) h3⟩
  · exact fourth hvc
theorem look_sound (hR0:MRel (C0.here m0 w0 L0) m0 w0 L0) (H:HRel (C0.here m0 w0 L0) n hs e m a w L) (G:GR (C0.here m0 w0 L0) m0 w0 L0 g a) {ops:Array Oper} (hc:nA P n ops o ao=true)
    (hds:∀ h,h ∈ hs->ao.dst ≠ some h.d) {K:Env->Env->Prop} (hvc:vcLook ao e g m (flM keep m0) K):
    ∃ r e' g', YieldsIf P ops (fun w' => uJ ao.op = true ∨ SP (C0.here m0 w0 L0) keep m0 w') o r a ∧ K e' g' ∧ HRel (C0.here m0 w0 L0) n hs e' m (a.put o.dst r) w L ∧ GR (C0.here m0 w0 L0) m0 w0 L0 g' (a.put o.dst r) ∧ o.dst = ao.dst ∧
      (∀ d,e.get d= .un->ao.dst ≠ some d->e'.get d= .un)/\(∀ d,g.get d= .un->ao.dst ≠ some d->g'.get d= .un):=by
  simp only [nA,Bool.and_eq_true]at hc
  obtain⟨hd,hg,hop⟩:=hc
  have hdst:o.dst=ao.dst/\∀ d',ao.dst=some d'->d'<n:=by
    unfold dstOk at hd
    split at hd
    · rename_i h1 h2;rw [h1,h2];exact⟨rfl,fun _ h=>by cases h⟩
    · rename_i d d' h1 h2
      simp only [Bool.and_eq_true,beq_iff_eq,Nat.blt_eq]at hd
      obtain⟨rfl,hlt⟩:=hd
      rw [h1,h2]
      exact⟨rfl,fun _ h=>by cases h;exact hlt⟩
    · cases hd
  obtain⟨hde,hdlt⟩:=hdst
  have putS:∀ {e1:Env} {v:AV} {r:Value},ERel (CX (C0.here m0 w0 L0) hs m w L) e1 m a w L->VR w.heap L (OO (CX (C0.here m0 w0 L0) hs m w L) m L) v r->HRel (C0.here m0 w0 L0) n hs (putE e1 ao.dst v) m (a.put o.dst r) w L:=by
    intro e1 v r hE hv
    refine⟨by rw [mW];exact H.size,by rw [Wit.put_defers];exact H.defers,H.memC,H.memX,by rw [hde];exact hE.put H.size hdlt hv,fun h hh=> ?_,H.pair⟩
    obtain⟨h1,h2,h2',h3,h4⟩:=H.hid h hh
    refine⟨h1,h2,h2',h3,fun heap L2 O l hl=> ?_⟩
    have:(a.put o.dst r).tmps.getD h.d undef=a.tmps.getD h.d undef:=by
      rw [hde]
      cases hq:ao.dst with
      | none=>rfl
      | some q=>exact dX (fun h5=>hds h hh (by rw [hq,h5]))
    rw [this];exact h4 _ _ _ _ hl
  have putG:∀ {u:AV} {r:Value},VR w0.heap L0 (OO (C0.here m0 w0 L0) m0 L0) u r->GR (C0.here m0 w0 L0) m0 w0 L0 (putE g ao.dst u) (a.put o.dst r):=by
    intro u r hu t
    rw [hde]
    cases hq:ao.dst with
    | none=>exact G t
    | some d =>
      have hlt:=hdlt d hq
      rcases Env.set_upd g d u t with h | ⟨h1,h2⟩ | ⟨h1,h2⟩
      · rw [show (putE g (some d) u).get t= .un from h];exact .un _
      · rw [show (putE g (some d) u).get t=g.get t from h2,dX h1];exact G t
      · rw [show (putE g (some d) u).get t=u from h2,h1,put_get (by rw [H.size];exact hlt)];exact hu
  have hrun:∀ {e1:Env},ERel (CX (C0.here m0 w0 L0) hs m w L) e1 m a w L->(∀ d,e.get d= .un->e1.get d= .un)->vcLk e1 g m (flM keep m0) ao.op (fun v u=>putK e1 ao.dst v fun e=>putK g ao.dst u fun g=>K e g)->
      ∃ r e' g', (∀ w', (uJ ao.op = true ∨ SP (C0.here m0 w0 L0) keep m0 w') → (execOp a.eval o).run P w' = .ok (.value r) w') ∧ K e' g' ∧ HRel (C0.here m0 w0 L0) n hs e' m (a.put o.dst r) w L ∧ GR (C0.here m0 w0 L0) m0 w0 L0 g' (a.put o.dst r) ∧
        (∀ d,e.get d= .un->ao.dst ≠ some d->e'.get d= .un)/\(∀ d,g.get d= .un->ao.dst ≠ some d->g'.get d= .un):=by
    intro e1 hE1 hun h
    obtain⟨v,u,r,h1,h2,h3,h4⟩:=lk_sound hR0 (e:=e1) ⟨H.size,H.defers,H.memC,H.memX,hE1,H.hid,H.pair⟩ G hop h
    rw [jF,jF]at h1
    exact⟨r,_,_,h2,h1,putS hE1 h3,putG h4,fun d hd hne=>lU (hun d hd) hne,fun d hd hne=>lU hd hne⟩
  unfold vcLook at hvc
  unfold guardOk at hg
  split at hg
  · rename_i h1 h2
    rw [h2]at hvc
    simp only at hvc
    obtain⟨r,e',g',k1,k2,k3,k4,k5,k6⟩:=hrun H.env (fun _ h=>h) hvc
    exact⟨r,e',g',.inl ⟨by simp [Region.wanted,h1],k1⟩,k2,k3,k4,hde,k5,k6⟩
  · rename_i j b t b' h1 h2
    rw [h2]at hvc
    simp only at hvc
    simp only [Bool.and_eq_true,beq_iff_eq]at hg
    obtain⟨rfl,hg⟩:=hg
    split at hg
    · rename_i oj hoj
      split at hg
      · rename_i d hd
        have:d=t:=by simpa using hg
        subst this
        split at hvc
        · rename_i bb hbb
          have hy:yielded ops a.tmps j=some bb:=by
            simp [yielded,hoj,hd,rT H.env hbb]
          have hw:Region.wanted o (yielded ops a.tmps)=(bb == b):=by
            simp only [Region.wanted,h1,hy]
            cases bb <;> cases b <;> rfl
          have hval:a.tmps.getD d undef= .bool bb:=by rw [Array.getD_eq_getD_getElem?,rT H.env hbb];rfl
          rcases mE hvc with⟨hb,hv⟩ | ⟨hb,hv⟩
          · rw [Env.setK_eq]at hv
            obtain⟨r,e',g',k1,k2,k3,k4,k5,k6⟩:=hrun (H.env.refine (by rw [hval,beq_iff_eq.1 hb];exact .bool _)) (fun s hs=>set_un hbb hs) hv
            exact⟨r,e',g',.inl ⟨by rw [hw];exact hb,k1⟩,k2,k3,k4,hde,k5,k6⟩
          · rw [Env.setK_eq,jF,jF]at hv
            have hE':ERel (CX (C0.here m0 w0 L0) hs m w L) (e.set d (.bool (!b))) m a w L:=H.env.refine (by
              rw [hval]
              have:bb= !b:=by cases bb <;> cases b <;> simp at hb ⊢
              rw [this];exact .bool _)
            exact⟨undef,_,_,.inr ⟨by rw [hw,hb],rfl⟩,hv,putS hE' mQ,putG mQ,hde,fun s hs hne=>lU (set_un hbb hs) hne,fun s hs hne=>lU hs hne⟩
        · rename_i hbb
          have hw:Region.wanted o (yielded ops a.tmps)=false:=by
            simp only [Region.wanted,h1,pN hoj hd (undef_of H.env hbb)]
            rfl
          rw [jF,jF]at hvc
          exact⟨undef,_,_,.inr ⟨hw,rfl⟩,hvc,putS H.env mQ,putG mQ,hde,fun s hs hne=>lU hs hne,fun s hs hne=>lU hs hne⟩
        · exact hvc.elim
      · cases hg
    · cases hg
  · cases hg
end
end Go.Wit
end

section
namespace Go.Wit
def fOfL (l:List AOpr) (i:Nat):Option (Nat × (Nat->AV) × Blk):=match l[i]? with | some o=>fOf o | none=>none
def isAl (l:List AOpr) (i:Nat):Bool:=match l[i]? with | some ⟨some _,.alloc _ _ _,none⟩=>true | _=>false
def sOf (l:List AOpr) (s:Nat):Option (Nat × Nat × Nat):=match l[s]? with | some ⟨none,.store sz (.t d) (.t v),none⟩=>some (sz,d,v) | _=>none
abbrev FS:=List (Nat × Option Nat)
def fsI (fs:FS):List Nat:=fs.map (·.1)++fs.filterMap (·.2)
def rD (l:List AOpr) (ps:List (Nat × AV)) (p:Nat × Option Nat):Option (Nat × (Nat->AV) × Blk):=
  match fOfL l p.1 with
  | none=>none
  | some (d, val, blk) => match p.2 with
    | none=>some (d,val,blk)
    | some s => match sOf l s, ps.lookup s with
      | some (sz,_,_),some v=>(storeB sz v blk).map fun b=>(d,val,b)
      | _,_=>none
noncomputable def fillK (l:List AOpr) (ps:List (Nat × AV)) (fs:FS):Env->Mem->(Env->Mem->Prop)->Prop:=
 List.rec (motive:=fun _=>Env->Mem->(Env->Mem->Prop)->Prop) (fun e m K=>K e m)
  (fun p _ ih e m K=>match rD l ps p with
   | some (d,val,blk)=>memK (m++ [some blk]) fun m'=>putK e (some d) (val m.length) fun e'=>ih e' m' K
   | none=>False) fs
noncomputable def keepK (keep:Keep) (kp:Bool) (m0 m:Mem) (X:Prop):Prop:=bif kp then (match keep with
 | .no=>X
 | .all=>(∃ t,m=m0++t)/\X
 | .shp=>(∃ t,shpM m=shpM m0++t)/\X
 | .but ls=>(∃ t,butM ls m 0=butM ls m0 0++t)/\X)else X
theorem xC {keep:Keep} {kp:Bool} {m0 m:Mem} {X:Prop} (h:keepK keep kp m0 m X):(kp=true->keepR keep m0 m)/\X:=by
 unfold keepK at h
 cases kp with
 | false=>exact ⟨fun h=>Bool.noConfusion h,h⟩
 | true=>cases keep <;> first | exact⟨fun _=>trivial,h⟩ | exact⟨fun _=>h.1,h.2⟩
def blkF (k:Nat) (h:Bool):Blk->Blk
 | ⟨es,n,g⟩=>bif h then ⟨es,n,fun _ _=> .un⟩else ⟨es,n,fun i j=>fl0 k (g i j)⟩
noncomputable def mapBK (k:Nat) (hd:Nat->Bool) (m:Mem):Nat->(Mem->Prop)->Prop:=List.rec (motive:=fun _=>Nat->(Mem->Prop)->Prop) (fun _ K=>K [])
 (fun b _ ih i K=>match b with
  | none=>ih (i+1) fun r=>K (none::r)
  | some b=>match blkF k (hd i) b with | ⟨es,n,g⟩=>ih (i+1) fun r=>K (some ⟨es,n,g⟩::r)) m
noncomputable def flMK (keep:Keep) (m:Mem) (K:Mem->Prop):Prop:=match keep with
 | .no=>K (m.map fun _=>none)
 | .all=>mZ m.length fun k=>mapBK k (fun _=>false) m 0 K
 | .shp=>mapBK 0 (fun _=>true) m 0 K
 | .but ls=>mZ m.length fun k=>mapBK k (fun i=>ls.contains i) m 0 K
noncomputable def mapB (k:Nat) (hd:Nat->Bool) (m:Mem):Nat->Mem:=List.rec (motive:=fun _=>Nat->Mem) (fun _=> []) (fun b _ ih i=>b.map (blkF k (hd i))::ih (i+1)) m
theorem uL (k:Nat) (hd:Nat->Bool):∀ (m:Mem) (i:Nat) (K:Mem->Prop),mapBK k hd m i K=K (mapB k hd m i)
  | [],i,K=>rfl
  | none :: m, i, K => by
    show mapBK k hd m (i+1) (fun r=>K (none::r))=K (none::mapB k hd m (i+1))
    rw [uL k hd m]
  | some b :: m, i, K => by
    show mapBK k hd m (i+1) (fun r=>K (some (blkF k (hd i) b)::r))=K (some (blkF k (hd i) b)::mapB k hd m (i+1))
    rw [uL k hd m]
theorem blkF_eq (k:Nat) (h:Bool):blkF k h=flB k h:=by
 funext b;cases b;cases h <;> rfl
theorem aBo (k:Nat) (hd:Nat->Bool):∀ (m:Mem) (i l:Nat),(mapB k hd m i)[l]? = (m[l]?).map fun b=>b.map (flB k (hd (i+l)))
  | [],i,l=>by show ([] :Mem)[l]? = _;simp
  | b :: m, i, 0 => by
    show (b.map (blkF k (hd i))::mapB k hd m (i+1))[0]? = _
    rw [blkF_eq];simp
  | b :: m, i, l + 1 => by
    show (_::mapB k hd m (i+1))[l+1]? = _
    rw [List.getElem?_cons_succ,List.getElem?_cons_succ,aBo k hd m (i+1) l,show i+1+l=i+(l+1) by omega]
theorem flMK_eq (keep:Keep) (m:Mem) (K:Mem->Prop):flMK keep m K=K (flM keep m):=by
  cases keep with
  | no=>rfl
  | all =>
    show mZ m.length (fun k=>mapBK k (fun _=>false) m 0 K)=_
    rw [oZ,uL];congr 1
    refine List.ext_getElem? fun l=> ?_
    rw [aBo]
    simp only [flM,List.getElem?_map];rfl
  | shp =>
    show mapBK 0 (fun _=>true) m 0 K=_
    rw [uL];congr 1
    refine List.ext_getElem? fun l=> ?_
    rw [aBo]
    simp only [flM,List.getElem?_map];rfl
  | but ls =>
    show mZ m.length (fun k=>mapBK k _ m 0 K)=_
    rw [oZ,uL];congr 1
    refine List.ext_getElem? fun l=> ?_
    rw [aBo]
    simp only [flM]
    rw [butF_get]
noncomputable def resL (e:Env) (ts:List Nat):(List Nat->Prop)->Prop:=List.rec (motive:=fun _=>(List Nat->Prop)->Prop) (fun K=>K []) (fun t _ ih K=>match e.get t with
 | .ptr l _ _=>mZ l fun l=>ih fun ls=>K (l::ls)
 | .sl l _ _ _=>mZ l fun l=>ih fun ls=>K (l::ls)
 | _=>False) ts
noncomputable def resK (e:Env) (keep:Keep) (K:Keep->Prop):Prop:=match keep with
 | .but ts=>resL e ts fun ls=>K (.but ls)
 | .no=>K .no
 | .all=>K .all
 | .shp=>K .shp
theorem resL_spec {e:Env}:∀ {ts:List Nat} {K:List Nat->Prop},resL e ts K->∃ ls,K ls
  | [],K,h=>⟨[],h⟩
  | t :: ts, K, h => by
    change (match e.get t with | .ptr l _ _=>mZ l fun l=>resL e ts fun ls=>K (l::ls) | .sl l _ _ _=>mZ l fun l=>resL e ts fun ls=>K (l::ls) | _=>False)at h
    split at h
    · rw [oZ]at h
      obtain⟨ls,h⟩:=resL_spec h
      exact⟨_,h⟩
    · rw [oZ]at h
      obtain⟨ls,h⟩:=resL_spec h
      exact⟨_,h⟩
    · exact h.elim
theorem resK_spec {e:Env} {keep:Keep} {K:Keep->Prop} (h:resK e keep K):∃ k,K k:=by
 cases keep with
 | but ts=>obtain ⟨ls,h⟩:=resL_spec h;exact⟨_,h⟩
 | _=>exact ⟨_,h⟩
noncomputable def jR (P:Program) (l:List AOpr) (keep:Keep) (mS m0:Mem) (fs:FS) (K:Env->Mem->Prop) (p:DPlan):List (Nat × AV)->Env->Env->Mem->Prop:=
  DPlan.rec (motive:=fun _=>List (Nat × AV)->Env->Env->Mem->Prop)
    (fun _ _ _ _=>False)
    (fun _ e _ m=>K e m)
    (fun i _ ih ps e g m=>match l[i]? with
      | some o=>vcLook o e g m mS fun e g=>ih ps e g m
      | none=>False)
    (fun i kp _ ih ps e g m=>match l[i]? with
      | some o => vcOp P o e m fun e' m' => keepK keep kp m0 m' (match o.dst with
        | none=>ih ps e' g m'
        | some d=>putK g (some d) (flt (e'.get d)) fun g'=>ih ps e' g' m')
      | none=>False)
    (fun f s _ ih ps e g m=>match fOfL l f,sOf l s with
      | some (d,_,blk),some (sz,d',v)=>dG ((d == d') && (det2 true (e.get v) && (storeB sz (e.get v) blk).isSome)) (sS (e.get v) fun x=>ih ((s,x)::ps) e g m) False
      | _,_=>False)
    (fun _ ih ps e g m=>fillK l ps fs e m fun e m=>ih ps e g m)
    (fun kp i _ j _ ihp ihq ps e g m=>
      (match l[i]? with
      | some o => vcOp P o e m fun e' m' => keepK keep kp m0 m' (match o.dst with
        | none=>ihp ps e' g m'
        | some d=>putK g (some d) (flt (e'.get d)) fun g'=>ihp ps e' g' m')
      | none=>False)/\
      (match l[j]? with
      | some o => vcOp P o e m fun e' m' => keepK keep kp m0 m' (match o.dst with
        | none=>ihq ps e' g m'
        | some d=>putK g (some d) (flt (e'.get d)) fun g'=>ihq ps e' g' m')
      | none=>False)) p
def bndB (ops:Array Oper) (j q:Nat):Bool:=match ops[j]? with | some oj=>oj.after.any (fun e=>Region.binds .any e && e.on == q) | none=>false
def prIn (ops:Array Oper) (j:Nat) (S:List Nat):Bool:=match ops[j]? with | some oj=>oj.after.all (fun e=> !Region.binds .any e || S.contains e.on) | none=>false
def apt (ops:Array Oper) (i j:Nat):Bool:=match ops[i]?,ops[j]? with | some a,some b=>a.apart ops b | _,_=>true
def chkI (P:Program) (n:Nat) (ops:Array Oper) (l:List AOpr) (i:Nat):Bool:=match ops[i]?,l[i]? with | some o,some ao=>nA P n ops o ao | _,_=>false
def fdNe (l:List AOpr) (fs:FS) (d:Nat):Bool:=fs.all fun q=>match fOfL l q.1 with | some (d',_,_)=>d' != d | none=>false
def dstNot (l:List AOpr) (fs:FS) (pv:List Nat) (i:Nat):Bool:=match l[i]? with
 | some o=>(match o.dst with | some d=> !(pv.contains d) && fdNe l fs d | none=>true)
 | none=>false
def chkT (ops:Array Oper):List Nat->List Nat->Bool
 | [],_=>true
 | t::ts,S=>prIn ops t S && chkT ops ts (t::S)
def DPlan.looks:DPlan->List Nat
 | .flat=> []
 | .done=> []
 | .look i p=>i::p.looks
 | .run _ _ p=>p.looks
 | .pre _ _ p=>p.looks
 | .fill p=>p.looks
 | .two _ _ p _ q=>p.looks++q.looks
def descB (ops:Array Oper) (i:Nat) (D:List Nat) (j:Nat):Bool:=match ops[j]? with | some oj=>oj.after.any (fun e=>Region.binds .any e && (e.on == i || D.contains e.on)) | none=>false
noncomputable def desc (ops:Array Oper) (i:Nat) (l:List Nat):List Nat->List Nat:=List.rec (motive:=fun _=>List Nat->List Nat) (fun D=>D) (fun j _ ih D=>ih (bif descB ops i D j then j::D else D)) l
noncomputable def bndT (ops:Array Oper) (j i:Nat):Bool:=(desc ops i (List.range ops.size) []).contains j
noncomputable def ndB1 (ops:Array Oper) (lk:List Nat) (j:Nat):Bool:= !(lk.all (bndT ops j))
inductive Anc (ops:Array Oper):Nat->Nat->Prop where
 | base (j i:Nat):bndB ops j i=true->Anc ops j i
 | step (j k i:Nat):bndB ops j k=true->Anc ops k i->Anc ops j i
theorem desc_anc {ops:Array Oper} {i:Nat}:∀ {l D:List Nat},(∀ j,j ∈ D->Anc ops j i)->∀ j,j ∈ desc ops i l D->Anc ops j i
  | [],D,hD,j,h=>hD j h
  | q :: l, D, hD, j, h => by
    refine desc_anc (l:=l) (D:=bif descB ops i D q then q::D else D) (fun k hk=> ?_) j h
    cases hb:descB ops i D q with
    | false=>rw [hb]at hk;exact hD k hk
    | true =>
      rw [hb]at hk
      rcases List.mem_cons.1 hk with rfl | hk
      · unfold descB at hb
        split at hb
        · rename_i oj hoj
          obtain⟨ed,h1,h2⟩:=Array.any_eq_true'.1 hb
          simp only [Bool.and_eq_true,Bool.or_eq_true,beq_iff_eq]at h2
          have hbnd:bndB ops k ed.on=true:=by
            unfold bndB;rw [hoj];simp only
            exact Array.any_eq_true'.2 ⟨ed,h1,by simp [h2.1]⟩
          rcases h2.2 with h3 | h3
          · rw [<- h3];exact .base _ _ hbnd
          · exact .step _ _ _ hbnd (hD _ (by simpa using h3))
        · cases hb
      · exact hD k hk
theorem bndT_anc {ops:Array Oper} {j i:Nat} (h:bndT ops j i=true):Anc ops j i:=
 desc_anc (D:= []) (fun j h=>by simp at h) j (by simpa [bndT]using h)
def regI (l:List AOpr) (i:Nat):Bool:=match l[i]? with | some o=>uJ o.op | none=>false
def DPlan.loads (l:List AOpr) (p:DPlan):List Nat:=p.looks.filter fun i=> !(regI l i)
noncomputable def jH (P:Program) (n:Nat) (ops:Array Oper) (l:List AOpr) (lkA lk:List Nat):DPlan->Bool->FS->List Nat->List Nat->List Nat->Bool
 | .flat,_,_,_,_,_=>false
 | .done,_,fs,LC,_,_=>fs.isEmpty && (List.range ops.size).all LC.contains
 | .look i p,kc,fs,LC,pre,pv=>lkA.contains i && ((regI l i || (kc && lk.contains i)) && (chkI P n ops l i && (!(LC.contains i) && (!((fsI fs).contains i) && (prIn ops i LC && (((List.range ops.size).all fun j=>j == i || (LC.contains j || (bndB ops j i || apt ops i j))) &&
  (dstNot l fs pv i && jH P n ops l lkA lk p kc fs (i::LC) pre pv)))))))
 | .run i kp p,kc,fs,LC,pre,pv=> !(lkA.contains i) && ((kp || !(ndB1 ops lk i)) && ((kc || (!kp && fs.isEmpty)) && ((kp || fs.isEmpty) && (chkI P n ops l i && (!(LC.contains i) && (!((fsI fs).contains i) && (prIn ops i LC && (((List.range ops.size).all fun j=>j == i || (LC.contains j || ((fs.map (·.1)).contains j || (pre.contains j || !(prIn ops j (LC++fsI fs)))))) &&
  (dstNot l fs pv i && jH P n ops l lkA lk p (kc && kp) fs (i::LC) pre pv)))))))))
 | .pre f s p,kc,fs,LC,pre,pv=>kc && (fs.contains (f,some s) && (isAl l f && (!(pre.contains s) && ((match sOf l s with | some (_,d,v)=>d != v && (Nat.blt d 4000 && (Nat.blt v 4000 && (fdNe l fs v && jH P n ops l lkA lk p kc fs LC (s::pre) (v::pv)))) | none=>false)))))
 | .fill p,kc,fs,LC,pre,_=>kc && (!fs.isEmpty && ((fs.all fun q=>match q.2 with | some s=>pre.contains s | none=>true) && (chkT ops (fsI fs) LC && (((List.range ops.size).all fun j=>LC.contains j || ((fsI fs).contains j || (fsI fs).all (bndB ops j))) &&
  jH P n ops l lkA lk p kc [] (fsI fs++LC) [] []))))
 | .two kp i p j q,kc,fs,LC,pre,pv=>(kc || (!kp && fs.isEmpty)) && ((kp || fs.isEmpty) && ((!(lkA.contains i) && ((kp || !(ndB1 ops lk i)) && (chkI P n ops l i && (!(LC.contains i) && (!((fsI fs).contains i) && (prIn ops i LC && (dstNot l fs pv i && jH P n ops l lkA lk p (kc && kp) fs (i::LC) pre pv))))))) &&
  ((!(lkA.contains j) && ((kp || !(ndB1 ops lk j)) && (chkI P n ops l j && (!(LC.contains j) && (!((fsI fs).contains j) && (prIn ops j LC && (dstNot l fs pv j && jH P n ops l lkA lk q (kc && kp) fs (j::LC) pre pv))))))) &&
  ((List.range ops.size).all fun k=>k == i || (k == j || (LC.contains k || ((fs.map (·.1)).contains k || (pre.contains k || !(prIn ops k (LC++fsI fs))))))))))
def ndN:List Nat->Bool
 | [] =>true
 | x::r=> !(r.contains x) && ndN r
def fdDist (l:List AOpr):FS->Bool
 | [] =>true
 | q::r=>(match fOfL l q.1 with | some (d,_,_)=>fdNe l r d | none=>false) && fdDist l r
def chkFS (P:Program) (n:Nat) (ops:Array Oper) (l:List AOpr) (fs:FS):Bool:=
 ndN (fsI fs) && (fdDist l fs && fs.all fun q=>chkI P n ops l q.1 && ((fOfL l q.1).isSome && (match q.2 with | some s=>chkI P n ops l s && (bndB ops s q.1 && (sOf l s).isSome) | none=>true)))
def DPlan.need:DPlan->Nat
 | .flat=>0
 | .done=>0
 | .look _ p=>p.need+1
 | .run _ _ p=>p.need+1
 | .pre _ _ p=>p.need
 | .fill p=>p.need
 | .two _ _ p _ q=>max p.need q.need+1
theorem aBn:∀ {l:List Nat},ndN l=true->l.Nodup
  | [],_=> .nil
  | x :: r, h => by
    simp only [ndN,Bool.and_eq_true,Bool.not_eq_true']at h
    refine List.nodup_cons.2 ⟨fun hx=> ?_,aBn h.2⟩
    have:=h.1
    simp at this
    exact this hx
theorem jZ {l:List AOpr} {fs:FS} {d:Nat} (h:fdNe l fs d=true) {q:Nat × Option Nat} (hq:q ∈ fs) {d':Nat} {val:Nat->AV} {blk:Blk} (hf:fOfL l q.1=some (d',val,blk)):d' ≠ d:=by
 have:=List.all_eq_true.1 h q hq
 simp only [hf,bne_iff_ne]at this
 exact this
theorem fdDist_spec {l:List AOpr}:∀ {fs:FS},fdDist l fs=true->∀ {q q':Nat × Option Nat},q ∈ fs->q' ∈ fs->q ≠ q'->∀ {d d':Nat} {val val':Nat->AV} {blk blk':Blk},fOfL l q.1=some (d,val,blk)->fOfL l q'.1=some (d',val',blk')->d ≠ d'
  | [],_,q,_,hq,_,_,_,_,_,_,_,_,_,_=>by simp at hq
  | x :: r, h, q, q', hq, hq', hne, d, d', val, val', blk, blk', h1, h2 => by
    simp only [fdDist,Bool.and_eq_true]at h
    obtain⟨h3,h4⟩:=h
    split at h3
    case h_2=>cases h3
    rename_i dx vx bx hx
    rcases List.mem_cons.1 hq with e1 | e1 <;> rcases List.mem_cons.1 hq' with e2 | e2
    · exact absurd (e1.trans e2.symm) hne
    · rw [e1,hx]at h1
      simp only [Option.some.injEq,Prod.mk.injEq]at h1
      rw [<- h1.1]
      exact(jZ h3 e2 h2).symm
    · rw [e2,hx]at h2
      simp only [Option.some.injEq,Prod.mk.injEq]at h2
      rw [<- h2.1]
      exact jZ h3 e1 h1
    · exact fdDist_spec h4 e1 e2 hne h1 h2
theorem kZ {fs:FS} {j:Nat}:j ∈ fsI fs ↔ (∃ q,q ∈ fs/\q.1=j)\/∃ q,q ∈ fs/\q.2=some j:=by simp [fsI]
theorem fs_unique {fs:FS} (hn:(fsI fs).Nodup) {q q':Nat × Option Nat} (hq:q ∈ fs) (hq':q' ∈ fs) (h:q.1=q'.1):q=q':=by
  have h1:(fs.map (·.1)).Nodup:=(List.nodup_append.1 hn).1
  have:∀ {fs:FS},(fs.map (·.1)).Nodup->q ∈ fs->q' ∈ fs->q=q':=by
    intro fs
    induction fs with
    | nil=>intro _ hq;simp at hq
    | cons x r ih =>
      intro hnd hq hq'
      simp only [List.map_cons,List.nodup_cons]at hnd
      rcases List.mem_cons.1 hq with e1 | e1 <;> rcases List.mem_cons.1 hq' with e2 | e2
      · exact e1.trans e2.symm
      · exact absurd (List.mem_map.2 ⟨q',e2,by rw [<- h,e1]⟩) hnd.1
      · exact absurd (List.mem_map.2 ⟨q,e1,by rw [h,e2]⟩) hnd.1
      · exact ih hnd.2 e1 e2
  exact this h1 hq hq'
theorem uP {fs:FS} (hn:(fsI fs).Nodup) {q q':Nat × Option Nat} (hq:q ∈ fs) (hq':q' ∈ fs) {s:Nat} (hs:q'.2=some s):q.1 ≠ s:=by
 have h1:=(List.nodup_append.1 hn).2.2
 exact h1 _ (List.mem_map.2 ⟨q,hq,rfl⟩) _ (List.mem_filterMap.2 ⟨q',hq',hs⟩)
section
variable {P:Program} {C0:Ctx} {n:Nat} {m0:Mem} {w0:World} {L0:Lay} {ops:Array Oper} {l:List AOpr} {keep:Keep}
structure St (C0:Ctx) (m0:Mem) (w0:World) (L0:Lay) (n:Nat) (l:List AOpr) (keep:Keep) (kc:Bool) (fs:FS) (pre pv Ex:List Nat) (ps:List (Nat × AV)) (hs:List HB) (e g:Env) (m:Mem) (a:Act) (w:World) (L:Lay):Prop where
 H:HRel (C0.here m0 w0 L0) n hs e m a w L
 G:GR (C0.here m0 w0 L0) m0 w0 L0 g a
 keepc:kc=true->keepR keep m0 m
 eun:∀ q,q ∈ fs->∀ d val blk,fOfL l q.1=some (d,val,blk)->e.get d= .un/\g.get d= .un
 ex:∀ j,j ∈ Ex->(∃ q,q ∈ fs/\q.1=j)\/j ∈ pre
 hmem:∀ h,h ∈ hs->h.i ∈ Ex/\∃ q,q ∈ fs/\q.1=h.i/\∃ blk0,fOfL l h.i=some (h.d,h.val,blk0)/\((h.blk=blk0/\∀ s,q.2=some s->s ∉ Ex)\/∃ s,q.2=some s/\s ∈ Ex/\rD l ps q=some (h.d,h.val,h.blk))
 hall:∀ q,q ∈ fs->q.1 ∈ Ex->∃ h,h ∈ hs/\h.i=q.1
 hnd:(hs.map (·.i)).Nodup
 sf:∀ q,q ∈ fs->∀ s,q.2=some s->s ∈ Ex->q.1 ∈ Ex
 pps:∀ s,s ∈ pre->∃ f d val blk v sz sv b,(f,some s) ∈ fs/\isAl l f=true/\fOfL l f=some (d,val,blk)/\sOf l s=some (sz,d,sv)/\ps.lookup s=some v/\det2 true v=true/\storeB sz v blk=some b/\
  VR #[] (fun _=>none) (fun _=>False) v (a.tmps.getD sv undef)/\sv ∈ pv/\d ≠ sv/\d<4000/\sv<4000/\fdNe l fs sv=true
theorem mF {i:Nat} (h:chkI P n ops l i=true):∃ o ao,ops[i]? = some o/\l[i]? = some ao/\nA P n ops o ao=true:=by
 unfold chkI at h
 split at h
 · rename_i o ao h1 h2;exact⟨o,ao,h1,h2,h⟩
 · cases h
theorem uT {o:Oper} {ao:AOpr} (h:nA P n ops o ao=true):o.dst=ao.dst/\(∀ d,ao.dst=some d->d<n)/\dT P o.op ao.op=true:=by
 simp only [nA,Bool.and_eq_true]at h
 obtain⟨hd,hg,hop⟩:=h
 unfold dstOk at hd
 split at hd
 · rename_i h1 h2;rw [h1,h2];exact⟨rfl,fun _ h=>(by cases h),hop⟩
 · rename_i d d' h1 h2
   simp only [Bool.and_eq_true,beq_iff_eq,Nat.blt_eq]at hd
   obtain⟨rfl,hlt⟩:=hd
   rw [h1,h2]
   exact⟨rfl,fun _ h=>by cases h;exact hlt,hop⟩
 · cases hd
theorem guard_spec {o:Oper} {ao:AOpr} (h:nA P n ops o ao=true) (hg:ao.guard=none):o.guard=none:=by
 simp only [nA,Bool.and_eq_true]at h
 have:=h.2.1
 unfold guardOk at this
 split at this
 · rename_i h1 h2;exact h1
 · rename_i h1 h2;rw [hg]at h2;cases h2
 · cases this
theorem wanted_none {o:Oper} (h:o.guard=none) (y:Nat->Option Bool):Region.wanted o y=true:=by simp [Region.wanted,h]
theorem St.fstep {kc:Bool} {fs:FS} {pre pv Ex:List Nat} {ps:List (Nat × AV)} {hs:List HB} {e g:Env} {m:Mem} {a:Act} {w:World} {L:Lay} (S:St C0 m0 w0 L0 n l keep kc fs pre pv Ex ps hs e g m a w L) (hfs:chkFS P n ops l fs=true) {j:Nat} (hj:j ∉ Ex)
    (hjf:(∃ q,q ∈ fs/\q.1=j)\/(j ∈ pre/\∀ q,q ∈ fs->q.2=some j->q.1 ∈ Ex)) {Q:Exit->Act->World->Prop} {next:Act->World->Prop} (hnext:∀ hs' a' w',St C0 m0 w0 L0 n l keep kc fs pre pv (j::Ex) ps hs' e g m a' w' L->next a' w'):wpOp P ops Q j next a w:=by
  simp only [chkFS,Bool.and_eq_true]at hfs
  obtain⟨hn0,hdist,hall⟩:=hfs
  have hnd:=aBn hn0
  rcases hjf with⟨q,hq,rfl⟩ | ⟨hjp,hjF⟩
  · have hqa:=List.all_eq_true.1 hall q hq
    simp only [Bool.and_eq_true]at hqa
    obtain⟨hci,hsome,_⟩:=hqa
    obtain⟨o,ao,ho,hao,hc⟩:=mF hci
    obtain⟨⟨d,val,blk⟩,hf⟩:=Option.isSome_iff_exists.1 hsome
    have hf':fOf ao=some (d,val,blk):=by unfold fOfL at hf;rw [hao]at hf;exact hf
    obtain⟨f1,f2,_,_,_⟩:=fOf_spec (P:=P) hf'
    obtain⟨hde,hdn,hop⟩:=uT hc
    unfold wpOp
    rw [ho]
    simp only
    rw [if_pos (wanted_none (guard_spec hc f2) _)]
    refine .inl (S.H.make (i:=q.1) hop hde hf' (hdn d f1) (S.eun q hq d val blk hf).1 (fun h hh=> ?_) (fun h r w' h1 h2 h3 h4 h5=>hnext (h::hs) _ _ ?_))
    · obtain⟨k1,q',k2,k3,blk0,k4,_⟩:=S.hmem h hh
      have hne:q' ≠ q:=fun e=>hj (by rw [<- e,k3];exact k1)
      rw [<- k3]at k4
      exact fdDist_spec hdist k2 hq hne k4 hf
    · rw [hde,f1]
      refine⟨h5,fun t=> ?_,S.keepc,S.eun,fun j hj=> ?_,fun h' hh'=> ?_,fun q' hq' he=> ?_,?_,fun q' hq' s hs he=> ?_,fun s hs=> ?_⟩
      · by_cases ht:t=d
        · rw [ht,(S.eun q hq d val blk hf).2];exact .un _
        · rw [dX ht];exact S.G t
      · rcases List.mem_cons.1 hj with rfl | hj
        · exact .inl ⟨q,hq,rfl⟩
        · exact S.ex j hj
      · rcases List.mem_cons.1 hh' with rfl | hh'
        · refine⟨by rw [h1];exact .head _,q,hq,h1.symm,blk,by rw [h1,h2,h3];exact hf,.inl ⟨h4,fun s hs he=> ?_⟩⟩
          rcases List.mem_cons.1 he with he | he
          · exact uP hnd hq hq hs he.symm
          · exact hj (S.sf q hq s hs he)
        · obtain⟨k1,q',k2,k3,blk0,k4,k5⟩:=S.hmem h' hh'
          refine⟨.tail _ k1,q',k2,k3,blk0,k4,k5.imp (fun⟨u1,u2⟩=>⟨u1,fun s hs he=> ?_⟩) (fun⟨s,u1,u2,u3⟩=>⟨s,u1,.tail _ u2,u3⟩)⟩
          rcases List.mem_cons.1 he with he | he
          · exact uP hnd hq k2 hs he.symm
          · exact u2 s hs he
      · rcases List.mem_cons.1 he with he | he
        · exact⟨h,.head _,by rw [h1,he]⟩
        · obtain⟨h',u1,u2⟩:=S.hall q' hq' he
          exact⟨h',.tail _ u1,u2⟩
      · rw [List.map_cons,List.nodup_cons]
        refine⟨fun hm=> ?_,S.hnd⟩
        obtain⟨h',u1,u2⟩:=List.mem_map.1 hm
        have:=(S.hmem h' u1).1
        rw [u2,h1]at this
        exact hj this
      · rcases List.mem_cons.1 he with he | he
        · exact absurd he.symm (uP hnd hq hq' hs)
        · exact .tail _ (S.sf q' hq' s hs he)
      · obtain⟨f,d',val',blk',v,sz,sv,b,p1,p2,p3,p4,p5,p6,p7,p8,p9,p10,p11,p12,p13⟩:=S.pps s hs
        refine⟨f,d',val',blk',v,sz,sv,b,p1,p2,p3,p4,p5,p6,p7,?_,p9,p10,p11,p12,p13⟩
        rw [dX (fun h=>jZ p13 hq hf h.symm)];exact p8
  · obtain⟨f,d,val,blk,v,sz,sv,b,p1,p2,p3,p4,p5,p6,p7,p8,p9,p10,p11,p12,p13⟩:=S.pps j hjp
    have hfE:f ∈ Ex:=hjF _ p1 rfl
    obtain⟨h,hh,hi⟩:=S.hall _ p1 hfE
    have hi:h.i=f:=hi
    obtain⟨k1,q',k2,k3,blk0,k4,k5⟩:=S.hmem h hh
    have hq':q'=(f,some j):=fs_unique hnd k2 p1 (by rw [k3,hi])
    rw [hi,p3]at k4
    simp only [Option.some.injEq,Prod.mk.injEq]at k4
    obtain⟨e1,e2,e3⟩:=k4
    have hblk:h.blk=blk0:=by
      rcases k5 with k5 | ⟨s,u1,u2,u3⟩
      · exact k5.1
      · rw [hq']at u1;obtain rfl:=Option.some.inj u1;exact absurd u2 hj
    have hqa:=List.all_eq_true.1 hall _ p1
    simp only [Bool.and_eq_true]at hqa
    obtain⟨_,_,hcs,_,_⟩:=hqa
    obtain⟨o,ao,ho,hao,hc⟩:=mF hcs
    have hao':ao=⟨none,.store sz (.t d) (.t sv),none⟩:=by
      unfold sOf at p4
      rw [hao]at p4
      split at p4
      · rename_i sz' d' v' heq
        simp only [Option.some.injEq,Prod.mk.injEq]at p4
        obtain⟨rfl,rfl,rfl⟩:=p4
        exact Option.some.inj heq
      · cases p4
    obtain⟨hde,hdn,hop⟩:=uT hc
    subst hao'
    have hval:h.val=fun l=> .ptr l 0 0:=by
      rw [<- e2]
      unfold isAl at p2
      unfold fOfL at p3
      split at p2
      · rename_i dd es nn zs heq
        rw [heq]at p3
        simp only [fOf]at p3
        cases hb:zs.all (det1 true) && (zs.length == es)with
        | false=>rw [hb]at p3;cases p3
        | true =>
          rw [hb]at p3
          simp only [cond_true,Option.some.injEq,Prod.mk.injEq]at p3
          exact p3.2.1.symm
      · cases p2
    unfold wpOp
    rw [ho]
    simp only
    rw [if_pos (wanted_none (guard_spec hc rfl) _)]
    refine .inl (S.H.put hop hde hh e1.symm hval (fun h' hh' hii=> ?_) p8 p6 (by rw [hblk,<- e3];exact p7) p10 p11 p12 (fun r w' hH=>hnext (hs.map (setB h.i b)) _ _ ?_))
    · obtain⟨x,hx⟩:=List.getElem?_of_mem hh'
      obtain⟨y,hy⟩:=List.getElem?_of_mem hh
      have hx':(hs.map (·.i))[x]? = some h'.i:=by rw [List.getElem?_map,hx];rfl
      have hy':(hs.map (·.i))[y]? = some h'.i:=by rw [List.getElem?_map,hy,hii];rfl
      have hlx:=(List.getElem?_eq_some_iff.1 hx').1
      have hly:=(List.getElem?_eq_some_iff.1 hy').1
      have:=(List.getElem_inj S.hnd).1 (show (hs.map (·.i))[x] = (hs.map (·.i))[y] by
        rw [(List.getElem?_eq_some_iff.1 hx').2,(List.getElem?_eq_some_iff.1 hy').2])
      subst this
      rw [hx]at hy
      exact Option.some.inj hy
    · rw [hde]
      refine⟨hH,S.G,S.keepc,S.eun,fun j' hj'=> ?_,fun h' hh'=> ?_,fun q'' hq'' he=> ?_,?_,fun q'' hq'' s hs he=> ?_,S.pps⟩
      · rcases List.mem_cons.1 hj' with rfl | hj'
        · exact .inr hjp
        · exact S.ex _ hj'
      · obtain⟨h0,hh0,rfl⟩:=List.mem_map.1 hh'
        obtain⟨k1,q2,k2,k3,blk1,k4,k5⟩:=S.hmem h0 hh0
        rw [setB_i,setB_d,setB_val]
        refine⟨.tail _ k1,q2,k2,k3,blk1,k4,?_⟩
        by_cases hii:h0.i=h.i
        · have hq2:q2=(f,some j):=fs_unique hnd k2 p1 (by rw [k3,hii,hi])
          refine .inr ⟨j,by rw [hq2],.head _,?_⟩
          have hb':(setB h.i b h0).blk=b:=by unfold setB;rw [if_pos hii]
          rw [hb',hq2]
          rw [hii,hi,p3]at k4
          simp only [Option.some.injEq,Prod.mk.injEq]at k4
          simp only [rD,p3,p4,p5,p7,Option.map_some,k4.1,k4.2.1]
        · have hb':(setB h.i b h0).blk=h0.blk:=by unfold setB;rw [if_neg hii]
          rw [hb']
          refine k5.imp (fun⟨u1,u2⟩=>⟨u1,fun s hs he=> ?_⟩) (fun⟨s,u1,u2,u3⟩=>⟨s,u1,.tail _ u2,u3⟩)
          rcases List.mem_cons.1 he with he | he
          · subst he
            have:q2=(f,some s):=by
              have h9:=(List.nodup_append.1 hnd).2.1
              have:∀ {fs:FS},(fs.filterMap (·.2)).Nodup->q2 ∈ fs->(f,some s) ∈ fs->q2=(f,some s):=by
                intro fs
                induction fs with
                | nil=>intro _ hq;simp at hq
                | cons x r ih =>
                  intro hnd hq hq'
                  rcases List.mem_cons.1 hq with g1 | g1 <;> rcases List.mem_cons.1 hq' with g2 | g2
                  · exact g1.trans g2.symm
                  · rw [List.filterMap_cons,<- g1,hs,List.nodup_cons]at hnd
                    exact absurd (show s ∈ r.filterMap (fun x=>x.2)from List.mem_filterMap.2 ⟨(f,some s),g2,rfl⟩) hnd.1
                  · rw [List.filterMap_cons,<- g2,List.nodup_cons]at hnd
                    exact absurd (show s ∈ r.filterMap (fun x=>x.2)from List.mem_filterMap.2 ⟨q2,g1,hs⟩) hnd.1
                  · refine ih ?_ g1 g2
                    rw [List.filterMap_cons]at hnd
                    split at hnd
                    · exact hnd
                    · exact(List.nodup_cons.1 hnd).2
              exact this h9 k2 p1
            exact hii (by rw [<- k3,this,hi])
          · exact u2 s hs he
      · rcases List.mem_cons.1 he with he | he
        · exact absurd he (uP hnd hq'' p1 rfl)
        · obtain⟨h',u1,u2⟩:=S.hall q'' hq'' he
          exact⟨_,List.mem_map.2 ⟨h',u1,rfl⟩,by rw [setB_i];exact u2⟩
      · rw [List.map_map,show (fun x=>x.i) ∘ setB h.i b=fun x=>x.i from funext fun x=>setB_i]
        exact S.hnd
      · rcases List.mem_cons.1 he with he | he
        · subst he;exact .tail _ (hjF q'' hq'' hs)
        · exact .tail _ (S.sf q'' hq'' s hs he)
end
end Go.Wit
end

