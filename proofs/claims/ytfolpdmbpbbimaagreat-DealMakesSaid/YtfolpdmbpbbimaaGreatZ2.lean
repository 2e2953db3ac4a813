/- Texts of a proof, one behind the other; the last of these: From a told call of a law to what its row asks; no condition. -/
import Derived.Test.YtfolpdmbpbbimaaGreatZ1
import Derived.Laws.AppendOwn
import Derived.LoopN
import Derived.OrdersHeld
import Derived.Below
set_option linter.unusedVariables false
set_option linter.unusedSimpArgs false
set_option maxRecDepth 100000
section
namespace Go.Wit
def cH:Bool->Prop->Prop->Prop
 | true,p,_=>p
 | false,_,q=>q
def killO (m:Mem):Option Nat->Mem
 | none=>m
 | some l=>m.set l none
def qS (es:Nat) (m:Mem):AV->Option (Bool × Option Nat × Nat × (Nat->Nat->AV))
  | .nils=>some (true,none,0,fun _ _=> .un)
  | .sl l off len cap =>
    match m[l]? with
    | some (some blk)=>bif off == 0 && blk.es == es then some (decide (len<=blk.n),some l,len,blk.get)else none
    | _=>none
  | .vsl _ len cap _=>bif len == 0 && cap == 0 then some (true,none,0,fun _ _=> .un)else none
  | _=>none
def catG (n1:Nat) (g1 g2:Nat->Nat->AV):Nat->Nat->AV:=fun i j=>wY (Nat.blt i n1) (g1 i j) (g2 (i - n1) j)
def esOk (es:Nat) (m:Mem) (y:AV):Bool:=
 match esS m y with
 | some e=>e == es
 | none=>true
def vcApp (es bytes:Nat) (m:Mem) (x y:AV) (K:AV->Mem->Prop):Prop:=
  match qS es m x,lP m y with
  | some (b1, l, n1, g1), some (b2, n2, g2) =>
    cH ((b1 && b2) && (esOk es m y && (decide ((n1+n2)*bytes<=140737488355328) && decide (n1+n2<=140737488355328))))
      (∀ cap',n1+n2<=cap'->K (.sl m.length 0 (n1+n2) cap') (killO m l++ [some ⟨es,n1+n2,catG n1 g1 g2⟩])) False
  | _,_=>False
def vcBstr (m:Mem) (x:AV) (K:AV->Mem->Prop):Prop:=
  match x with
  | .nils=>K (.str .empty) m
  | .str _=>False
  | x =>
    match lP m x,esS m x with
    | some (b,n,g),some es=>cH (b && es == 1) ((∀ i,i<n->∃ k,g i 0= .int .u8 k)/\K (.str ⟨((List.range n).map fun i=>byteOfA (g i 0)).toArray⟩) m) False
    | _,_=>False
def vcFrz (m:Mem) (x:AV) (K:AV->Mem->Prop):Prop:=
  match x with
  | .sl l off len cap =>
    match m[l]? with
    | some (some blk)=>cH (decide (off+len<=blk.n) && decide (0<cap)) (K (.vsl blk.es len cap (fun i j=>blk.get (off+i) j)) (m.set l none)) False
    | _=>False
  | _=>False
def vcSbytes (m:Mem) (x:AV) (K:AV->Mem->Prop):Prop:=
 match x with
 | .str s=>∀ cap',s.size<=cap'->K (.vsl 1 s.size cap' (fun i _=> .int .u8 (s.data.getD i 0).toNat)) m
 | _=>False
def GoodK (P:Program) (C:Ctx) (m:Mem) (w:World) (L:Lay) (o:Oper) (a:Act) (K:AV->Mem->Prop):Prop:=
 ∃ v m' r w' L', ((execOp a.eval o).run P w = .ok (.value r) w' ∨ ((execOp a.eval o).run P w = .ok .skip w' ∧ r = undef)) ∧ K v m' ∧ MRel C m' w' L' ∧
  Ext w.heap L (OO C m L) w'.heap L' (OO C m' L')/\VR w'.heap L' (OO C m' L') v r
section
variable {P:Program} {C:Ctx} {m:Mem} {w:World} {L:Lay} {e:Env} {a:Act} {o:Oper}
theorem cC {b:Bool} {p:Prop} (h:cH b p False):b=true/\p:=by cases b <;> simp [cH]at h ⊢;exact h
theorem oneCells_range {n es:Nat} {f:Nat->Value} (hf:∀ k,k<n*es->(f k).oneCell'=true):∀ u ∈ (List.range (n*es)).map f,u.oneCell'=true:=by
 intro u hu
 simp only [List.mem_map,List.mem_range]at hu
 obtain⟨q,hq,rfl⟩:=hu
 exact hf q hq
theorem iE {n1:Nat} {g1 g2:Nat->Nat->AV} {i j:Nat} (h:i<n1):catG n1 g1 g2 i j=g1 i j:=by unfold catG;rw [jV h,iM];rfl
theorem dA {n1:Nat} {g1 g2:Nat->Nat->AV} {i j:Nat} (h:n1<=i):catG n1 g1 g2 i j=g2 (i - n1) j:=by unfold catG;rw [dT (by omega),iM];rfl
theorem src_cells (hR:MRel C m w L) {y:AV} {r:Value} (hv:VR w.heap L (OO C m L) y r) {n es:Nat} {g:Nat->Nat->AV} (h1:lP m y=some (true,n,g)) (h2:esOk es m y=true):
    (Builtin.lenOf r).run P w= .ok n w/\∃ f:Nat->Value,(Builtin.firstCells es n r).run P w= .ok ((List.range (n*es)).map f).toArray w/\∀ k,k<n*es->VR w.heap L (OO C m L) (g (k / es) (k % es)) (f k)/\(f k).oneCell'=true:=by
  by_cases hs:∃ s,y= .str s
  · obtain⟨s,rfl⟩:=hs
    cases hv
    simp only [lP,Option.some.injEq,Prod.mk.injEq,true_and]at h1
    obtain⟨rfl,rfl⟩:=h1
    simp [esOk,esS]at h2
    subst h2
    refine⟨rfl,fun k=> .int .u8 (s.data.getD k 0).toNat,?_,fun k hk=>⟨?_,rfl⟩⟩
    · simp only [Builtin.firstCells,Sem.run_pure,Nat.mul_one]
      have hx:(Array.map (fun b:UInt8=>Value.int IntKind.u8 (b.toNat:Int)) s.data).extract 0 s.size=Array.map (fun b:UInt8=>Value.int IntKind.u8 (b.toNat:Int)) s.data:=by
        have hs:s.size=(Array.map (fun b:UInt8=>Value.int IntKind.u8 (b.toNat:Int)) s.data).size:=by rw [Array.size_map];rfl
        rw [hs,Array.extract_size]
      have hx2:(s.extract 0 s.size)=s:=by simp
      rw [hx2]
      congr 1
      apply Array.ext'
      simp only [Array.toList_map]
      apply List.ext_getElem?
      intro k
      rw [List.getElem?_map,List.getElem?_map]
      by_cases hk:k<s.data.size
      · rw [List.getElem?_range (show k<s.size from hk),Array.getElem?_toList,Array.getElem?_eq_getElem hk]
        have hk2:k<s.size:=hk
        simp [Array.getD,hk,hk2]
      · rw [List.getElem?_eq_none (by simpa using (Nat.le_of_not_lt hk)),List.getElem?_eq_none (by simpa using (show s.size<=k from Nat.le_of_not_lt hk))];rfl
    · simp only [Nat.div_one];exact .int _ _
  · by_cases hn:y= .nils
    · subst hn
      cases hv
      simp only [lP,Option.some.injEq,Prod.mk.injEq,true_and]at h1
      obtain⟨rfl,rfl⟩:=h1
      refine⟨rfl,fun _=>undef,?_,fun k hk=>by simp at hk⟩
      simp [Builtin.firstCells]
    · have hes:esS m y=some es:=by
        unfold esOk at h2
        cases he:esS m y with
        | some q=>simp [he]at h2;rw [h2]
        | none =>
          cases y with
          | sl l off len cap =>
            cases hm:m[l]? with
            | none=>simp [lP,hm]at h1
            | some ob => cases ob with
              | none=>simp [lP,hm]at h1
              | some b=>simp [esS,hm]at he
          | nils=>exact absurd rfl hn
          | vsl=>simp [esS]at he
          | str s=>exact absurd ⟨s,rfl⟩ hs
          | _=>simp [lP]at h1
      obtain⟨ad,cap,rfl,hc⟩:=uG hR hv h1 hes (fun s h=>hs ⟨s,h⟩)
      obtain⟨f,f1,f2⟩:=cells_fun hR hc
      exact⟨rfl,f,qP f1 n,f2⟩
theorem nZ {t u ty el:TypeId} {i:TypeInfo} {d:TypeDesc} (ht:P.underlying t=some (.slice el)) (hu:P.underlying u=some d) (hd:∀ k,d ≠ .int k) (hi:P.info? el=some i) {base:Option Addr} {sLen sCap n:Nat} {x:Value} {news:Array Value}
    (hl:(Builtin.lenOf x).run P w= .ok n w) (hf:(Builtin.firstCells i.size n x).run P w= .ok news w) (hroom:sLen+n<=sCap) {w':World} (hst:∀ b,base=some b->(storeCells (b.add (sLen*i.size)) news.toList).run P w= .ok () w') (hnone:base=none->w'=w):
    (Builtin.append_ #[t,u] ty #[.slice base sLen sCap,x]).run P w= .ok (.slice base (sLen+n) sCap) w':=by
  have hz:(match d with | .int _=>true | _=>false)=false:=by cases d <;> first | rfl | exact absurd rfl (hd _)
  cases base with
  | none =>
    have:=hnone rfl;subst this
    simp [Builtin.append_,run_underlying ht,run_underlying hu,sizeOf,typeInfo,hi,hz,hl,hroom,hf]
  | some b =>
    simp [Builtin.append_,run_underlying ht,run_underlying hu,sizeOf,typeInfo,hi,hz,hl,hroom,hf,hst b rfl]
theorem run_app_grow {t u ty el:TypeId} {i:TypeInfo} {z:Value} {d:TypeDesc} (ht:P.underlying t=some (.slice el)) (hu:P.underlying u=some d) (hd:∀ k,d ≠ .int k) (hi:P.info? el=some i) (hz:i.zero=some z) {base:Option Addr} {sLen sCap n:Nat} {x:Value} {olds news:Array Value}
 (hl:(Builtin.lenOf x).run P w= .ok n w) (hfo:(Builtin.firstCells i.size sLen (.slice base sLen sCap)).run P w.drew= .ok olds w.drew) (hf:(Builtin.firstCells i.size n x).run P w.drew= .ok news w.drew) (hroom:sCap<sLen+n) (h63:sLen+n<=9223372036854775807) (hb:(sLen+n)*i.bytes<=140737488355328):
 (Builtin.append_ #[t,u] ty #[.slice base sLen sCap,x]).run P w= .ok (.slice (some ⟨w.heap.size,0,none⟩) (sLen+n) (grownCap w (sLen+n) sCap el)) (w.drew.alloc (.cells (olds++news++Builtin.zeroCells z.cells (grownCap w (sLen+n) sCap el - (sLen+n))) el)):=by
 have hz':(match d with | .int _=>true | _=>false)=false:=by cases d <;> first | rfl | exact absurd rfl (hd _)
 have hn:¬ (sLen+n<=sCap):=by omega
 have h63':¬ (9223372036854775807<((sLen:Int)+(n:Int))):=by omega
 have h48':¬ (281474976710656<Builtin.nextslicecap (sLen+n) sCap*i.bytes):=by have:=growslice_fits hroom hb;omega
 simp [Builtin.append_,run_underlying ht,run_underlying hu,sizeOf,typeInfo,zeroValue,hi,hz,hz',hl,hn,h63',h48',Question.forced,hf,hfo,newRow,grownCap]
theorem appDst_lt {es:Nat} {U:AV} {b:Bool} {l n:Nat} {g:Nat->Nat->AV} (h:qS es m U=some (b,some l,n,g)):l<m.length:=by
 cases U <;> simp only [qS,Option.some.injEq,Prod.mk.injEq,reduceCtorEq,false_and,and_false]at h
 case sl l0 off len cap=>
  split at h
  · rename_i blk hm
    cases hb:(off == 0 && blk.es == es) <;> simp [hb]at h
    obtain⟨_,rfl,_⟩:=h
    exact bL hm
  · simp at h
 case vsl es' len cap get=>
  cases hb:(len == 0 && cap == 0) <;> simp [hb]at h
theorem app_sound (hR:MRel C m w L) (hE:ERel C e m a w L) {t u el es bytes:Nat} {x y:Operand} {x' y':Opn} {i:TypeInfo} {z:Value} {d:TypeDesc} (ho:o.op= .call {callee:= .builtin .append,args:= #[x,y],argTypes:= #[t,u]})
    (ht:P.underlying t=some (.slice el)) (hu:P.underlying u=some d) (hd:∀ k,d ≠ .int k) (hi:P.info? el=some i) (hz:i.zero=some z) (hzc:z.cells.size=es) (hes:i.size=es) (hby:i.bytes=bytes) (hes0:0<es)
    (hx:aL x x'=true) (hy:aL y y'=true) {K:AV->Mem->Prop} (hvc:vcApp es bytes m (x'.ev e) (y'.ev e) K):GoodK P C m w L o a K:=by
  have hx:=aM hE hx
  have hy:=aM hE hy
  generalize x'.ev e=U at hx hvc
  generalize y'.ev e=V at hy hvc
  generalize hra:a.eval x=r at hx
  generalize hrb:a.eval y=s at hy
  unfold vcApp at hvc
  split at hvc
  case h_2=>exact hvc.elim
  rename_i b1 l n1 g1 b2 n2 g2 hd1 hv2
  obtain⟨hc,hK⟩:=cC hvc
  simp only [Bool.and_eq_true,decide_eq_true_eq]at hc
  obtain⟨⟨rfl,rfl⟩,hesy,hbytes,hmax⟩:=hc
  have hexec:∀ {v:Value} {w'},(Builtin.append_ #[t,u] o.type #[r,s]).run P w= .ok v w'->(execOp a.eval o).run P w= .ok (.value v) w':=by
    intro n w' h
    simp [execOp,ho,resolve,invoke,builtin,hra,hrb,h]
  obtain⟨hlen,f2,hf2,hv2'⟩:=src_cells (P:=P) hR hy hv2 hesy
  have hRd:MRel C m w.drew L:=hR.drawn _
  obtain⟨_,f2d,hf2d,hv2d⟩:=src_cells (P:=P) (w:=w.drew) hRd hy hv2 hesy
  have hdst:∃ base sCap,r= .slice base n1 sCap/\n1<=sCap/\
      ((∃ f1d:Nat->Value,(Builtin.firstCells es n1 r).run P w.drew= .ok ((List.range (n1*es)).map f1d).toArray w.drew/\∀ k,k<n1*es->VR w.heap L (OO C m L) (g1 (k / es) (k % es)) (f1d k)/\(f1d k).oneCell'=true))/\
      (sCap=0\/∃ l0 blk le,l=some l0/\m[l0]? = some (some blk)/\L l0=some le/\blk.es=es/\g1=blk.get/\n1<=blk.n/\sCap<=le.tot/\base=some ⟨le.b,0,none⟩):=by
    cases hx <;> (try (simp [qS]at hd1;done))
    case nils=>
      simp only [qS,Option.some.injEq,Prod.mk.injEq,true_and]at hd1
      obtain⟨rfl,rfl,rfl⟩:=hd1
      exact⟨none,0,rfl,Nat.le_refl _,⟨fun _=>undef,by simp [Builtin.firstCells],fun k hk=>by simp at hk⟩,.inl rfl⟩
    case sl0 l0 off ad=>
      simp only [qS]at hd1
      split at hd1
      case h_2=>simp at hd1
      rename_i blk hm
      cases hb:(off == 0 && blk.es == es) <;> simp [hb]at hd1
      obtain⟨rfl,rfl,rfl⟩:=hd1
      exact⟨some ad,0,rfl,Nat.le_refl _,⟨fun _=>undef,by simp [Builtin.firstCells,loadCells,loadCellsFrom],fun k hk=>by simp at hk⟩,.inl rfl⟩
    case sl0n l0 off=>
      simp only [qS]at hd1
      split at hd1
      case h_2=>simp at hd1
      rename_i blk hm
      cases hb:(off == 0 && blk.es == es) <;> simp [hb]at hd1
      obtain⟨rfl,rfl,rfl⟩:=hd1
      exact⟨none,0,rfl,Nat.le_refl _,⟨fun _=>undef,by simp [Builtin.firstCells],fun k hk=>by simp at hk⟩,.inl rfl⟩
    case sl l0 off len cap le hl q1 q2=>
      simp only [qS]at hd1
      split at hd1
      case h_2=>simp at hd1
      rename_i blk hm
      cases hb:(off == 0 && blk.es == es) <;> simp [hb]at hd1
      obtain⟨hle,rfl,rfl,rfl⟩:=hd1
      simp only [Bool.and_eq_true,beq_iff_eq]at hb
      obtain⟨rfl,hbes⟩:=hb
      have hsl:VR w.drew.heap L (OO C m L) (.sl l0 0 len cap) (.slice (some ⟨le.b,0*le.es,none⟩) len cap):= .sl _ _ _ _ _ hl q1 q2
      have hvw:lP m (.sl l0 0 len cap)=some (true,len,fun i j=>blk.get (0+i) j):=by simp [lP,hm,hle]
      obtain⟨_,f1d,g1d,g2d⟩:=src_cells (P:=P) (w:=w.drew) (es:=es) hRd hsl hvw (by simp [esOk,esS,hm,hbes])
      refine⟨some ⟨le.b,0*le.es,none⟩,cap,rfl,q1,⟨f1d,g1d,fun k hk=>by have:=g2d k hk;simp only [Nat.zero_add]at this;exact this⟩,?_⟩
      right
      exact⟨l0,blk,le,rfl,hm,hl,hbes,rfl,hle,by omega,by simp⟩
    case vsl0 es' get ad=>
      simp [qS]at hd1
      obtain⟨rfl,rfl,rfl⟩:=hd1
      exact⟨ad,0,rfl,Nat.le_refl _,⟨fun _=>undef,by cases ad <;> simp [Builtin.firstCells,loadCells,loadCellsFrom],fun k hk=>by simp at hk⟩,.inl rfl⟩
    case vsl es' len cap get b o' vals hle hc hv=>
      simp only [qS]at hd1
      cases hb:(len == 0 && cap == 0) <;> simp [hb]at hd1
      simp only [Bool.and_eq_true,beq_iff_eq]at hb
      obtain⟨rfl,rfl⟩:=hb
      obtain⟨rfl,rfl,rfl⟩:=hd1
      exact⟨some ⟨b,o',none⟩,0,rfl,Nat.le_refl _,⟨fun _=>undef,by simp [Builtin.firstCells,loadCells,loadCellsFrom],fun k hk=>by simp at hk⟩,.inl rfl⟩
  obtain⟨base,sCap,rfl,hn1,⟨f1d,hf1d,hv1d⟩,hcase⟩:=hdst
  have hkill:=hR.kill
  by_cases hroom:n1+n2<=sCap
  ·
    rcases hcase with rfl | ⟨l0,blk,le,rfl,hm,hl,hbes,rfl,hle,hcap,rfl⟩
    ·
      have e1:n1=0:=by omega
      have e2:n2=0:=by omega
      subst e1 e2
      have hrun:=nZ (P:=P) (ty:=o.type) ht hu hd hi (base:=base) (sLen:=0) (sCap:=0) hlen (by rw [hes];exact hf2) hroom (w':=w) (by intro b _;simp [storeCells]) (fun _=>rfl)
      have hk:MRel C (killO m l) w L/\Ext w.heap L (OO C m L) w.heap L (OO C (killO m l) L):=by
        cases l with
        | none=>exact ⟨hR,Ext.refl _ _ _⟩
        | some l0=>exact hR.kill l0
      have hkl:(killO m l).length=m.length:=by cases l <;> simp [killO]
      obtain⟨p1,p2⟩:=hk.1.phantom es (catG 0 g1 g2)
      rw [hkl]at p1 p2
      refine⟨_,_,.slice base 0 0,w,_,.inl (hexec (by simpa using hrun)),hK 0 (Nat.le_refl _),p1,hk.2.trans p2 (Nat.le_refl _),?_⟩
      cases base with
      | none=>exact .sl0n _ _
      | some b=>exact .sl0 _ _ _
    · obtain⟨e0,k1,k2,k5,k0⟩:=hR.blk l0 blk hm
      rw [hl]at k1;obtain rfl:=Option.some.inj k1
      rcases Nat.eq_zero_or_pos le.tot with ht0 | ht0
      · have e1:n1=0:=by omega
        have e2:n2=0:=by omega
        have e3:sCap=0:=by omega
        subst e1 e2 e3
        have hrun:=nZ (P:=P) (ty:=o.type) ht hu hd hi (base:=some ⟨le.b,0,none⟩) (sLen:=0) (sCap:=0) hlen (by rw [hes];exact hf2) hroom (w':=w) (by intro b _;simp [storeCells]) (fun _=>rfl)
        have hk:=hR.kill l0
        have hkl:(m.set l0 none).length=m.length:=by simp
        obtain⟨p1,p2⟩:=hk.1.phantom es (catG 0 blk.get g2)
        rw [hkl]at p1 p2
        exact⟨_,_,.slice (some ⟨le.b,0,none⟩) 0 0,w,_,.inl (hexec (by simpa using hrun)),hK 0 (Nat.le_refl _),p1,hk.2.trans p2 (Nat.le_refl _),.sl0 _ _ _⟩
      · obtain⟨c,T,k3,k4,k6,k7⟩:=k0 ht0
        have hles:le.es=es:=by rw [k2,hbes]
        have hin:n1*es+n2*es<=c.size:=by rw [k4,hles,<- Nat.add_mul];exact Nat.mul_le_mul_right _ (by omega)
        have hst:=run_storeCells_at (P:=P) le.b (n1*es) T ((List.range (n2*es)).map f2) 0 c w k3 (by simp;omega) (oneCells_range (fun k hk=>(hv2' k hk).2))
        simp only [Nat.add_zero,List.length_map,List.length_range]at hst
        have hrun:=nZ (P:=P) (ty:=o.type) ht hu hd hi (base:=some ⟨le.b,0,none⟩) (sLen:=n1) (sCap:=sCap) hlen (by rw [hes];exact hf2) hroom (w':=w.setRow le.b (c.toList.take (n1*es)++(List.range (n2*es)).map f2++c.toList.drop (n1*es+n2*es)).toArray) (by
          intro b hb;obtain rfl:=Option.some.inj hb
          rw [fA,hes,Nat.zero_add];exact hst) (fun h=>by cases h)
        have hw:=hR.write hm hl ht0 k2 k3 (c.toList.take (n1*es)++(List.range (n2*es)).map f2++c.toList.drop (n1*es+n2*es)).toArray (by simp;omega) (n1+n2) (by omega) (catG n1 blk.get g2) (fun i j hi hj=>by
          rw [hbes]at hj ⊢
          simp only [List.getElem?_toArray]
          have hlen:((List.range (n2*es)).map f2).length=n2*es:=by simp
          have hsp:=getElem?_splice c.toList (n1*es) ((List.range (n2*es)).map f2) (i*es+j) (by rw [hlen];simp only [Array.length_toList];exact hin)
          rw [hlen]at hsp
          rw [hsp]
          have b1:(i+1)*es<=(n1+n2)*es:=Nat.mul_le_mul_right _ hi
          rw [Nat.add_mul,Nat.add_mul]at b1
          by_cases h1:i<n1
          · rw [iE h1]
            have b2:(i+1)*es<=n1*es:=Nat.mul_le_mul_right _ h1
            rw [Nat.add_mul]at b2
            rw [if_neg (by intro hh;omega)]
            obtain⟨v,v1,v2,v3⟩:=k7 i j (by omega) (by rw [hbes];exact hj)
            rw [hbes]at v1
            exact⟨v,by simpa using v1,v2,v3⟩
          · rw [dA (by omega)]
            have e1:(i - n1)*es+n1*es=i*es:=by rw [<- Nat.add_mul];congr 1;omega
            have hc1:n1*es<=i*es+j:=by omega
            have hc2:i*es+j<n1*es+n2*es:=by omega
            rw [if_pos ⟨hc1,hc2⟩]
            have e3:i*es+j - n1*es=(i - n1)*es+j:=by omega
            have hc3:(i - n1)*es+j<n2*es:=by omega
            rw [e3]
            refine⟨f2 ((i - n1)*es+j),by rw [List.getElem?_map,List.getElem?_range hc3];rfl,?_⟩
            have:=hv2' ((i - n1)*es+j) hc3
            have d1:((i - n1)*es+j) / es=i - n1:=by rw [Nat.mul_comm,Nat.mul_add_div hes0,Nat.div_eq_of_lt hj];rfl
            have d2:((i - n1)*es+j) % es=j:=by rw [Nat.mul_comm,Nat.mul_add_mod,Nat.mod_eq_of_lt hj]
            rw [d1,d2]at this
            exact this)
        have hm':(m.set l0 (some ⟨blk.es,n1+n2,catG n1 blk.get g2⟩))[l0]? = some (some ⟨blk.es,n1+n2,catG n1 blk.get g2⟩):=by
          rw [List.getElem?_set];simp [bL hm]
        obtain⟨p1,p2⟩:=hw.1.move hm' hl
        have e4:(m.set l0 (some ⟨blk.es,n1+n2,catG n1 blk.get g2⟩)).set l0 none=m.set l0 none:=by simp [List.set_set]
        have e5:(m.set l0 (some ⟨blk.es,n1+n2,catG n1 blk.get g2⟩)).length=m.length:=by simp
        rw [e4,e5,hbes]at p1 p2
        rw [hbes]at hw
        refine⟨_,_,.slice (some ⟨le.b,0,none⟩) (n1+n2) sCap,_,_,.inl (hexec hrun),hK sCap hroom,p1,hw.2.trans p2 (by simp),?_⟩
        have:=VR.sl (L:=L.put m.length le) (h:=(w.setRow le.b (c.toList.take (n1*es)++(List.range (n2*es)).map f2++c.toList.drop (n1*es+n2*es)).toArray).heap) (O:=OO C (m.set l0 none++ [some ⟨es,n1+n2,catG n1 blk.get g2⟩]) (L.put m.length le)) m.length 0 (n1+n2) sCap le (Lay.put_self _ _ _) hroom (by omega)
        rw [Nat.zero_mul]at this
        exact this
  ·
    have hrun:=run_app_grow (P:=P) (ty:=o.type) ht hu hd hi hz (base:=base) (sLen:=n1) (sCap:=sCap) hlen (by rw [hes];exact hf1d) (by rw [hes];exact hf2d) (by omega) (by omega) (by rw [hby];exact hbytes)
    generalize hnc:grownCap w (n1+n2) sCap el=nc at hrun
    have hge:n1+n2<=nc:=by rw [<- hnc];exact grownCap_ge _ _ _ _
    have hsz:(((List.range (n1*es)).map f1d).toArray++((List.range (n2*es)).map f2d).toArray++Builtin.zeroCells z.cells (nc - (n1+n2))).size=nc*es:=by
      simp only [Array.size_append,List.size_toArray,List.length_map,List.length_range,size_zeroCells,hzc]
      rw [<- Nat.add_mul,<- Nat.add_mul];congr 1;omega
    obtain⟨p1,p2⟩:=hRd.new (((List.range (n1*es)).map f1d).toArray++((List.range (n2*es)).map f2d).toArray++Builtin.zeroCells z.cells (nc - (n1+n2))) el ⟨es,n1+n2,catG n1 g1 g2⟩ nc hsz hge (fun i j hi hj=>by
      simp only at hi hj ⊢
      have b1:(i+1)*es<=(n1+n2)*es:=Nat.mul_le_mul_right _ hi
      rw [Nat.add_mul,Nat.add_mul]at b1
      rw [Array.getElem?_append_left (by simp;omega)]
      by_cases h1:i<n1
      · have b2:(i+1)*es<=n1*es:=Nat.mul_le_mul_right _ h1
        rw [Nat.add_mul]at b2
        have hk:i*es+j<n1*es:=by omega
        rw [iE h1,Array.getElem?_append_left (by simp;omega)]
        refine⟨f1d (i*es+j),by simp [hk],?_⟩
        have:=hv1d (i*es+j) hk
        have d1:(i*es+j) / es=i:=by rw [Nat.mul_comm,Nat.mul_add_div hes0,Nat.div_eq_of_lt hj];rfl
        have d2:(i*es+j) % es=j:=by rw [Nat.mul_comm,Nat.mul_add_mod,Nat.mod_eq_of_lt hj]
        rw [d1,d2]at this
        exact this
      · have e1:(i - n1)*es+n1*es=i*es:=by rw [<- Nat.add_mul];congr 1;omega
        have hc3:(i - n1)*es+j<n2*es:=by omega
        rw [dA (by omega),Array.getElem?_append_right (by simp;omega)]
        have e3:i*es+j - ((List.range (n1*es)).map f1d).toArray.size=(i - n1)*es+j:=by simp;omega
        rw [e3]
        refine⟨f2d ((i - n1)*es+j),by simp [hc3],?_⟩
        have:=hv2d ((i - n1)*es+j) hc3
        have d1:((i - n1)*es+j) / es=i - n1:=by rw [Nat.mul_comm,Nat.mul_add_div hes0,Nat.div_eq_of_lt hj];rfl
        have d2:((i - n1)*es+j) % es=j:=by rw [Nat.mul_comm,Nat.mul_add_mod,Nat.mod_eq_of_lt hj]
        rw [d1,d2]at this
        exact this) (w.drew.alloc (.cells (((List.range (n1*es)).map f1d).toArray++((List.range (n2*es)).map f2d).toArray++Builtin.zeroCells z.cells (nc - (n1+n2))) el)) (by rfl)
    have hk:MRel C (killO m l++ [some ⟨es,n1+n2,catG n1 g1 g2⟩]) (w.drew.alloc (.cells (((List.range (n1*es)).map f1d).toArray++((List.range (n2*es)).map f2d).toArray++Builtin.zeroCells z.cells (nc - (n1+n2))) el)) (L.put m.length ⟨w.drew.heap.size,es,nc⟩)/\
        Ext (w.drew.alloc (.cells (((List.range (n1*es)).map f1d).toArray++((List.range (n2*es)).map f2d).toArray++Builtin.zeroCells z.cells (nc - (n1+n2))) el)).heap (L.put m.length ⟨w.drew.heap.size,es,nc⟩) (OO C (m++ [some ⟨es,n1+n2,catG n1 g1 g2⟩]) (L.put m.length ⟨w.drew.heap.size,es,nc⟩))
          (w.drew.alloc (.cells (((List.range (n1*es)).map f1d).toArray++((List.range (n2*es)).map f2d).toArray++Builtin.zeroCells z.cells (nc - (n1+n2))) el)).heap (L.put m.length ⟨w.drew.heap.size,es,nc⟩) (OO C (killO m l++ [some ⟨es,n1+n2,catG n1 g1 g2⟩]) (L.put m.length ⟨w.drew.heap.size,es,nc⟩)):=by
      cases l with
      | none=>exact ⟨p1,Ext.refl _ _ _⟩
      | some l0 =>
        have hlt:l0<m.length:=appDst_lt hd1
        have:=p1.kill l0
        have e4:(m++ [some (Blk.mk es (n1+n2) (catG n1 g1 g2))]).set l0 none=m.set l0 none++ [some (Blk.mk es (n1+n2) (catG n1 g1 g2))] :=by
          rw [List.set_append_left _ _ hlt]
        rw [e4]at this
        exact this
    refine⟨_,_,.slice (some ⟨w.heap.size,0,none⟩) (n1+n2) nc,_,_,.inl (hexec hrun),hK nc hge,hk.1,(p2.trans hk.2 (by simp)),?_⟩
    have:=VR.sl (L:=L.put m.length ⟨w.drew.heap.size,es,nc⟩) (h:=(w.drew.alloc (.cells (((List.range (n1*es)).map f1d).toArray++((List.range (n2*es)).map f2d).toArray++Builtin.zeroCells z.cells (nc - (n1+n2))) el)).heap) (O:=OO C (killO m l++ [some ⟨es,n1+n2,catG n1 g1 g2⟩]) (L.put m.length ⟨w.drew.heap.size,es,nc⟩)) m.length 0 (n1+n2) nc ⟨w.drew.heap.size,es,nc⟩ (Lay.put_self _ _ _) hge (by simp)
    rw [Nat.zero_mul]at this
    exact this
theorem bstr_sound (hR:MRel C m w L) (hE:ERel C e m a w L) {t t2 el:Nat} {x:Operand} {x':Opn} (ho:o.op= .convert t t2 x) (ht:P.underlying t=some (.slice el)) (he:P.underlying el=some (.int .u8)) (hd:P.underlying t2=some .string)
    (hx:aL x x'=true) {K:AV->Mem->Prop} (hvc:vcBstr m (x'.ev e) K):GoodK P C m w L o a K:=by
  have hx:=aM hE hx
  generalize x'.ev e=U at hx hvc
  generalize hra:a.eval x=r at hx
  have hexec:∀ {v:Value},(convert t t2 r).run P w= .ok v w->(execOp a.eval o).run P w= .ok (.value v) w:=by
    intro v h
    simp [execOp,ho,hra,h]
  by_cases hn:U= .nils
  · subst hn
    cases hx
    exact⟨.str .empty,m,_,w,L,.inl (hexec (run_convert_bytes_nil w t el ht he 0 0 t2 hd)),hvc,hR,Ext.refl _ _ _,.str _⟩
  · by_cases hs:∃ s,U= .str s
    · obtain⟨s,rfl⟩:=hs;exact hvc.elim
    · have hvc':(match lP m U,esS m U with
        | some (b,n,g),some es=>cH (b && es == 1) ((∀ i,i<n->∃ k,g i 0= .int .u8 k)/\K (.str ⟨((List.range n).map fun i=>byteOfA (g i 0)).toArray⟩) m) False
        | _,_=>False):=by
        cases U <;> first | exact hvc | exact absurd rfl hn | exact absurd ⟨_,rfl⟩ hs
      split at hvc'
      case h_2=>exact hvc'.elim
      rename_i b n g es h1 h2
      obtain⟨hb,hg,hK⟩:=cC hvc'
      simp only [Bool.and_eq_true,beq_iff_eq]at hb
      obtain⟨rfl,rfl⟩:=hb
      obtain⟨ad,cap,rfl,hc⟩:=uG hR hx h1 h2 (fun s h=>hs ⟨s,h⟩)
      have hnum:∀ i,i<n->∃ k,g i 0= .int .u8 k:=hg
      have hxs:∀ i,i<n->(g i 0= .int .u8 (match g i 0 with | .int _ k=>k | _=>0)):=by
        intro i hi
        obtain⟨k,hk⟩:=hg i hi
        rw [hk]
      generalize hxl:(List.range n).map (fun i=>match g i 0 with | .int _ k=>k | _=>(0:Int))=xs
      have hres:(⟨((List.range n).map fun i=>byteOfA (g i 0)).toArray⟩ :ByteArray)=strOfNums xs:=by
        have:(strOfNums xs).data.toList=((List.range n).map fun i=>byteOfA (g i 0)):=by
          rw [strOfNums_data,<- hxl,List.map_map]
          apply List.map_congr_left
          intro i hi
          obtain⟨k,hk⟩:=hg i (by simpa using hi)
          simp [hk,byteOfA]
        rw [<- this]
      rw [hres]at hK
      have hl:xs.length=n:=by rw [<- hxl];simp
      rcases Nat.eq_zero_or_pos n with h0 | h0
      · subst h0
        have hxe:xs= [] :=List.eq_nil_of_length_eq_zero hl
        subst hxe
        cases ad with
        | none =>
          refine⟨.str (strOfNums []),m,_,w,L,.inl (hexec (run_convert_bytes_nil w t el ht he 0 cap t2 hd)),hK,hR,Ext.refl _ _ _,?_⟩
          exact .str _
        | some ad =>
          have hr:(convert t t2 (.slice (some ad) 0 cap)).run P w= .ok (.string (strOfNums [])) w:=by
            rw [run_convert_bytes_string w t t2 el _ 0 cap ht he hd,run_bytesToString w ad 0 cap [] (by simp [loadCells,loadCellsFrom])]
            rfl
          exact⟨.str (strOfNums []),m,_,w,L,.inl (hexec hr),hK,hR,Ext.refl _ _ _,.str _⟩
      · obtain⟨b,o',rfl,hcc⟩:=hc (by omega)
        have hr:=run_convert_bytes_arg (P:=P) w t el ht he b o' n cap xs hl (fun i hi=>by
          obtain⟨v,v1,v2,_⟩:=hcc i (by omega)
          rw [v1]
          congr 1
          have:(g (i / 1) (i % 1))= .int .u8 (xs.getD i 0):=by
            rw [Nat.div_one,Nat.mod_one,hxs i hi,<- hxl]
            simp [List.getD,hi]
          rw [this]at v2
          cases v2;rfl) t2 hd
        exact⟨.str (strOfNums xs),m,_,w,L,.inl (hexec hr),hK,hR,Ext.refl _ _ _,.str _⟩
theorem freeze_heap (w:World) (b n:Nat) (c:Array Value) (T:TypeId) (h:w.heap[b]? = some (.cells c T (0,0))):
 (w.freeze ⟨b,n,none⟩ 1).heap[b]? = some (.cells c T (n,n+1))/\(∀ k,k ≠ b->(w.freeze ⟨b,n,none⟩ 1).heap[k]? = w.heap[k]?)/\(w.freeze ⟨b,n,none⟩ 1).heap.size=w.heap.size/\
 (w.freeze ⟨b,n,none⟩ 1).os=w.os/\(w.freeze ⟨b,n,none⟩ 1).tape=w.tape/\(w.freeze ⟨b,n,none⟩ 1).output=w.output:=by
 unfold World.freeze
 simp only [Nat.one_ne_zero,if_false]
 refine⟨?_,?_,?_,?_,?_,?_⟩
 · simp [Array.getElem?_modify,h]
 · intro k hk
   simp [Array.getElem?_modify,Ne.symm hk]
 · simp
 · trivial
 · trivial
 · trivial
theorem lR (w:World) (b o n:Nat) (c:Array Value) (T:TypeId) (h:w.heap[b]? = some (.cells c T (0,0))):(markStringish ⟨b,o,none⟩).run P w= .ok () (w.freeze ⟨b,c.size,none⟩ 1):=by
 have:w.shape? b=some (T,c.size):=by simp [World.shape?,h]
 simp [markStringish,this]
theorem frz_sound (hR:MRel C m w L) (hE:ERel C e m a w L) {t el:Nat} {x:Operand} {x':Opn} (ho:o.op= .convert t t x) (ht:P.underlying t=some (.slice el)) (he:P.underlying el=some (.int .u8))
    (hx:aL x x'=true) {K:AV->Mem->Prop} (hvc:vcFrz m (x'.ev e) K):GoodK P C m w L o a K:=by
  have hx:=aM hE hx
  generalize x'.ev e=U at hx hvc
  generalize hra:a.eval x=r at hx
  cases U <;> (try exact False.elim hvc)
  rename_i l off len cap
  simp only [vcFrz]at hvc
  split at hvc
  case h_2=>exact hvc.elim
  rename_i blk hm
  obtain⟨hb,hK⟩:=cC hvc
  simp only [Bool.and_eq_true,decide_eq_true_eq]at hb
  obtain⟨hle,hcap⟩:=hb
  cases hx with
  | sl0=>omega
  | sl0n=>omega
  | sl _ _ _ _ le hl g1 g2 =>
    obtain⟨e0,k1,k2,k5,k0⟩:=hR.blk l blk hm
    rw [hl]at k1;obtain rfl:=Option.some.inj k1
    obtain⟨c,T,k3,k4,k6,k7⟩:=k0 (by omega)
    obtain⟨f1,f2,f3,f4,f5,f6⟩:=freeze_heap w le.b c.size c T k3
    have hrun:(convert t t (.slice (some ⟨le.b,off*le.es,none⟩) len cap)).run P w= .ok (.slice (some ⟨le.b,off*le.es,none⟩) len cap) (w.freeze ⟨le.b,c.size,none⟩ 1):=by
      have hms:=lR (P:=P) w le.b (off*le.es) c.size c T k3
      simp only [convert,Sem.run_bind,run_underlying ht,Result.andThen_ok,run_underlying he,beq_self_eq_true,hms,Sem.run_pure]
    obtain⟨q1,q2⟩:=hR.kill l
    have hown:own m L le.b:=⟨l,blk,le,hm,hl,by omega,rfl⟩
    have hnown:¬ OO C (m.set l none) L le.b:=by
      rintro(h | ⟨k,bk,e',h1,h2,h4,h3⟩)
      · exact hR.notX _ hown h
      · obtain⟨n1,n2⟩:=fU h1
        exact n1 (hR.inj k l bk blk e' le n2 hm h2 hl h4 (by omega) h3)
    have hx2:Ext w.heap L (OO C m L) (w.freeze ⟨le.b,c.size,none⟩ 1).heap L (OO C (m.set l none) L):=
      ⟨fun _ _ h=>h,fun b hb hO=>f2 b (fun h=>hO (.inr (h ▸ hown))),q2.own⟩
    refine⟨_,m.set l none,.slice (some ⟨le.b,off*le.es,none⟩) len cap,_,L,.inl (by simp [execOp,ho,hra,hrun]),hK,?_,hx2,?_⟩
    · refine⟨by rw [f4];exact hR.os,by rw [f5];exact hR.tape,by rw [f6];exact hR.output,by rw [f3];exact hR.size,?_,q1.lay,?_,q1.inj,q1.base,hR.xlt,q1.notX⟩
      · intro b hb hO
        by_cases hbe:b=le.b
        · subst hbe
          rcases k6 with k6 | k6
          · omega
          · exact absurd k6 hO
        · rw [f2 b hbe];exact hR.frame b hb hO
      · intro k bk h
        obtain⟨n1,n2⟩:=fU h
        obtain⟨e1,p1,p2,p5,p0⟩:=hR.blk k bk n2
        refine⟨e1,p1,p2,p5,fun htp=> ?_⟩
        obtain⟨c1,T1,p3,p4,p6,p7⟩:=p0 htp
        have hne:e1.b ≠ le.b:=fun hh=>n1 (hR.inj k l bk blk e1 le n2 hm p1 hl htp (by omega) hh)
        refine⟨c1,T1,by rw [f2 _ hne];exact p3,p4,p6,fun i j hi hj=> ?_⟩
        obtain⟨v,h1,h2,h3⟩:=p7 i j hi hj
        exact⟨v,h1,h2.ext hx2,h3⟩
    · have hcells:∀ i j,∃ v,i<len->j<blk.es->c[(off+i)*blk.es+j]? = some v/\VR w.heap L (OO C m L) (blk.get (off+i) j) v/\v.oneCell'=true:=by
        intro i j
        by_cases hi:i<len
        · by_cases hj:j<blk.es
          · obtain⟨v,hv⟩:=k7 (off+i) j (by omega) hj;exact⟨v,fun _ _=>hv⟩
          · exact⟨undef,fun _ h=>absurd h hj⟩
        · exact⟨undef,fun h=>absurd h hi⟩
      refine .vsl blk.es len cap _ le.b (off*le.es) (fun i j=>(hcells i j).choose) g1 (fun i j hi hj=> ?_) (fun i j hi hj=>((hcells i j).choose_spec hi hj).2.1.ext hx2)
      have hh:=(hcells i j).choose_spec hi hj
      refine⟨hnown,?_,hh.2.2⟩
      unfold eO
      rw [f1]
      have e1:off*le.es+(i*blk.es+j)=(off+i)*blk.es+j:=by rw [k2,Nat.add_mul];omega
      simp only [e1]
      exact hh.1
theorem sbytes_sound (hR:MRel C m w L) (hE:ERel C e m a w L) {t t2 el:Nat} {x:Operand} {x':Opn} (ho:o.op= .convert t t2 x) (ht:P.underlying t=some .string) (hd:P.underlying t2=some (.slice el)) (he:P.underlying el=some (.int .u8))
 (hx:aL x x'=true) {K:AV->Mem->Prop} (hvc:vcSbytes m (x'.ev e) K):GoodK P C m w L o a K:=by
 have hx:=aM hE hx
 generalize x'.ev e=U at hx hvc
 generalize hra:a.eval x=r at hx
 cases hx <;> (try exact False.elim hvc)
 rename_i s
 simp only [vcSbytes]at hvc
 generalize hnc:grownCap w s.size 0 el=nc
 have hge:s.size<=nc:=by rw [<- hnc];exact grownCap_ge _ _ _ _
 generalize hcs:(s.data.map (fun b=>Value.int .u8 b.toNat)++Array.replicate (nc - s.size) (Value.int .u8 0):Array Value)=c
 have hnew:(w.drew.alloc (.cells c el)).heap[w.heap.size]? = some (.cells c el (0,0)):=heap_alloc_new w.drew _
 obtain⟨f1,f2,f3,f4,f5,f6⟩:=freeze_heap (w.drew.alloc (.cells c el)) w.heap.size c.size c el hnew
 have hrun:(convert t t2 (.string s)).run P w= .ok (.slice (some ⟨w.heap.size,0,none⟩) s.size nc) ((w.drew.alloc (.cells c el)).freeze ⟨w.heap.size,c.size,none⟩ 1):=by
  have hms:=lR (P:=P) (w.drew.alloc (.cells c el)) w.heap.size 0 c.size c el hnew
  have hch:(choose (.appendCap s.size 0 el)).run P w= .ok nc w.drew:=by
   rw [run_choose];simp [Question.forced];rw [<- hnc];rfl
  simp only [convert,Sem.run_bind,run_underlying ht,run_underlying hd,Result.andThen_ok,run_underlying he,Conv.stringToBytes,hch,newRow,run_newObj,Sem.run_pure,hcs]
  simp only [markStringish]at hms
  simp only [markStringish]
  erw [hms]
  rfl
 have hw':((w.drew.alloc (.cells c el)).freeze ⟨w.heap.size,c.size,none⟩ 1)= {w with heap:=w.heap.push (.cells c el (c.size,c.size+1)),drawn:=((w.drew.alloc (.cells c el)).freeze ⟨w.heap.size,c.size,none⟩ 1).drawn}:=by
  have hh:((w.drew.alloc (.cells c el)).freeze ⟨w.heap.size,c.size,none⟩ 1).heap=w.heap.push (.cells c el (c.size,c.size+1)):=by
   apply Array.ext_getElem?
   intro k
   by_cases hk:k=w.heap.size
   · subst hk;rw [f1];simp
   · rw [f2 k hk]
     show (w.heap.push _)[k]? = _
     rw [Array.getElem?_push,Array.getElem?_push]
     simp [hk]
  rw [<- hh];rfl
 obtain⟨p1,p2⟩:=hR.push (.cells c el (c.size,c.size+1)) _ hw'
 refine⟨_,m,.slice (some ⟨w.heap.size,0,none⟩) s.size nc,_,L,.inl (by simp [execOp,ho,hra,hrun]),hvc nc hge,p1,p2,?_⟩
 refine .vsl 1 s.size nc _ w.heap.size 0 (fun i _=> .int .u8 (s.data.getD i 0).toNat) hge (fun i j hi hj=>⟨?_,?_,rfl⟩) (fun i j hi hj=> .int _ _)
 · rintro(h | ⟨k,bk,e',h1,h2,h4,h3⟩)
   · have:=hR.xlt _ h;have:=hR.size;omega
   · obtain⟨e1,q1,q2,q5,q0⟩:=hR.blk k bk h1
     rw [h2]at q1;obtain rfl:=Option.some.inj q1
     obtain⟨c1,T1,q3,_⟩:=q0 h4
     have:=(Array.getElem?_eq_some_iff.1 q3).1
     omega
 · have:j=0:=by omega
   subst this
   unfold eO
   rw [f1]
   have hlt:i<s.data.size:=hi
   simp only [Nat.zero_add,Nat.mul_one,Nat.add_zero,<- hcs]
   rw [Array.getElem?_append_left (by simpa using hlt)]
   have hlt2:i<s.size:=hlt
   simp [Array.getD,hlt,hlt2]
end
end Go.Wit
end

section
namespace Go.Wit
section
variable {P:Program} {C:Ctx} {m:Mem} {w:World} {L:Lay} {e:Env} {a:Act} {o:Oper}
theorem gS:∀ {xs ys us vs:List AV} {r:Bool},xs.length=ys.length->eU (xs++us) (ys++vs)=some r->∃ r1 r2,eU xs ys=some r1/\eU us vs=some r2/\r=(r1 && r2)
  | [],[],us,vs,r,_,h=>⟨true,r,rfl,by simpa using h,by simp⟩
  | [],_::_,_,_,_,hl,_=>by simp at hl
  | _::_,[],_,_,_,hl,_=>by simp at hl
  | x :: xs, y :: ys, us, vs, r, hl, h => by
    have hl':xs.length=ys.length:=by simpa using hl
    cases x <;> cases y <;> simp only [List.cons_append,eU,reduceCtorEq]at h
    case int.int k a k' b=>
      cases hk:kbeq k k' with
      | false=>simp [hk]at h
      | true =>
        simp only [hk,cond_true,Option.map_eq_some_iff]at h
        obtain⟨q,h1,rfl⟩:=h
        obtain⟨r1,r2,g1,g2,rfl⟩:=gS hl' h1
        exact⟨(a == b) && r1,r2,by simp [eU,hk,g1],g2,by rw [Bool.and_assoc]⟩
    case bool.bool a b=>
      simp only [Option.map_eq_some_iff]at h
      obtain⟨q,h1,rfl⟩:=h
      obtain⟨r1,r2,g1,g2,rfl⟩:=gS hl' h1
      exact⟨(a == b) && r1,r2,by simp [eU,g1],g2,by rw [Bool.and_assoc]⟩
    case str.str a b=>
      simp only [Option.map_eq_some_iff]at h
      obtain⟨q,h1,rfl⟩:=h
      obtain⟨r1,r2,g1,g2,rfl⟩:=gS hl' h1
      exact⟨(a == b) && r1,r2,by simp [eU,g1],g2,by rw [Bool.and_assoc]⟩
def HoldsT (P:Program) (h:Array Obj) (L:Lay) (O:Nat->Prop) (t:TypeId) (us:List AV) (x:Value):Prop:=
 (aggB P t=some true/\∃ c,x= .agg c/\VRs h L O us c.toList)\/(aggB P t=some false/\∃ u,us= [u] /\ VR h L O u x)
theorem run_eqArray (d len el n:Nat) (t:TypeId) (xs ys:Array Value) (ht:P.underlying t=some (.array len el)) (hn:(sizeOf el).run P w= .ok n w) (f:Nat->Bool)
    (hf:∀ i,i<len->∃ x y,(part el xs (i*n)).run P w= .ok x w/\(part el ys (i*n)).run P w= .ok y w/\(Op.equalIn d el x y).run P w= .ok (f i) w):
    (Op.equalIn (d+1) t (.agg xs) (.agg ys)).run P w= .ok ((List.range len).all f) w:=by
  simp only [Op.equalIn,Sem.run_bind,run_underlying ht,Result.andThen_ok,hn]
  have key:∀ (l:List Nat),(∀ i ∈ l,i<len)->
      ((Sem.run P (forIn l ((none:Option Bool),()) fun i __s=>do
        let a <- part el xs (i*n)
        let b <- part el ys (i*n)
        let r <- Op.equalIn d el a b
        if (!r)=true then pure (ForInStep.done (some false,()))else pure (ForInStep.yield (none,()))) w).andThen fun a w'=>Sem.run P (match a.fst with | some r=>pure r | none=>pure true) w')= .ok (l.all f) w:=by
    intro l
    induction l with
    | nil=>intro _;simp
    | cons i l ih =>
      intro hl
      obtain⟨x,y,h1,h2,h3⟩:=hf i (hl i (by simp))
      simp only [List.forIn_cons,Sem.run_bind,h1,h2,h3,Result.andThen_ok,Sem.run_ite]
      cases hfi:f i
      · simp [hfi]
      · simp only [Bool.not_true,Bool.false_eq_true,if_false,Sem.run_pure,Result.andThen_ok,List.all_cons,hfi,Bool.true_and]
        exact ih (fun j hj=>hl j (by simp [hj]))
  have hk:=key (List.range len) (fun i hi=>by simpa using hi)
  rw [Std.Legacy.Range.forIn_eq_forIn_range']
  have hr:List.range' 0 ([:len].size) 1=List.range len:=by simp [Std.Legacy.Range.size,List.range_eq_range']
  simp only [hr]
  refine Eq.trans ?_ hk
  congr 1
  funext q w'
  obtain⟨q,u⟩:=q
  cases q <;> rfl
theorem eqCells_one {u v:AV} {r:Bool} (h:eU [u] [v] = some r):(∃ k a b,u= .int k a/\v= .int k b/\r=(a == b))\/(∃ a b,u= .bool a/\v= .bool b/\r=(a == b))\/(∃ a b,u= .str a/\v= .str b/\r=(a == b)):=by
  cases u <;> cases v <;> simp only [eU,reduceCtorEq]at h
  case int.int k a k' b=>
    cases hk:kbeq k k' with
    | false=>simp [hk]at h
    | true =>
      have:=cX hk;subst this
      simp [hk]at h
      exact .inl ⟨k,a,b,rfl,rfl,h.symm⟩
  case bool.bool a b=>simp at h;exact .inr (.inl ⟨a,b,rfl,rfl,h.symm⟩)
  case str.str a b=>simp at h;exact .inr (.inr ⟨a,b,rfl,rfl,h.symm⟩)
theorem leaf_eq {h:Array Obj} {O:Nat->Prop} {t:TypeId} {dd:TypeDesc} (hu:P.underlying t=some dd) (hd:dd= .bool\/(∃ k,dd= .int k)\/dd= .string) {u v:AV} {x y:Value} {r:Bool} (hx:VR h L O u x) (hy:VR h L O v y) (he:eU [u] [v] = some r) (d:Nat)
 (hty:dd= .bool->∃ a,u= .bool a) (hty2:(∃ k,dd= .int k)->∃ k a,u= .int k a) (hty3:dd= .string->∃ a,u= .str a):(Op.equalIn (d+1) t x y).run P w= .ok r w:=by
 rcases eqCells_one he with⟨k,a,b,rfl,rfl,rfl⟩ | ⟨a,b,rfl,rfl,rfl⟩ | ⟨a,b,rfl,rfl,rfl⟩ <;> cases hx <;> cases hy
 · rcases hd with rfl | ⟨k',rfl⟩ | rfl
   · obtain⟨_,h⟩:=hty rfl;cases h
   · exact run_equalIn_int w d t k k' a b hu
   · obtain⟨_,h⟩:=hty3 rfl;cases h
 · rcases hd with rfl | ⟨k',rfl⟩ | rfl
   · exact run_equalIn_bool' w d t a b hu
   · obtain⟨_,_,h⟩:=hty2 ⟨k',rfl⟩;cases h
   · obtain⟨_,h⟩:=hty3 rfl;cases h
 · rcases hd with rfl | ⟨k',rfl⟩ | rfl
   · obtain⟨_,h⟩:=hty rfl;cases h
   · obtain⟨_,_,h⟩:=hty2 ⟨k',rfl⟩;cases h
   · rw [run_equalIn_string w d t a b hu,beq_toListBytes]
theorem uL:∀ {us:List AV} {ks:List LK},oZ us ks=true->us.map lkOf=ks.map some
  | [],[],_=>rfl
  | [],_::_,h=>by simp [oZ]at h
  | _::_,[],h=>by simp [oZ]at h
  | u :: us, k :: ks, h => by
    cases u <;> cases k <;> simp only [oZ,Bool.false_eq_true]at h <;> simp [lkOf,uL h]
mutual
def jS (P:Program):Nat->TypeId->Option (List LK)
  | 0,_=>none
  | f + 1, t =>
    match P.underlying t with
    | some .bool=>some [.b]
    | some (.int _)=>some [.i]
    | some .string=>some [.s]
    | some (.struct fs)=>if P.stoodInHeld t then none else jD P f fs.toList 0
    | some (.array len el) =>
      match P.info? el,jS P f el with
      | some i,some ks=>if ks.length=i.size/\0<i.size then some (List.replicate len ks).flatten else none
      | _,_=>none
    | _=>none
def jD (P:Program):Nat->List Field->Nat->Option (List LK)
  | 0,_,_=>none
  | f+1,[],o=>some []
  | f + 1, fd :: fs, o =>
    match P.info? fd.type,jS P f fd.type with
    | some i, some ks => if fd.name ≠ "_" ∧ fd.offset = o ∧ ks.length = i.size ∧ 0 < i.size then (jD P f fs (o + i.size)).map (ks ++ ·) else none
    | _,_=>none
end
theorem part_holds' {h:Array Obj} {O:Nat->Prop} {t sz:Nat} {b:Bool} (hb:aggB P t=some b) (hsz:b=false->sz=1) (hs:szB P t sz=true) {us:List AV} {c:Array Value} (hv:VRs h L O us c.toList) {off:Nat} (hle:off+sz<=us.length):
    ∃ x,(part t c off).run P w= .ok x w/\HoldsT P h L O t ((us.drop off).take sz) x:=by
  cases b with
  | true =>
    obtain⟨r,h1,h2,_⟩:=yT (P:=P) (w:=w) hb hs hv (out:=⟨Nat.ble (off+sz) us.length,.agg ((us.drop off).take sz),none⟩) (off:=off) (by simp [partV,bR]) (Nat.ble_eq_true_of_le hle)
    refine⟨r,h1,.inl ⟨hb,?_⟩⟩
    cases h2 with
    | agg _ c' hc=>exact ⟨c',rfl,hc⟩
  | false =>
    obtain rfl:=hsz rfl
    obtain⟨r,h1,h2,_⟩:=yT (P:=P) (w:=w) hb hs hv (out:=⟨Nat.blt off us.length,us.getD off .un,none⟩) (off:=off) (by simp [partV,bR]) (jV (by omega))
    refine⟨r,h1,.inr ⟨hb,us.getD off .un,?_,h2⟩⟩
    apply List.ext_getElem?
    intro k
    rw [List.getElem?_take,List.getElem?_drop]
    cases k with
    | zero=>simp [List.getElem?_eq_getElem (show off<us.length by omega),List.getD]
    | succ k=>simp
theorem kindsTy_agg {f t:Nat} {ks:List LK} (h:jS P f t=some ks):∃ b,aggB P t=some b/\(b=false->ks.length=1):=by
  cases f with
  | zero=>simp [jS]at h
  | succ f =>
    unfold jS at h
    unfold aggB
    cases hu:P.underlying t with
    | none=>simp [hu]at h
    | some d =>
      refine⟨_,rfl,fun hb=> ?_⟩
      cases d <;> simp [hu]at h hb <;> (try (rw [<- h];rfl)) <;> (try (exact absurd hb (by simp)))
theorem iJ {α:Type} (us:List α) (o s:Nat):us.drop o=(us.drop o).take s++us.drop (o+s):=by
 rw [<- List.drop_drop,List.take_append_drop]
theorem jU {us:List AV} {ks ks':List LK} {o:Nat} (h:(us.drop o).map lkOf=(ks++ks').map some):((us.drop o).take ks.length).map lkOf=ks.map some/\(us.drop (o+ks.length)).map lkOf=ks'.map some:=by
 have h1:=congrArg (List.take ks.length) h
 have h2:=congrArg (List.drop ks.length) h
 constructor
 · rw [List.map_take,h1];simp
 · rw [<- List.drop_drop,List.map_drop,h2];simp
mutual
theorem eq_ty:∀ (f:Nat) (t:TypeId) (ks:List LK),jS P f t=some ks->∀ (d:Nat),f<=d->∀ {h:Array Obj} {O:Nat->Prop} {us vs:List AV} {x y:Value} {r:Bool},us.map lkOf=ks.map some->vs.map lkOf=ks.map some->
    HoldsT P h L O t us x->HoldsT P h L O t vs y->eU us vs=some r->(Op.equalIn d t x y).run P w= .ok r w
  | 0,t,ks,hk,d,hd,_,_,us,vs,x,y,r,_,_,_,_,_=>by simp [jS]at hk
  | f + 1, t, ks, hk, d, hd, h, O, us, vs, x, y, r, hu1, hv1, hx, hy, he => by
    obtain⟨d,rfl⟩ :∃ q,d=q+1:=⟨d - 1,by omega⟩
    unfold jS at hk
    cases hu:P.underlying t with
    | none=>simp [hu]at hk
    | some dd =>
      have leaf:(dd= .bool/\ks= [.b])\/(∃ k,dd= .int k/\ks= [.i])\/(dd= .string/\ks= [.s])->(Op.equalIn (d+1) t x y).run P w= .ok r w:=by
        intro hl
        have hag:aggB P t=some false:=by
          unfold aggB;rw [hu]
          rcases hl with⟨rfl,_⟩ | ⟨k,rfl,_⟩ | ⟨rfl,_⟩ <;> rfl
        rcases hx with⟨h1,_⟩ | ⟨_,u,rfl,hxu⟩
        · rw [hag]at h1;cases h1
        · rcases hy with⟨h1,_⟩ | ⟨_,v,rfl,hyv⟩
          · rw [hag]at h1;cases h1
          · refine leaf_eq hu (by rcases hl with⟨h,_⟩ | ⟨k,h,_⟩ | ⟨h,_⟩ <;> simp [h]) hxu hyv he d ?_ ?_ ?_
            · rintro rfl
              rcases hl with⟨_,rfl⟩ | ⟨k,h,_⟩ | ⟨h,_⟩
              · cases u <;> simp [lkOf]at hu1;exact⟨_,rfl⟩
              · cases h
              · cases h
            · rintro⟨k',rfl⟩
              rcases hl with⟨h,_⟩ | ⟨k,_,rfl⟩ | ⟨h,_⟩
              · cases h
              · cases u <;> simp [lkOf]at hu1;exact⟨_,_,rfl⟩
              · cases h
            · rintro rfl
              rcases hl with⟨h,_⟩ | ⟨k,h,_⟩ | ⟨_,rfl⟩
              · cases h
              · cases h
              · cases u <;> simp [lkOf]at hu1;exact⟨_,rfl⟩
      cases dd <;> simp only [hu,Option.some.injEq,reduceCtorEq]at hk
      case bool=>exact leaf (.inl ⟨rfl,hk.symm⟩)
      case int k=>exact leaf (.inr (.inl ⟨k,rfl,hk.symm⟩))
      case string=>exact leaf (.inr (.inr ⟨rfl,hk.symm⟩))
      case struct fs=>
        have hag:aggB P t=some true:=by unfold aggB;rw [hu];rfl
        rcases hx with⟨_,c,rfl,hc⟩ | ⟨h1,_⟩
        · rcases hy with⟨_,c',rfl,hc'⟩ | ⟨h1,_⟩
          · cases hst:P.stoodInHeld t with
            | true=>simp [hst]at hk
            | false =>
              simp only [hst,Bool.false_eq_true,if_false]at hk
              have hfo:P.fieldsOf t=fs:=by simp [Program.fieldsOf,hu]
              rw [run_equalIn_struct w d t c c' (by rw [hfo];exact hu) hst,hfo]
              exact eq_fields f fs.toList 0 ks hk d (by omega) (by simpa using hu1) (by simpa using hv1) hc hc' (by simpa using he)
          · rw [hag]at h1;cases h1
        · rw [hag]at h1;cases h1
      case array len el=>
        have hag:aggB P t=some true:=by unfold aggB;rw [hu];rfl
        rcases hx with⟨_,c,rfl,hc⟩ | ⟨h1,_⟩
        · rcases hy with⟨_,c',rfl,hc'⟩ | ⟨h1,_⟩
          · cases hi:P.info? el with
            | none=>simp [hi]at hk
            | some i =>
              cases hks:jS P f el with
              | none=>simp [hi,hks]at hk
              | some ke =>
                simp only [hi,hks]at hk
                by_cases hlen0:ke.length=i.size/\0<i.size
                · rw [if_pos hlen0]at hk
                  obtain⟨hlen,hpos⟩:=hlen0
                  simp only [Option.some.injEq]at hk
                  subst hk
                  have hszB:szB P el i.size=true:=by simp [szB,hi]
                  obtain⟨b,hb1,hb2⟩:=kindsTy_agg hks
                  have main:∀ (k:Nat) (o:Nat) (r:Bool),(us.drop o).map lkOf=((List.replicate k ke).flatten).map some->(vs.drop o).map lkOf=((List.replicate k ke).flatten).map some->eU (us.drop o) (vs.drop o)=some r->
                      ∃ g:Nat->Bool,r=(List.range k).all g/\∀ q,q<k->∃ x y,(part el c (o+q*i.size)).run P w= .ok x w/\(part el c' (o+q*i.size)).run P w= .ok y w/\(Op.equalIn d el x y).run P w= .ok (g q) w:=by
                    intro k
                    induction k with
                    | zero =>
                      intro o r h1 h2 h3
                      have e1:us.drop o= [] :=by simpa using h1
                      have e2:vs.drop o= [] :=by simpa using h2
                      rw [e1,e2]at h3
                      simp [eU]at h3
                      exact⟨fun _=>true,by simp [<- h3],fun q hq=>by omega⟩
                    | succ k ih =>
                      intro o r h1 h2 h3
                      rw [List.replicate_succ,List.flatten_cons]at h1 h2
                      obtain⟨a1,a2⟩:=jU h1
                      obtain⟨b1,b2⟩:=jU h2
                      rw [iJ us o ke.length,iJ vs o ke.length]at h3
                      have l1:((us.drop o).take ke.length).length=ke.length:=by have:=congrArg List.length a1;simpa using this
                      have l2:((vs.drop o).take ke.length).length=ke.length:=by have:=congrArg List.length b1;simpa using this
                      obtain⟨r1,r2,c1,c2,rfl⟩:=gS (by rw [l1,l2]) h3
                      obtain⟨g,g1,g2⟩:=ih (o+ke.length) r2 a2 b2 c2
                      have hle1:o+i.size<=us.length:=by rw [<- hlen];simp at l1;omega
                      have hle2:o+i.size<=vs.length:=by rw [<- hlen];simp at l2;omega
                      obtain⟨x,p1,p2⟩:=part_holds' (w:=w) hb1 (fun h=>by rw [<- hlen];exact hb2 h) hszB hc hle1
                      obtain⟨y,q1,q2⟩:=part_holds' (w:=w) hb1 (fun h=>by rw [<- hlen];exact hb2 h) hszB hc' hle2
                      rw [<- hlen]at p2 q2
                      have heq:=eq_ty f el ke hks d (by omega) a1 b1 p2 q2 c1
                      refine⟨fun q=>match q with | 0=>r1 | q+1=>g q,?_,fun q hq=> ?_⟩
                      · rw [List.range_succ_eq_map,List.all_cons,List.all_map,g1];rfl
                      · cases q with
                        | zero=>exact ⟨x,y,by simpa using p1,by simpa using q1,heq⟩
                        | succ q =>
                          obtain⟨x',y',s1,s2,s3⟩:=g2 q (by omega)
                          rw [hlen]at s1 s2
                          refine⟨x',y',?_,?_,s3⟩
                          · rw [<- s1];congr 2;rw [Nat.add_mul];omega
                          · rw [<- s2];congr 2;rw [Nat.add_mul];omega
                  obtain⟨g,g1,g2⟩:=main len 0 r (by simpa using hu1) (by simpa using hv1) (by simpa using he)
                  rw [g1]
                  exact run_eqArray d len el i.size t c c' hu (eS w hszB) g (fun q hq=>by simpa using g2 q hq)
                · rw [if_neg hlen0]at hk;cases hk
          · rw [hag]at h1;cases h1
        · rw [hag]at h1;cases h1
theorem eq_fields:∀ (f:Nat) (fs:List Field) (o:Nat) (ks:List LK),jD P f fs o=some ks->∀ (d:Nat),f<=d->∀ {h:Array Obj} {O:Nat->Prop} {us vs:List AV} {c c':Array Value} {r:Bool},(us.drop o).map lkOf=ks.map some->(vs.drop o).map lkOf=ks.map some->
    VRs h L O us c.toList->VRs h L O vs c'.toList->eU (us.drop o) (vs.drop o)=some r->(Op.eqFields d c c' fs).run P w= .ok r w
  | 0,_,_,_,hk,_,_,_,_,_,_,_,_,_,_,_,_,_,_=>by simp [jD]at hk
  | f + 1, [], o, ks, hk, d, hd, h, O, us, vs, c, c', r, hu1, hv1, hc, hc', he => by
    simp [jD]at hk
    subst hk
    have e1:us.drop o= [] :=by simpa using hu1
    have e2:vs.drop o= [] :=by simpa using hv1
    rw [e1,e2]at he
    simp [eU]at he
    subst he
    rfl
  | f + 1, fd :: fs, o, ks, hk, d, hd, h, O, us, vs, c, c', r, hu1, hv1, hc, hc', he => by
    unfold jD at hk
    cases hi:P.info? fd.type with
    | none=>simp [hi]at hk
    | some i =>
      cases hks:jS P f fd.type with
      | none=>simp [hi,hks]at hk
      | some ke =>
        simp only [hi,hks]at hk
        by_cases hcond : fd.name ≠ "_" ∧ fd.offset = o ∧ ke.length = i.size ∧ 0 < i.size
        · rw [if_pos hcond]at hk
          obtain⟨hn,ho,hlen,hpos⟩:=hcond
          simp only [Option.map_eq_some_iff]at hk
          obtain⟨k2,hk2,rfl⟩:=hk
          obtain⟨a1,a2⟩:=jU hu1
          obtain⟨b1,b2⟩:=jU hv1
          rw [iJ us o ke.length,iJ vs o ke.length]at he
          have l1:((us.drop o).take ke.length).length=ke.length:=by have:=congrArg List.length a1;simpa using this
          have l2:((vs.drop o).take ke.length).length=ke.length:=by have:=congrArg List.length b1;simpa using this
          obtain⟨r1,r2,c1,c2,rfl⟩:=gS (by rw [l1,l2]) he
          obtain⟨b,hb1,hb2⟩:=kindsTy_agg hks
          have hszB:szB P fd.type i.size=true:=by simp [szB,hi]
          have hle1:o+i.size<=us.length:=by rw [<- hlen];simp at l1;omega
          have hle2:o+i.size<=vs.length:=by rw [<- hlen];simp at l2;omega
          obtain⟨x,p1,p2⟩:=part_holds' (w:=w) hb1 (fun h=>by rw [<- hlen];exact hb2 h) hszB hc hle1
          obtain⟨y,q1,q2⟩:=part_holds' (w:=w) hb1 (fun h=>by rw [<- hlen];exact hb2 h) hszB hc' hle2
          rw [<- hlen]at p2 q2
          have heq:=eq_ty f fd.type ke hks d (by omega) a1 b1 p2 q2 c1
          have hrest:=eq_fields f fs (o+i.size) k2 hk2 d (by omega) (by rw [<- hlen];exact a2) (by rw [<- hlen];exact b2) hc hc' (by rw [<- hlen];exact c2)
          unfold Op.eqFields
          rw [if_pos hn]
          rw [ho]
          simp only [Sem.run_bind,p1,q1,heq,Result.andThen_ok]
          cases r1
          · simp
          · simp [hrest]
        · rw [if_neg hcond]at hk;cases hk
end
theorem g_eqa (hR:MRel C m w L) (hE:ERel C e m a w L) {neg:Bool} {t t':TypeId} {x y:Operand} {x' y':Opn} {ks:List LK} (ho:o.op= .binOp (bif neg then .neq else .eql) t x y t') (hk:jS P 60 t=some ks) (hag:aggB P t=some true) (hm:P.eqGuardType P.depth t=false) (hx:aL x x'=true) (hy:aL y y'=true) {out:Out} (hev:evD (.eqa ks neg x' y') e m=some out):Good P C m w L o a out:=by
  have hx:=aM hE hx
  have hy:=aM hE hy
  simp only [evD]at hev
  generalize x'.ev e=u at hx hev
  generalize y'.ev e=v at hy hev
  generalize hra:a.eval x=r at hx
  generalize hrb:a.eval y=s at hy
  split at hev
  case h_2=>simp at hev
  rename_i us vs
  cases hkk:(oZ us ks && oZ vs ks)with
  | false=>simp [hkk]at hev
  | true =>
    simp only [hkk,cond_true,Option.map_eq_some_iff]at hev
    obtain⟨b,hb,rfl⟩:=hev
    simp only [Bool.and_eq_true]at hkk
    cases hx with
    | agg _ c hc =>
      cases hy with
      | agg _ c' hc' =>
        have heq:=eq_ty (w:=w) 60 t ks hk 10000 (by omega) (uL hkk.1) (uL hkk.2) (.inl ⟨hag,c,rfl,hc⟩) (.inl ⟨hag,c',rfl,hc'⟩) hb
        have hg:∀ op,(eqGuard op t x y (.agg c) (.agg c')).run P w= .ok () w:=fun op=>run_eqGuard_agg w op t x y c c' hm
        refine aN hR (r:= .bool (bif neg then !b else b)) ?_ (.bool _)
        cases neg
        · simp only [cond_false]at ho ⊢
          have:=run_eql_struct (P:=P) w t c c'
          simp [execOp,ho,hra,hrb,hg,this,heq]
        · simp only [cond_true]at ho ⊢
          have:=run_neq_struct (P:=P) w t c c'
          simp [execOp,ho,hra,hrb,hg,this,heq]
end
end Go.Wit
end

section
namespace Go.Wit
def qF (es:Nat):List (Nat × Operand)->List (Nat × Nat × Opn)->Bool
 | [],[] =>true
 | (i,x)::ps,(off,sz,y)::qs=>(off == i*es && sz == es) && (aL x y && qF es ps qs)
 | _,_=>false
theorem sP (es:Nat):∀ (ps:List (Nat × Operand)) (qs:List (Nat × Nat × Opn)),qF es ps qs=true->ps.length=qs.length/\
    ∀ (k:Nat) (p:Nat × Operand) (q:Nat × Nat × Opn),ps[k]? = some p->qs[k]? = some q->q.1=p.1*es/\q.2.1=es/\aL p.2 q.2.2=true
  | [],[],_=>⟨rfl,fun k p q h=>by simp at h⟩
  | [],q::qs,h=>by simp [qF]at h
  | p::ps,[],h=>by simp [qF]at h
  | (i, x) :: ps, (off, sz, y) :: qs, h => by
    simp only [qF,Bool.and_eq_true,beq_iff_eq]at h
    obtain⟨⟨h1,h2⟩,h3,h4⟩:=h
    obtain⟨r1,r2⟩:=sP es ps qs h4
    refine⟨by simp [r1],fun k p q hp hq=> ?_⟩
    cases k with
    | zero =>
      simp at hp hq
      subst hp;subst hq
      exact⟨h1,h2,h3⟩
    | succ k=>exact r2 k p q (by simpa using hp) (by simpa using hq)
def wM:List Operand->List Opn->Bool
 | [],[] =>true
 | x::xs,y::ys=>aL x y && wM xs ys
 | _,_=>false
theorem qZ:∀ (ps:List Operand) (qs:List Opn),wM ps qs=true->ps.length=qs.length/\∀ (k:Nat) (p:Operand) (q:Opn),ps[k]? = some p->qs[k]? = some q->aL p q=true
  | [],[],_=>⟨rfl,fun k p q h=>by simp at h⟩
  | [],q::qs,h=>by simp [wM]at h
  | p::ps,[],h=>by simp [wM]at h
  | x :: ps, y :: qs, h => by
    simp only [wM,Bool.and_eq_true]at h
    obtain⟨h3,h4⟩:=h
    obtain⟨r1,r2⟩:=qZ ps qs h4
    refine⟨by simp [r1],fun k p q hp hq=> ?_⟩
    cases k with
    | zero =>
      simp at hp hq
      subst hp;subst hq
      exact h3
    | succ k=>exact r2 k p q (by simpa using hp) (by simpa using hq)
def undB (P:Program) (t:Nat) (f:TypeDesc->Bool):Bool:=
 match P.underlying t with
 | some d=>f d
 | none=>false
theorem bA {P:Program} {t:Nat} {f:TypeDesc->Bool} (h:undB P t f=true):∃ d,P.underlying t=some d/\f d=true:=by
 unfold undB at h
 split at h
 · exact⟨_,by assumption,h⟩
 · cases h
def dBool:TypeDesc->Bool | .bool=>true | _=>false
def dInt (k:IntKind):TypeDesc->Bool | .int k'=>kbeq k k' | _=>false
def dStr:TypeDesc->Bool | .string=>true | _=>false
def dSl (f:Nat->Bool):TypeDesc->Bool | .slice e=>f e | _=>false
def dArr (n:Nat) (f:Nat->Bool):TypeDesc->Bool | .array k e=>n == k && f e | _=>false
def dPtr:TypeDesc->Bool | .pointer _=>true | _=>false
def dIf:TypeDesc->Bool | .interface _=>true | _=>false
def dNotInt:TypeDesc->Bool | .int _=>false | _=>true
def bopB (op:BinOp) (neg:Bool):Bool:=decide (op=bif neg then BinOp.neq else BinOp.eql)
def sG (kind:Nat):Operand->Bool
 | .const (.slice none 0 0)=>kind == 0
 | .const (.pointer none)=>kind == 1
 | .const .nilIface=>kind == 2
 | _=>false
def uK (kind:Nat) (x y:Operand) (z:Opn):Option Bool:=
 bif sG kind y && aL x z then some false else bif sG kind x && aL y z then some true else none
def fldB (P:Program) (s f off sz:Nat) (ag:Bool):Bool:=
  match P.underlying s with
  | some (.struct fs) => match fs[f]? with
    | some fd=>fd.offset == off && (aggB P fd.type == some ag && szB P fd.type sz)
    | none=>false
  | _=>false
def bytesB (P:Program) (t bytes:Nat):Bool:=
  match P.underlying t with
  | some (.slice el) => match P.info? el with
    | some i=>i.bytes == bytes
    | none=>false
  | _=>false
def appB (P:Program) (t es bytes:Nat):Bool:=
  match P.underlying t with
  | some (.slice el) => match P.info? el with
    | some i => match i.zero with
      | some z=>z.cells.size == es && (i.size == es && (i.bytes == bytes && decide (0<es)))
      | none=>false
    | none=>false
  | _=>false
def kindsB (P:Program) (t:Nat) (ks:List LK):Bool:=
 match jS P 60 t with
 | some ks'=>decide (ks'=ks)
 | none=>false
def callB (c:Call) (b:Builtin):Option (List Operand × List Nat):=
 match c.callee with
 | .builtin b'=>if b'=b then some (c.args.toList,c.argTypes.toList)else none
 | _=>none
def zeroVB (P:Program) (t:Nat) (z:AV):Bool:=
  match P.info? t with
  | some i => match i.zero with
    | some v=>lL z v
    | none=>false
  | none=>false
def cU (P:Program) (op:Op) (ao:AOp):Bool:=
  match op,ao with
  | .move x,.mv y=>aL x y
  | .assign x,.mv y=>aL x y
  | .nilCheck x,.nck y=>aL x y
  | .pick c a b,.pick c' a' b'=>aL c c' && (aL a a' && aL b b')
  | .alloc t,.alloc es n zs=>zeroB P t es n zs
  | .box t x,.box es n y=>aL x y
  | .build t ps,.build zs qs=>zerosB P t zs && (fieldsB P t && qY P t ps.toList qs)
  | .buildSlice t len ps,.bsl es len' zs qs=>len == len' && (elemB P t es zs && (decide (len*es<=16777216) && qF es ps.toList qs))
  | .load t x,.load sz ag y=>decide (aggB P t=some ag) && (szB P t sz && aL x y)
  | .store t x v,.store sz y u=>szB P t sz && (aL x y && aL v u)
  | .store t x v,.stA es n sz y u=>szB P t sz && (aL x y && aL v u)
  | .binOp op t x y _,.bin op' x' y'=>decide (op=op') && (aL x x' && aL y y')
  | .binOp op t x y _,.binF op' x' y'=>decide (op=op') && (aL x x' && aL y y')
  | .binOp op t x y _,.eqb neg x' y'=>bopB op neg && (undB P t dBool && (aL x x' && aL y y'))
  | .binOp op t x y _,.eqa ks neg x' y'=>bopB op neg && (kindsB P t ks && (decide (aggB P t=some true) && (!P.eqGuardType P.depth t && (aL x x' && aL y y'))))
  | .binOp op t x y _,.eqnS neg z=>bopB op neg && (undB P t (dSl fun _=>true) && (uK 0 x y z).isSome)
  | .binOp op t x y _,.eqnP neg z=>bopB op neg && (undB P t dPtr && (uK 1 x y z).isSome)
  | .binOp op t x y _,.eqnI neg z=>bopB op neg && (undB P t dIf && (uK 2 x y z).isSome)
  | .unOp op t x,.un op' y=>decide (op=op') && aL x y
  | .convert s t x,.conv k y=>undB P s (fun _=>true) && (undB P t (dInt k) && aL x y)
  | .convert s t x,.bstr y=>undB P s (dSl fun e=>undB P e (dInt .u8)) && (undB P t dStr && aL x y)
  | .convert s t x,.sbytes y=>undB P t (dSl fun e=>undB P e (dInt .u8)) && (undB P s dStr && aL x y)
  | .convert s t x,.frz y=>s == t && (undB P s (dSl fun e=>undB P e (dInt .u8)) && aL x y)
  | .sliceToArrayPointer t x,.arrp n es y=>undB P t (dArr n fun _=>true) && aL x y
  | .slice t x lo hi mx,.slice es y lo' hi' mx'=>undB P t (dSl fun e=>szB P e es) && (aL x y && (jB lo lo' && (jB hi hi' && jB mx mx')))
  | .slice t x lo hi mx,.sslice y lo' hi'=>undB P t dStr && (aL x y && (jB lo lo' && (jB hi hi' && mx.isNone)))
  | .slice t x lo hi mx,.slarr n es y lo' hi' mx'=>undB P t (dArr n fun e=>szB P e es) && (aL x y && (jB lo lo' && (jB hi hi' && jB mx mx')))
  | .fieldAddr s x f,.fldA off y=>fieldB P s f off && aL x y
  | .field s x f,.fld off sz ag y=>fldB P s f off sz ag && aL x y
  | .indexAddr t x i,.idxA es x' i'=>undB P t (dSl fun e=>szB P e es) && (aL x x' && aL i i')
  | .indexAddr t x i,.idxP n es x' i'=>undB P t (dArr n fun e=>szB P e es) && (aL x x' && aL i i')
  | .index t x i,.idx n es ag x' i'=>undB P t (dArr n fun e=>szB P e es && decide (aggB P e=some ag)) && (aL x x' && aL i i')
  | .index t x i,.idxs x' i'=>undB P t dStr && (aL x x' && aL i i')
  | .extract x i,.ext y j=>i == j && aL x y
  | .makeInterface t x,.mkif t' y=>t == t' && (undB P t (fun d=> !dIf d) && aL x y)
  | .typeAssert x xt t ok,.tas y t' ok' z=>t == t' && (ok == ok' && (undB P t (fun d=> !dIf d) && (zeroVB P t z && aL x y)))
  | .makeFunc (.func f) fst caps,.mkfn f' caps'=>f == f' && (fst.size == 0 && wM caps.toList caps')
  | .makeSlice t l c,.mksl es bytes zs l' c'=>elemB P t es zs && (bytesB P t bytes && (aL l l' && aL c c'))
  | .call c, .len y => match callB c .len with
    | some ([x],[t])=>undB P t (dSl fun _=>true) && aL x y
    | _=>false
  | .call c, .lens y => match callB c .len with
    | some ([x],[t])=>undB P t dStr && aL x y
    | _=>false
  | .call c, .lena n => match callB c .len with
    | some ([x],[t])=>undB P t (dArr n fun _=>true)
    | _=>false
  | .call c, .x64 sub f x' y' z' => match c.callee, c.args.toList with
    | .value g,[x,y,z] =>(match P.funcs[f]? with | some fn=>fn.name == x64N sub && (fn.body.isNone && (Extern.findNext fn).isNone) | none=>false) && (aL g (.c (.fn f [])) && (aL x x' && (aL y y' && aL z z')))
    | _,_=>false
  | .call c, .mn x' y' => match callB c .min with
    | some ([x,y],_)=>aL x x' && aL y y'
    | _=>false
  | .call c, .copy es x' y' => match callB c .copy with
    | some ([x,y],[t,_])=>undB P t (dSl fun e=>szB P e es) && (aL x x' && aL y y')
    | _=>false
  | .call c, .app es bytes x' y' => match callB c .append with
    | some ([x,y],[t,u])=>appB P t es bytes && (undB P u dNotInt && (aL x x' && aL y y'))
    | _=>false
  | .call c, .call f args => match c.callee with
    | .value g=>aL g f && wM c.args.toList args
    | _=>false
  | _,_=>false
theorem jZ {c:Call} {b:Builtin} {xs:List Operand} {ts:List Nat} (h:callB c b=some (xs,ts)):c= {callee:= .builtin b,args:=xs.toArray,argTypes:=ts.toArray}:=by
 obtain⟨callee,args,argTypes⟩:=c
 unfold callB at h
 simp only at h
 split at h
 · rename_i b'
   split at h
   · rename_i hb
     simp only [Option.some.injEq,Prod.mk.injEq]at h
     obtain⟨rfl,rfl⟩:=h
     subst hb
     simp
   · cases h
 · cases h
theorem kU {kind:Nat} {x y:Operand} {z:Opn} (h:(uK kind x y z).isSome=true):∃ sw u v,aL u z=true/\sG kind v=true/\x=(bif sw then v else u)/\y=(bif sw then u else v):=by
  unfold uK at h
  cases h1:(sG kind y && aL x z)with
  | true =>
    simp only [Bool.and_eq_true]at h1
    exact⟨false,x,y,h1.2,h1.1,rfl,rfl⟩
  | false =>
    cases h2:(sG kind x && aL y z)with
    | true =>
      simp only [Bool.and_eq_true]at h2
      exact⟨true,y,x,h2.2,h2.1,rfl,rfl⟩
    | false=>simp [h1,h2]at h
section
variable {P:Program} {C:Ctx} {m:Mem} {w:World} {L:Lay} {e:Env} {a:Act} {o:Oper}
theorem mB {op:BinOp} {neg:Bool} (h:bopB op neg=true):op=bif neg then BinOp.neq else BinOp.eql:=by simpa [bopB]using h
theorem gP (hR:MRel C m w L) (hE:ERel C e m a w L) {ao:AOp} (hc:cU P o.op ao=true) {out:Out} (hev:evD ao e m=some out) (hok:out.ok=true):Good P C m w L o a out:=by
 generalize hop:o.op=op at hc
 unfold cU at hc
 split at hc
 · exact(by simp only [evD,Wit.out,Option.some.injEq]at hev;subst hev;exact g_mv hR hE (.inl hop) hc)
 · exact(by simp only [evD,Wit.out,Option.some.injEq]at hev;subst hev;exact g_mv hR hE (.inr hop) hc)
 · exact g_nck hR hE hop hc hev
 · simp only [Bool.and_eq_true]at hc;exact g_pick hR hE hop hc.1 hc.2.1 hc.2.2 hev
 · exact g_alloc hR hop hc hev
 · exact g_box hR hE hop hc hev
 · simp only [Bool.and_eq_true]at hc;exact g_build hR hE hop hc.1 hc.2.1 hc.2.2 hev
 · simp only [Bool.and_eq_true,beq_iff_eq,decide_eq_true_eq]at hc
   obtain⟨rfl,h1,h2,h3⟩:=hc
   have:=sP _ _ _ h3
   exact g_bsl hR hE hop h1 h2 ⟨by simpa using this.1,this.2⟩ hev
 · simp only [Bool.and_eq_true,decide_eq_true_eq]at hc;exact g_load hR hE hop hc.1 hc.2.1 hc.2.2 hev hok
 · simp only [Bool.and_eq_true]at hc;exact g_store hR hE hop hc.1 hc.2.1 hc.2.2 hev hok
 · simp [evD]at hev
 · simp only [Bool.and_eq_true,decide_eq_true_eq]at hc
   obtain⟨rfl,h1,h2⟩:=hc
   exact g_bin hR hE hop h1 h2 hev hok
 · simp only [Bool.and_eq_true,decide_eq_true_eq]at hc
   obtain⟨rfl,h1,h2⟩:=hc
   exact g_bin hR hE hop h1 h2 hev hok
 · simp only [Bool.and_eq_true]at hc
   obtain⟨h0,h1,h2,h3⟩:=hc
   obtain⟨d,hd,hd'⟩:=bA h1
   have:d= .bool:=by cases d <;> simp [dBool]at hd' <;> rfl
   subst this
   have:=mB h0;subst this
   exact g_eqb hR hE hop hd h2 h3 hev
 · simp only [Bool.and_eq_true,decide_eq_true_eq,Bool.not_eq_true']at hc
   obtain⟨h0,h1,h2,h3,h4,h5⟩:=hc
   have:=mB h0;subst this
   unfold kindsB at h1
   split at h1
   · rename_i ks' hk
     have:=of_decide_eq_true h1
     subst this
     exact g_eqa hR hE hop hk h2 h3 h4 h5 hev
   · cases h1
 · simp only [Bool.and_eq_true]at hc
   obtain⟨h0,h1,h2⟩:=hc
   have:=mB h0;subst this
   obtain⟨d,hd,hd'⟩:=bA h1
   obtain⟨sw,u,v,g1,g2,rfl,rfl⟩:=kU h2
   cases d <;> simp only [dSl,Bool.false_eq_true]at hd'
   have hv:v= .const (.slice none 0 0):=by
    unfold sG at g2;split at g2 <;> first | rfl | simp at g2
   exact g_eqnS hR hE hop hd hv g1 hev hok
 · simp only [Bool.and_eq_true]at hc
   obtain⟨h0,h1,h2⟩:=hc
   have:=mB h0;subst this
   obtain⟨d,hd,hd'⟩:=bA h1
   obtain⟨sw,u,v,g1,g2,rfl,rfl⟩:=kU h2
   cases d <;> simp only [dPtr,Bool.false_eq_true]at hd'
   have hv:v= .const (.pointer none):=by
    unfold sG at g2;split at g2 <;> first | rfl | simp at g2
   exact g_eqnP hR hE hop hd hv g1 hev
 · simp only [Bool.and_eq_true]at hc
   obtain⟨h0,h1,h2⟩:=hc
   have:=mB h0;subst this
   obtain⟨d,hd,hd'⟩:=bA h1
   obtain⟨sw,u,v,g1,g2,rfl,rfl⟩:=kU h2
   cases d <;> simp only [dIf,Bool.false_eq_true]at hd'
   have hv:v= .const .nilIface:=by
    unfold sG at g2;split at g2 <;> first | rfl | simp at g2
   exact g_eqnI hR hE hop hd hv g1 hev
 · simp only [Bool.and_eq_true,decide_eq_true_eq]at hc
   obtain⟨rfl,h1⟩:=hc
   exact g_un hR hE hop h1 hev
 · simp only [Bool.and_eq_true]at hc
   obtain⟨h0,h1,h2⟩:=hc
   obtain⟨d,hd,hd'⟩:=bA h1
   obtain⟨d2,hd2,_⟩:=bA h0
   cases d <;> simp only [dInt,Bool.false_eq_true]at hd'
   have:=cX hd';subst this
   exact g_conv hR hE hop hd2 hd h2 hev
 · simp [evD]at hev
 · simp [evD]at hev
 · simp [evD]at hev
 · simp only [Bool.and_eq_true]at hc
   obtain⟨d,hd,hd'⟩:=bA hc.1
   cases d <;> simp only [dArr,Bool.false_eq_true,Bool.and_eq_true,beq_iff_eq]at hd'
   obtain⟨rfl,_⟩:=hd'
   exact g_arrp hR hE hop hd hc.2 hev hok
 · simp only [Bool.and_eq_true]at hc
   obtain⟨d,hd,hd'⟩:=bA hc.1
   cases d <;> simp only [dSl,Bool.false_eq_true]at hd'
   exact g_slice hR hE hop hd hd' hc.2.1 hc.2.2.1 hc.2.2.2.1 hc.2.2.2.2 hev hok
 · simp only [Bool.and_eq_true,Option.isNone_iff_eq_none]at hc
   obtain⟨h0,h1,h2,h3,rfl⟩:=hc
   obtain⟨d,hd,hd'⟩:=bA h0
   cases d <;> simp only [dStr,Bool.false_eq_true]at hd'
   exact g_slices hR hE hop hd h1 h2 h3 hev hok
 · simp only [Bool.and_eq_true]at hc
   obtain⟨d,hd,hd'⟩:=bA hc.1
   cases d <;> simp only [dArr,Bool.false_eq_true,Bool.and_eq_true,beq_iff_eq]at hd'
   obtain⟨rfl,hd'⟩:=hd'
   exact g_slarr hR hE hop hd hd' hc.2.1 hc.2.2.1 hc.2.2.2.1 hc.2.2.2.2 hev hok
 · simp only [Bool.and_eq_true]at hc
   exact g_fldA hR hE hop hc.1 hc.2 hev
 · simp only [Bool.and_eq_true]at hc
   obtain⟨h0,h1⟩:=hc
   unfold fldB at h0
   split at h0
   · rename_i fs hu
     split at h0
     · rename_i fd hfd
       simp only [Bool.and_eq_true,beq_iff_eq]at h0
       exact g_fld hR hE hop hu hfd h0.1 h0.2.1 h0.2.2 h1 hev hok
     · cases h0
   · cases h0
 · simp only [Bool.and_eq_true]at hc
   obtain⟨d,hd,hd'⟩:=bA hc.1
   cases d <;> simp only [dSl,Bool.false_eq_true]at hd'
   exact g_idxA hR hE hop hd hd' hc.2.1 hc.2.2 hev hok
 · simp only [Bool.and_eq_true]at hc
   obtain⟨d,hd,hd'⟩:=bA hc.1
   cases d <;> simp only [dArr,Bool.false_eq_true,Bool.and_eq_true,beq_iff_eq]at hd'
   obtain⟨rfl,hd'⟩:=hd'
   exact g_idxP hR hE hop hd hd' hc.2.1 hc.2.2 hev hok
 · simp only [Bool.and_eq_true]at hc
   obtain⟨d,hd,hd'⟩:=bA hc.1
   cases d <;> simp only [dArr,Bool.false_eq_true,Bool.and_eq_true,beq_iff_eq,decide_eq_true_eq]at hd'
   obtain⟨rfl,h1,h2⟩:=hd'
   exact g_idx hR hE hop hd h2 h1 hc.2.1 hc.2.2 hev hok
 · simp only [Bool.and_eq_true]at hc
   obtain⟨d,hd,hd'⟩:=bA hc.1
   cases d <;> simp only [dStr,Bool.false_eq_true]at hd'
   exact g_idxs hR hE hop hd hc.2.1 hc.2.2 hev hok
 · simp only [Bool.and_eq_true,beq_iff_eq]at hc
   obtain⟨rfl,h1⟩:=hc
   exact g_ext hR hE hop h1 hev
 · simp only [Bool.and_eq_true,beq_iff_eq]at hc
   obtain⟨rfl,h1,h2⟩:=hc
   obtain⟨d,hd,hd'⟩:=bA h1
   exact g_mkif hR hE hop hd (by rintro ms rfl;simp [dIf]at hd') h2 hev
 · simp only [Bool.and_eq_true,beq_iff_eq]at hc
   obtain⟨rfl,rfl,h1,h2,h3⟩:=hc
   obtain⟨d,hd,hd'⟩:=bA h1
   unfold zeroVB at h2
   split at h2
   · rename_i i hi
     split at h2
     · rename_i v hv
       exact g_tas (zv:=v) hR hE hop hd (by rintro ms rfl;simp [dIf]at hd') (fun _=>⟨by simp [zeroValue,typeInfo,hi,hv],h2⟩) h3 hev
     · cases h2
   · cases h2
 · simp only [Bool.and_eq_true,beq_iff_eq]at hc
   obtain⟨rfl,h1,h2⟩:=hc
   rename_i fst caps caps'
   obtain rfl:fst= #[] :=by simpa using h1
   have:=qZ _ _ h2
   exact g_mkfn hR hE hop (by simpa using this.1) (fun k x y hx hy=>this.2 k x y (by simpa using hx) hy) hev
 · simp only [Bool.and_eq_true]at hc
   obtain⟨h0,h1,h2,h3⟩:=hc
   refine g_mksl hR hE hop h0 (fun el i hu hi=> ?_) h2 h3 hev hok
   unfold bytesB at h1
   rw [hu]at h1
   simp only [hi,beq_iff_eq]at h1
   exact h1
 · split at hc
   · rename_i x t hcb
     simp only [Bool.and_eq_true]at hc
     obtain⟨d,hd,hd'⟩:=bA hc.1
     cases d <;> simp only [dSl,Bool.false_eq_true]at hd'
     rw [jZ hcb]at hop
     exact g_len hR hE hop hd hc.2 hev
   · cases hc
 · split at hc
   · rename_i x t hcb
     simp only [Bool.and_eq_true]at hc
     obtain⟨d,hd,hd'⟩:=bA hc.1
     cases d <;> simp only [dStr,Bool.false_eq_true]at hd'
     rw [jZ hcb]at hop
     exact g_lens hR hE hop hd hc.2 hev
   · cases hc
 · split at hc
   · rename_i x t hcb
     obtain⟨d,hd,hd'⟩:=bA hc
     cases d <;> simp only [dArr,Bool.false_eq_true,Bool.and_eq_true,beq_iff_eq]at hd'
     obtain⟨rfl,_⟩:=hd'
     rw [jZ hcb]at hop
     exact g_lena hR hE hop hd hev
   · cases hc
 · rename_i c sub f x' y' z'
   split at hc
   · rename_i g x y z h1 h2
     simp only [Bool.and_eq_true]at hc
     obtain⟨h3,h4,h5,h6,h7⟩:=hc
     split at h3
     · rename_i fn hfn
       simp only [Bool.and_eq_true]at h3
       obtain⟨callee,cargs,tys⟩:=c
       have h2':cargs= #[x,y,z] :=by
        have:cargs.toList= [x,y,z] :=h2
        rw [<- this]
       simp only at h1
       subst h1
       subst h2'
       exact g_x64 hR hE hop hfn h3.1 h3.2.1 h3.2.2 h4 h5 h6 h7 hev hok
     · cases h3
   · cases hc
 · split at hc
   · rename_i x y _ hcb
     simp only [Bool.and_eq_true]at hc
     rw [jZ hcb]at hop
     exact g_mn hR hE hop hc.1 hc.2 hev
   · cases hc
 · split at hc
   · rename_i x y t u hcb
     simp only [Bool.and_eq_true]at hc
     obtain⟨d,hd,hd'⟩:=bA hc.1
     cases d <;> simp only [dSl,Bool.false_eq_true]at hd'
     rw [jZ hcb]at hop
     exact g_copy hR hE hop hd hd' hc.2.1 hc.2.2 hev hok
   · cases hc
 · simp [evD]at hev
 · simp [evD]at hev
 · cases hc
end
end Go.Wit
end

section
namespace Go.Wit
def Callable (P : Program) (f : FuncId) : Prop := ∃ fn, P.funcs[f]? = some fn ∧ (fn.name == "runtime.NumGoroutine") = false ∧ fn.body.isNone = false
structure ACall (P:Program) (f:FuncId) (args:List AV) (m:Mem) (K:AV->Mem->Prop):Prop where
 callable:Callable P f
 run:∀ (C:Ctx) (w:World) (L:Lay) (cargs:Array Value),MRel C m w L->VRs w.heap L (OO C m L) args cargs.toList->
  Calls P f cargs w fun en w'=>∃ v m' r L',en= .returned r/\K v m'/\MRel C m' w' L'/\VR w'.heap L' (OO C m' L') v r/\Ext w.heap L (OO C m L) w'.heap L' (OO C m' L')
def Ctx.here (C:Ctx) (m:Mem) (w:World) (L:Lay):Ctx:=⟨C.X,w,own m L,L,m.length⟩
theorem MRel.here {C:Ctx} {m:Mem} {w:World} {L:Lay} (hR:MRel C m w L):MRel (C.here m w L) m w L:=by
 refine⟨rfl,rfl,rfl,Nat.le_refl _,fun _ _ _=>rfl,hR.lay,fun l blk hl=> ?_,hR.inj,fun l hl=>⟨hl,rfl⟩,fun b hb=>Nat.lt_of_lt_of_le (hR.xlt b hb) hR.size,hR.notX⟩
 obtain⟨e,h1,h2,h3,h0⟩:=hR.blk l blk hl
 refine⟨e,h1,h2,h3,fun ht=> ?_⟩
 obtain⟨c,T,h4,h5,h6,h7⟩:=h0 ht
 exact⟨c,T,h4,h5,.inr ⟨l,blk,e,hl,h1,ht,rfl⟩,h7⟩
theorem MRel.back {C:Ctx} {m m':Mem} {w w':World} {L L':Lay} (hR:MRel C m w L) (h:MRel (C.here m w L) m' w' L'):
 MRel C m' w' L'/\Ext w.heap L (OO C m L) w'.heap L' (OO C m' L'):=by
 have hold:∀ b,own m L b->C.w0.heap.size<=b\/C.O0 b:=by
  rintro b ⟨l,blk,e,h1,h2,h3,rfl⟩
  obtain⟨e',g1,g2,g3,g0⟩:=hR.blk l blk h1
  rw [h2]at g1;obtain rfl:=Option.some.inj g1
  obtain⟨c,T,g4,g5,g6,g7⟩:=g0 h3
  exact g6
 have hs:=hR.size
 have hs':w.heap.size<=w'.heap.size:=h.size
 refine⟨⟨h.os.trans hR.os,h.tape.trans hR.tape,h.output.trans hR.output,by omega,fun b hb hO=> ?_,h.lay,fun l blk hl=> ?_,h.inj,fun l hl=> ?_,hR.xlt,h.notX⟩,⟨fun l e hl=> ?_,fun b hb hO=> ?_,fun b hb hO hO'=> ?_⟩⟩
 · have:¬ own m L b:=fun ho=>(hold b ho).elim (fun h=>by omega) hO
   exact(h.frame b (by show b<w.heap.size;omega) this).trans (hR.frame b hb hO)
 · obtain⟨e,h1,h2,h3,h0⟩:=h.blk l blk hl
   refine⟨e,h1,h2,h3,fun ht=> ?_⟩
   obtain⟨c,T,h4,h5,h6,h7⟩:=h0 ht
   refine⟨c,T,h4,h5,?_,h7⟩
   rcases h6 with h6 | h6
   · exact .inl (by have:w.heap.size<=e.b:=h6;omega)
   · exact hold _ h6
 · obtain⟨g1,g2⟩:=hR.base l hl
   obtain⟨g3,g4⟩:=h.base l g1
   exact⟨g3,g4.trans g2⟩
 · have hlt:l<m.length:=by
    rcases Nat.lt_or_ge l m.length with h1 | h1
    · exact h1
    · rw [hR.lay l h1]at hl;cases hl
   rw [(h.base l hlt).2];exact hl
 · exact h.frame b hb (fun ho=>hO (.inr ho))
 · rcases hO' with hX | ⟨l,blk,e,h1,h2,h3,rfl⟩
   · exact hO (.inl hX)
   · obtain⟨e',g1,g2,g3,g0⟩:=h.blk l blk h1
     rw [h2]at g1;obtain rfl:=Option.some.inj g1
     obtain⟨c,T,g4,g5,g6,g7⟩:=g0 h3
     rcases g6 with g6 | g6
     · have:w.heap.size<=e.b:=g6;omega
     · exact hO (.inr g6)
def forceN0 (n:Nat) (K:Nat->Prop):Prop:=bif Nat.beq n 0 then K 0 else bif Nat.beq n 1 then K 1 else bif Nat.beq n 2 then K 2 else bif Nat.beq n 3 then K 3 else bif Nat.beq n 4 then K 4 else bif Nat.beq n 5 then K 5 else bif Nat.beq n 6 then K 6 else bif Nat.beq n 7 then K 7 else K n
def forceN1 (n:Nat) (K:Nat->Prop):Prop:=bif Nat.beq n 8 then K 8 else bif Nat.beq n 9 then K 9 else bif Nat.beq n 10 then K 10 else bif Nat.beq n 11 then K 11 else bif Nat.beq n 12 then K 12 else bif Nat.beq n 13 then K 13 else bif Nat.beq n 14 then K 14 else bif Nat.beq n 15 then K 15 else K n
def forceN2 (n:Nat) (K:Nat->Prop):Prop:=bif Nat.beq n 16 then K 16 else bif Nat.beq n 17 then K 17 else bif Nat.beq n 18 then K 18 else bif Nat.beq n 19 then K 19 else bif Nat.beq n 20 then K 20 else bif Nat.beq n 21 then K 21 else bif Nat.beq n 22 then K 22 else bif Nat.beq n 23 then K 23 else K n
def forceN3 (n:Nat) (K:Nat->Prop):Prop:=bif Nat.beq n 24 then K 24 else bif Nat.beq n 25 then K 25 else bif Nat.beq n 26 then K 26 else bif Nat.beq n 27 then K 27 else bif Nat.beq n 28 then K 28 else bif Nat.beq n 29 then K 29 else bif Nat.beq n 30 then K 30 else bif Nat.beq n 31 then K 31 else K n
def kV (n:Nat) (K:Nat->Prop):Prop:=bif Nat.blt n 8 then forceN0 n K else bif Nat.blt n 16 then forceN1 n K else bif Nat.blt n 24 then forceN2 n K else bif Nat.blt n 32 then forceN3 n K else K n
theorem bif_beq {n m:Nat} {K:Nat->Prop} {q:Prop} (h:q=K n):(bif Nat.beq n m then K m else q)=K n:=by
 cases hb:Nat.beq n m with
 | true=>rw [Nat.eq_of_beq_eq_true hb];rfl
 | false=>rw [cond_false,h]
theorem bif_two {b:Bool} {p q r:Prop} (h1:p=r) (h2:q=r):(bif b then p else q)=r:=by cases b <;> simp [h1,h2]
theorem lW (n:Nat) (K:Nat->Prop):kV n K=K n:=by
 unfold kV forceN0 forceN1 forceN2 forceN3
 refine bif_two ?_ (bif_two ?_ (bif_two ?_ (bif_two ?_ rfl)))
 all_goals (repeat (refine bif_beq ?_));rfl
def force1 (v:AV) (K:AV->Prop):Prop:=
 match v with
 | .int k n=>K (.int k n)
 | .ptr l i j=>kV l fun l=>K (.ptr l i j)
 | .sl l o n c=>kV l fun l=>K (.sl l o n c)
 | v=>K v
theorem force1_eq (v:AV) (K:AV->Prop):force1 v K=K v:=by cases v <;> simp only [force1,lW]
def forceVs:List AV->(List AV->Prop)->Prop
 | [],K=>K []
 | v::vs,K=>force1 v fun v=>forceVs vs fun vs=>K (v::vs)
theorem forceVs_eq:∀ (vs:List AV) (K:List AV->Prop),forceVs vs K=K vs
 | [],K=>rfl
 | v::vs,K=>by simp only [forceVs,force1_eq,forceVs_eq vs]
def qR (v:AV) (K:AV->Prop):Prop:=
 match v with
 | .un=>K .un
 | .int k n=>K (.int k n)
 | .bool b=>K (.bool b)
 | .str s=>K (.str s)
 | .nilp=>K .nilp
 | .ptr l i j=>kV l fun l=>K (.ptr l i j)
 | .vptr m g j=>K (.vptr m g j)
 | .nils=>K .nils
 | .sl l o n c=>kV l fun l=>K (.sl l o n c)
 | .vsl e n c g=>K (.vsl e n c g)
 | .agg cs=>K (.agg cs)
 | .tup cs=>forceVs cs fun cs=>K (.tup cs)
 | .nili=>K .nili
 | .ifc t v=>K (.ifc t v)
 | .fn f c=>K (.fn f c)
theorem pD (v:AV) (K:AV->Prop):qR v K=K v:=by cases v <;> simp only [qR,lW,forceVs_eq]
def Env.setK:Nat->Env->Nat->AV->(Env->Prop)->Prop
 | 0,_,_,_,K=>K .nil
 | f+1,.nil,n,v,K=>bif n == 0 then K (.node .nil v .nil)else bif n % 2 == 1 then Env.setK f .nil (n / 2) v (fun l=>K (.node l .un .nil))else Env.setK f .nil (n / 2 - 1) v (fun r=>K (.node .nil .un r))
 | f+1,.node l u r,n,v,K=>bif n == 0 then K (.node l v r)else bif n % 2 == 1 then Env.setK f l (n / 2) v (fun l=>K (.node l u r))else Env.setK f r (n / 2 - 1) v (fun r=>K (.node l u r))
theorem Env.setK_eq:∀ (f:Nat) (e:Env) (n:Nat) (v:AV) (K:Env->Prop),Env.setK f e n v K=K (Env.setF f e n v)
  | 0,e,n,v,K=>rfl
  | f + 1, .nil, n, v, K => by
    unfold Env.setK Env.setF
    cases n == 0 <;> cases n % 2 == 1 <;> simp [Env.setK_eq f]
  | f + 1, .node l u r, n, v, K => by
    unfold Env.setK Env.setF
    cases n == 0 <;> cases n % 2 == 1 <;> simp [Env.setK_eq f]
def putE (e:Env) (d:Option Nat) (v:AV):Env:=match d with | none=>e | some d=>e.set d v
def putK (e:Env) (d:Option Nat) (v:AV) (K:Env->Prop):Prop:=match d with | none=>K e | some d=>qR v fun v=>Env.setK 12 e d v K
theorem iB (e:Env) (d:Option Nat) (v:AV) (K:Env->Prop):putK e d v K=K (putE e d v):=by
 cases d with
 | none=>rfl
 | some d=>simp only [putK,putE,pD,Env.setK_eq];rfl
def memK:Mem->(Mem->Prop)->Prop
 | [],K=>K []
 | b::m,K=>memK m fun m=>K (b::m)
theorem dL:∀ (m:Mem) (K:Mem->Prop),memK m K=K m
 | [],K=>rfl
 | b::m,K=>by simp only [memK];rw [dL m]
def setMK:Mem->Nat->Option Blk->(Mem->Prop)->Prop
 | [],_,_,K=>K []
 | b::m,0,c,K=>K (c::m)
 | b::m,l+1,c,K=>setMK m l c fun m=>K (b::m)
theorem setMK_eq:∀ (m:Mem) (l:Nat) (c:Option Blk) (K:Mem->Prop),setMK m l c K=K (m.set l c)
 | [],_,_,K=>rfl
 | b::m,0,c,K=>rfl
 | b::m,l+1,c,K=>by simp only [setMK];rw [setMK_eq m l c];rfl
def updK (m:Mem) (u:Option (Nat × Blk)) (K:Mem->Prop):Prop:=
 match u with
 | none=>K m
 | some (l,b)=>bif Nat.blt l m.length then setMK m l (some b) K else memK (m++ [some b]) K
theorem updK_eq (m:Mem) (u:Option (Nat × Blk)) (K:Mem->Prop):updK m u K=K (m.upd u):=by
 cases u with
 | none=>rfl
 | some p=>obtain ⟨l,b⟩:=p;simp only [updK,Mem.upd];cases Nat.blt l m.length <;> simp [setMK_eq,dL]
def tabK (es:Nat) (get:Nat->Nat->AV) (k:Nat):Nat->(List AV->Prop)->Prop:=
 Nat.rec (motive:=fun _=>Nat->(List AV->Prop)->Prop) (fun _ K=>K []) (fun _ ih c K=>qR (get (c / es) (c % es)) fun v=>ih (c+1) fun L=>K (v::L)) k
def tab (es:Nat) (get:Nat->Nat->AV) (k:Nat):Nat->List AV:=
 Nat.rec (motive:=fun _=>Nat->List AV) (fun _=> []) (fun _ ih c=>get (c / es) (c % es)::ih (c+1)) k
theorem tabK_eq (es:Nat) (get:Nat->Nat->AV):∀ (k c:Nat) (K:List AV->Prop),tabK es get k c K=K (tab es get k c)
  | 0,_,_=>rfl
  | k + 1, c, K => by
    show qR (get (c / es) (c % es)) (fun v=>tabK es get k (c+1) fun L=>K (v::L))=K (get (c / es) (c % es)::tab es get k (c+1))
    rw [pD,tabK_eq es get k]
theorem tab_get (es:Nat) (get:Nat->Nat->AV):∀ (k c i:Nat),i<k->(tab es get k c).getD i .un=get ((c+i) / es) ((c+i) % es)
  | 0,_,_,h=>absurd h (Nat.not_lt_zero _)
  | k+1,c,0,_=>by show (get (c / es) (c % es)::tab es get k (c+1)).getD 0 .un=_;simp
  | k + 1, c, i + 1, h => by
    show (get (c / es) (c % es)::tab es get k (c+1)).getD (i+1) .un=_
    rw [List.getD_cons_succ,tab_get es get k (c+1) i (by omega)]
    rw [show c+1+i=c+(i+1) by omega]
theorem tab_lst {es n:Nat} {get:Nat->Nat->AV} {i j:Nat} (hi:i<n) (hj:j<es):lstG es (tab es get (es*n) 0) i j=get i j:=by
 have h1:i*es+j<es*n:=by
  have:(i+1)*es<=n*es:=Nat.mul_le_mul_right es hi
  rw [Nat.add_mul,Nat.one_mul]at this
  rw [Nat.mul_comm es n];omega
 unfold lstG
 rw [tab_get es get _ 0 _ h1,Nat.zero_add,Nat.mul_comm i es,Nat.mul_add_div (by omega),Nat.mul_add_mod,Nat.mod_eq_of_lt hj,Nat.div_eq_of_lt hj,Nat.add_zero]
theorem MRel.reget {C:Ctx} {m:Mem} {w:World} {L:Lay} (hR:MRel C m w L) {l:Nat} {blk blk':Blk} (hl:m[l]? = some (some blk)) (h1:blk'.es=blk.es) (h2:blk'.n=blk.n) (h3:∀ i j,i<blk.n->j<blk.es->blk'.get i j=blk.get i j):
 MRel C (m.set l (some blk')) w L/\OO C (m.set l (some blk')) L=OO C m L:=by
 have hlt:=bL hl
 have hget:∀ q,(m.set l (some blk'))[q]? = if q=l then some (some blk')else m[q]? :=fun q=>by
  by_cases h:q=l
  · subst h;rw [if_pos rfl,List.getElem?_set_self hlt]
  · rw [if_neg h,List.getElem?_set_ne (Ne.symm h)]
 have hold:∀ {q:Nat} {b:Blk},(m.set l (some blk'))[q]? = some (some b)->∃ b0,m[q]? = some (some b0)/\b.es=b0.es/\b.n=b0.n/\∀ i j,i<b0.n->j<b0.es->b.get i j=b0.get i j:=by
  intro q b hq
  rw [hget]at hq
  by_cases h:q=l
  · subst h
    rw [if_pos rfl]at hq
    obtain rfl:=Option.some.inj (Option.some.inj hq)
    exact⟨blk,hl,h1,h2,h3⟩
  · rw [if_neg h]at hq
    exact⟨b,hq,rfl,rfl,fun _ _ _ _=>rfl⟩
 have hown:own (m.set l (some blk')) L=own m L:=by
  funext b
  apply propext
  constructor
  · rintro⟨q,b',e,g1,g2,g3,g4⟩
    obtain⟨b0,k1,_⟩:=hold g1
    exact⟨q,b0,e,k1,g2,g3,g4⟩
  · rintro⟨q,b',e,g1,g2,g3,g4⟩
    by_cases h:q=l
    · subst h;exact⟨q,blk',e,by rw [hget,if_pos rfl],g2,g3,g4⟩
    · exact⟨q,b',e,by rw [hget,if_neg h];exact g1,g2,g3,g4⟩
 have hOO:OO C (m.set l (some blk')) L=OO C m L:=by unfold OO;rw [hown]
 refine⟨⟨hR.os,hR.tape,hR.output,hR.size,hR.frame,fun q hq=>hR.lay q (by simpa using hq),fun q b hq=> ?_,fun q q' b b' e e' g1 g2 g3 g4 t1 t2 g5=> ?_,fun q hq=>⟨by simpa using (hR.base q hq).1,(hR.base q hq).2⟩,hR.xlt,by rw [hown];exact hR.notX⟩,hOO⟩
 · obtain⟨b0,k1,k2,k3,k4⟩:=hold hq
   obtain⟨e,g1,g2,g3,g0⟩:=hR.blk q b0 k1
   refine⟨e,g1,by rw [g2,k2],by rw [k3];exact g3,fun ht=> ?_⟩
   obtain⟨c,T,g4,g5,g6,g7⟩:=g0 ht
   refine⟨c,T,g4,g5,g6,fun i j hi hj=> ?_⟩
   rw [k3]at hi
   rw [k2]at hj ⊢
   rw [hOO,k4 i j hi hj]
   exact g7 i j hi hj
 · obtain⟨b0,k1,_⟩:=hold g1
   obtain⟨b1,k2,_⟩:=hold g2
   exact hR.inj q q' b0 b1 e e' k1 k2 g3 g4 t1 t2 g5
def forceI (n:Int) (K:Int->Prop):Prop:=bif n == 0 then K 0 else bif n == 1 then K 1 else bif n == 2 then K 2 else bif n == 3 then K 3 else bif n == 4 then K 4 else bif n == 5 then K 5 else bif n == 6 then K 6 else bif n == 7 then K 7 else bif n == -1 then K (-1)else K n
theorem bif_beqI {n m:Int} {K:Int->Prop} {q:Prop} (h:q=K n):(bif n == m then K m else q)=K n:=by
 cases hb:n == m with
 | true=>rw [beq_iff_eq.1 hb];rfl
 | false=>rw [cond_false,h]
theorem forceI_eq (n:Int) (K:Int->Prop):forceI n K=K n:=by
 unfold forceI
 repeat (refine bif_beqI ?_)
 rfl
def rV (P:Program) (o:AOp) (e:Env) (m:Mem) (K:AV->Mem->Prop):Prop:=
  match o with
  | .call f args => match f.ev e with
    | .fn n caps=>ACall P n (args.map (·.ev e)++caps) m K
    | _=>False
  | .app es bytes x y=>vcApp es bytes m (x.ev e) (y.ev e) K
  | .sbytes x=>vcSbytes m (x.ev e) K
  | .bstr x=>vcBstr m (x.ev e) K
  | .frz x=>vcFrz m (x.ev e) K
  | .binF op x y => match binV op (x.ev e) (y.ev e) with
    | some ⟨ok,.int k n,none⟩=>cH ok (forceI n fun n=>K (.int k n) m) False
    | _=>False
  | .x64 sub f x y c => match x.ev e, y.ev e, c.ev e with
    | .int .u64 a, .int .u64 b, .int .u64 d => (0 ≤ a ∧ a ≤ 18446744073709551615 ∧ 0 ≤ b ∧ b ≤ 18446744073709551615 ∧ 0 ≤ d ∧ d ≤ 1) ∧
      (bif sub then (∀ s q:Nat,a+18446744073709551616*q=b+d+s->s<18446744073709551616->q<=1->K (.tup [.int .u64 s,.int .u64 q]) m)
       else (∀ s q:Nat,a+b+d=s+18446744073709551616*q->s<18446744073709551616->q<=1->K (.tup [.int .u64 s,.int .u64 q]) m))
    | _,_,_=>False
  | .stA es n sz a v => match a.ev e with
    | .ptr l i j => match m[l]? with
      | some (some blk)=>bif dG (v.ev e) sz then cH (dS blk i j sz && (Nat.beq blk.es es && Nat.beq blk.n n)) (tabK es (updD blk i j sz (cellsOf (v.ev e))) (es*n) 0 fun L=>setMK m l (some ⟨es,n,lstG es L⟩) (K .un)) False else False
      | _=>False
    | _=>False
  | .eqnS neg x => match x.ev e with
    | .nils=>K (.bool (!neg)) m
    | .sl _ _ n cap=>cH (Nat.blt 0 cap) (K (.bool neg) m) (n=0->K (.bool neg) m/\K (.bool (!neg)) m)
    | .vsl _ n cap _=>cH (Nat.blt 0 cap) (K (.bool neg) m) (n=0->K (.bool neg) m/\K (.bool (!neg)) m)
    | _=>False
  | o => match evD o e m with
    | some ⟨ok,v,u⟩=>cH ok (updK m u fun m=>K v m) False
    | none=>False
def vcOp (P:Program) (o:AOpr) (e:Env) (m:Mem) (K:Env->Mem->Prop):Prop:=
  match o.guard with
  | none=>rV P o.op e m fun v m=>putK e o.dst v fun e=>K e m
  | some (t, want) => match e.get t with
    | .bool b=>cH (b == want) (Env.setK 12 e t (.bool want) fun e=>rV P o.op e m fun v m=>putK e o.dst v fun e=>K e m) (Env.setK 12 e t (.bool (!want)) fun e=>putK e o.dst (.tup []) fun e=>K e m)
    | .tup [] =>putK e o.dst (.tup []) fun e=>K e m
    | _=>False
noncomputable def vcOps (P:Program) (l:List AOpr):Env->Mem->(Env->Mem->Prop)->Prop:=
 List.rec (motive:=fun _=>Env->Mem->(Env->Mem->Prop)->Prop) (fun e m K=>K e m) (fun o _ ih e m K=>vcOp P o e m fun e m=>ih e m K) l
def dstOk (n:Nat):Option Nat->Option Nat->Bool
 | none,none=>true
 | some d,some d'=>d == d' && Nat.blt d n
 | _,_=>false
def guardOk (ops:Array Oper):Option (Nat × Bool)->Option (Nat × Bool)->Bool
 | none,none=>true
 | some (j,b),some (t,b')=>b == b' && (match ops[j]? with | some o=>(match o.dst with | some d=>d == t | none=>false) | none=>false)
 | _,_=>false
def kW (P:Program) (n:Nat) (ops:Array Oper) (o:Oper) (ao:AOpr):Bool:=dstOk n o.dst ao.dst && (guardOk ops o.guard ao.guard && cU P o.op ao.op)
def chkOps (P:Program) (n:Nat) (ops:Array Oper):List Oper->List AOpr->Bool
 | [],[] =>true
 | o::os,ao::aos=>kW P n ops o ao && chkOps P n ops os aos
 | _,_=>false
structure Rel (C:Ctx) (n:Nat) (e:Env) (m:Mem) (a:Act) (w:World) (L:Lay):Prop where
 size:a.tmps.size=n
 defers:a.defers= []
 mem:MRel C m w L
 env:ERel C e m a w L
section
variable {P:Program} {C:Ctx} {m:Mem} {w:World} {L:Lay} {e:Env} {a:Act} {o:Oper} {n:Nat}
theorem kI {b:Bool} {p q:Prop} (h:cH b p q):(b=true/\p)\/(b=false/\q):=by cases b <;> simp [cH]at h <;> simp [h]
theorem ERel.ext {m':Mem} {w':World} {L':Lay} (hE:ERel C e m a w L) (x:Ext w.heap L (OO C m L) w'.heap L' (OO C m' L')):ERel C e m' a w' L':=fun t=>(hE t).ext x
theorem ERel.put {d:Option Nat} {v:AV} {r:Value} (hE:ERel C e m a w L) (hn:a.tmps.size=n) (hd:∀ d',d=some d'->d'<n) (hv:VR w.heap L (OO C m L) v r):ERel C (putE e d v) m (a.put d r) w L:=by
  intro t
  cases d with
  | none=>exact hE t
  | some d =>
    have hlt:=hd d rfl
    rcases Env.set_upd e d v t with h | ⟨h1,h2⟩ | ⟨h1,h2⟩
    · rw [show (putE e (some d) v).get t= .un from h];exact .un _
    · rw [show (putE e (some d) v).get t=e.get t from h2]
      have:(a.put (some d) r).tmps.getD t undef=a.tmps.getD t undef:=by
        simp only [Act.put,Array.getD_eq_getD_getElem?,Array.getElem?_setIfInBounds]
        rw [if_neg (fun h=>h1 h.symm)]
      rw [this];exact hE t
    · rw [show (putE e (some d) v).get t=v from h2]
      subst h1
      have:(a.put (some t) r).tmps.getD t undef=r:=by
        simp only [Act.put,Array.getD_eq_getD_getElem?,Array.getElem?_setIfInBounds]
        simp [show t<a.tmps.size by omega]
      rw [this];exact hv
theorem kT (a:Act) (d:Option Nat) (r:Value):(a.put d r).tmps.size=a.tmps.size:=by cases d <;> simp [Act.put]
theorem put_defers (a:Act) (d:Option Nat) (r:Value):(a.put d r).defers=a.defers:=by cases d <;> rfl
theorem chk_call {op:Op} {f:Opn} {args:List Opn} (h:cU P op (.call f args)=true):∃ g cargs tys,op= .call {callee:= .value g,args:=cargs,argTypes:=tys} /\ aL g f=true/\wM cargs.toList args=true:=by
 cases op <;> (try (simp [cU]at h;done))
 rename_i c
 obtain⟨callee,cargs,tys⟩:=c
 simp only [cU]at h
 split at h
 · simp only [Bool.and_eq_true]at h
   exact⟨_,cargs,tys,rfl,h.1,h.2⟩
 · cases h
theorem chk_app {op:Op} {es bytes:Nat} {x' y':Opn} (h:cU P op (.app es bytes x' y')=true):∃ x y t u,op= .call {callee:= .builtin .append,args:= #[x,y],argTypes:= #[t,u]} /\ appB P t es bytes=true/\undB P u dNotInt=true/\aL x x'=true/\aL y y'=true:=by
 cases op <;> (try (simp [cU]at h;done))
 rename_i c
 simp only [cU]at h
 split at h
 · rename_i x y t u hcb
   simp only [Bool.and_eq_true]at h
   exact⟨x,y,t,u,by rw [jZ hcb],h.1,h.2.1,h.2.2.1,h.2.2.2⟩
 · cases h
theorem chk_sbytes {op:Op} {x':Opn} (h:cU P op (.sbytes x')=true):∃ s t x,op= .convert s t x/\undB P t (dSl fun e=>undB P e (dInt .u8))=true/\undB P s dStr=true/\aL x x'=true:=by
 cases op <;> (try (simp [cU]at h;done))
 simp only [cU,Bool.and_eq_true]at h
 exact⟨_,_,_,rfl,h.1,h.2.1,h.2.2⟩
theorem chk_bstr {op:Op} {x':Opn} (h:cU P op (.bstr x')=true):∃ s t x,op= .convert s t x/\undB P s (dSl fun e=>undB P e (dInt .u8))=true/\undB P t dStr=true/\aL x x'=true:=by
 cases op <;> (try (simp [cU]at h;done))
 simp only [cU,Bool.and_eq_true]at h
 exact⟨_,_,_,rfl,h.1,h.2.1,h.2.2⟩
theorem chk_frz {op:Op} {x':Opn} (h:cU P op (.frz x')=true):∃ s x,op= .convert s s x/\undB P s (dSl fun e=>undB P e (dInt .u8))=true/\aL x x'=true:=by
 cases op <;> (try (simp [cU]at h;done))
 simp only [cU,Bool.and_eq_true,beq_iff_eq]at h
 obtain⟨rfl,h1,h2⟩:=h
 exact⟨_,_,rfl,h1,h2⟩
theorem run_sound (hR:MRel C m w L) (hE:ERel C e m a w L) {ao:AOp} (hc:cU P o.op ao=true) {K:AV->Mem->Prop} (hvc:rV P ao e m K) {next:Act->World->Prop} {Q:Exit->Act->World->Prop}
    (hnext:∀ v m' r w' L',K v m'->MRel C m' w' L'->ERel C e m' a w' L'->VR w'.heap L' (OO C m' L') v r->next (a.put o.dst r) w'):o.wp P a w next Q:=by
  have hgood:∀ {K':AV->Mem->Prop},(∀ v m',K' v m'->K v m')->GoodK P C m w L o a K'->o.wp P a w next Q:=by
    rintro K' hK ⟨v,m',r,w',L',hrun,hk,h1,h2,h3⟩
    unfold Oper.wp
    rcases hrun with hrun | ⟨hrun,rfl⟩
    · rw [hrun];exact hnext v m' r w' L' (hK _ _ hk) h1 (hE.ext h2) h3
    · rw [hrun];exact hnext v m' undef w' L' (hK _ _ hk) h1 (hE.ext h2) h3
  have hdet:(match evD ao e m with | some ⟨ok,v,u⟩=>cH ok (updK m u fun m=>K v m) False | none=>False)->o.wp P a w next Q:=by
    intro h
    split at h
    · rename_i ok v u hev
      obtain⟨hok,hk⟩:=cC h
      rw [updK_eq]at hk
      obtain⟨r,w',L',hrun,h1,h2,h3,_⟩:=gP hR hE hc hev hok
      exact hgood (K':=fun v' m'=>v'=v/\m'=m.upd u) (by rintro _ _ ⟨rfl,rfl⟩;exact hk) ⟨v,m.upd u,r,w',L',hrun,⟨rfl,rfl⟩,h1,h2,h3⟩
    · exact h.elim
  cases ao with
  | binF op x y =>
    simp only [rV]at hvc
    split at hvc
    case h_2=>exact hvc.elim
    rename_i ok k n hb
    obtain⟨hok,hk⟩:=cC hvc
    rw [forceI_eq]at hk
    refine hdet ?_
    simp only [evD,hb,hok,cH,updK]
    exact hk
  | x64 sub f x y c =>
    simp only [rV]at hvc
    split at hvc
    case h_2=>exact hvc.elim
    rename_i a' b' d' h1 h2 h3
    obtain⟨hr,hvc⟩:=hvc
    refine hdet ?_
    simp only [evD,h1,h2,h3,x64V,bR,decide_eq_true hr,cH,updK]
    cases sub
    · have:=hvc ((a'+b'+d') % 18446744073709551616).toNat ((a'+b'+d') / 18446744073709551616).toNat (by omega) (by omega) (by omega)
      rw [Int.toNat_of_nonneg (by omega),Int.toNat_of_nonneg (by omega)]at this
      exact this
    · have:=hvc ((a' - b' - d') % 18446744073709551616).toNat ((b'+d' - a'+18446744073709551615) / 18446744073709551616).toNat (by omega) (by omega) (by omega)
      rw [Int.toNat_of_nonneg (by omega),Int.toNat_of_nonneg (by omega)]at this
      exact this
  | stA es n sz x v =>
    simp only [rV]at hvc
    split at hvc
    case h_2=>exact hvc.elim
    rename_i l i j hx
    split at hvc
    case h_2=>exact hvc.elim
    rename_i blk hm
    cases hcs:dG (v.ev e) sz with
    | false=>rw [hcs]at hvc;exact hvc.elim
    | true =>
      rw [hcs]at hvc
      simp only [cond_true]at hvc
      obtain⟨hok,hk⟩:=cC hvc
      rw [tabK_eq,setMK_eq,updD_eq]at hk
      simp only [Bool.and_eq_true]at hok
      obtain⟨hok1,hok2,hok3⟩:=hok
      obtain rfl:=Nat.eq_of_beq_eq_true hok2
      obtain rfl:=Nat.eq_of_beq_eq_true hok3
      have hc':cU P o.op (.store sz x v)=true:=by
        generalize o.op=q at hc
        cases q <;> (try (simp [cU]at hc;done))
        exact hc
      have hlt:=bL hm
      obtain⟨r,w',L',hrun,g1,g2,g3,_⟩:=gP (out:=⟨true,.un,some (l,⟨blk.es,blk.n,updG blk i j sz (cellsOf (v.ev e))⟩)⟩) hR hE hc' (by
        simp only [evD,storeV,hx,hm,hcs,cond_true,hok1]) rfl
      have hupd:m.upd (some (l,⟨blk.es,blk.n,updG blk i j sz (cellsOf (v.ev e))⟩))=m.set l (some ⟨blk.es,blk.n,updG blk i j sz (cellsOf (v.ev e))⟩):=by
        simp only [Mem.upd,show Nat.blt l m.length=true from Nat.blt_eq.mpr hlt,cond_true]
      simp only [hupd]at g1 g2 g3
      obtain⟨k1,k2⟩:=g1.reget (l:=l) (blk:=⟨blk.es,blk.n,updG blk i j sz (cellsOf (v.ev e))⟩) (blk':=⟨blk.es,blk.n,lstG blk.es (tab blk.es (updG blk i j sz (cellsOf (v.ev e))) (blk.es*blk.n) 0)⟩) (by rw [List.getElem?_set_self hlt]) rfl rfl (fun i' j' hi hj=>tab_lst hi hj)
      rw [List.set_set]at k1 k2
      refine hgood (K':=K) (fun _ _ h=>h) ⟨.un,_,r,w',L',hrun,hk,k1,?_,.un _⟩
      rw [k2];exact g2
  | call f args =>
    obtain⟨g,cargs,tys,hop,hg,hargs⟩:=chk_call hc
    have hf:=aM hE hg
    simp only [rV]at hvc
    split at hvc
    case h_2=>exact hvc.elim
    rename_i fn caps hfe
    rw [hfe]at hf
    generalize hgv:a.eval g=gv at hf
    cases hf with
    | fn _ _ cc hcaps =>
      obtain⟨⟨F,hF,hF1,hF2⟩,hcall⟩:=hvc
      have hav:VRs w.heap L (OO C m L) (args.map (·.ev e)++caps) ((cargs.map a.eval)++cc).toList:=by
        rw [Array.toList_append]
        refine VRs.append ?_ hcaps
        obtain⟨l1,l2⟩:=qZ _ _ hargs
        refine VRs.of_get (by simpa using l1) (fun k d hd=> ?_)
        simp only [Array.toList_map,List.getElem?_map,Array.getElem?_toList,Option.map_eq_some_iff]at hd
        obtain⟨x,hx,rfl⟩:=hd
        have hk:k<args.length:=by
          rw [<- l1]
          have:=(Array.getElem?_eq_some_iff.1 hx).1
          simpa using this
        have h2:args[k]? = some args[k] :=List.getElem?_eq_getElem hk
        simp only [List.getD,List.getElem?_map,h2,Option.map_some,Option.getD_some]
        exact aM hE (l2 k x _ (by simpa using hx) h2)
      have hrun:(execOp a.eval o).run P w= .ok (.enter fn ((cargs.map a.eval)++cc)) w:=by
        have h1:F.body.isNone=false:=hF2
        have h2 : ¬ (F.name == "runtime.NumGoroutine") = true := by rw [hF1]; simp
        simp only [execOp,hop,resolve,hgv,Deferred.ofValue,Sem.run_bind,Sem.run_pure,Result.andThen_ok,invoke,callFunc,run_program,hF]
        rw [if_neg h2]
        simp [h1]
      have:=hcall C w L _ hR hav
      unfold Oper.wp
      rw [hrun]
      show Calls P fn _ w _
      refine this.mono ?_
      rintro en w' ⟨v,m',r,L',rfl,hk,h1,h2,h3⟩
      exact hnext v m' r w' L' hk h1 (hE.ext h3) h2
  | app es bytes x' y' =>
    obtain⟨x,y,t,u,hop,h1,h2,h3,h4⟩:=chk_app hc
    obtain⟨d,hd,hd'⟩:=bA h2
    unfold appB at h1
    split at h1
    · rename_i el hu
      split at h1
      · rename_i i hi
        split at h1
        · rename_i z hz
          simp only [Bool.and_eq_true,beq_iff_eq,decide_eq_true_eq]at h1
          exact hgood (fun _ _ h=>h) (app_sound hR hE hop hu hd (by rintro k rfl;simp [dNotInt]at hd') hi hz h1.1 h1.2.1 h1.2.2.1 h1.2.2.2 h3 h4 hvc)
        · cases h1
      · cases h1
    · cases h1
  | sbytes x' =>
    obtain⟨s,t,x,hop,h1,h2,h3⟩:=chk_sbytes hc
    obtain⟨d,hd,hd'⟩:=bA h1
    cases d <;> simp only [dSl,Bool.false_eq_true]at hd'
    obtain⟨d2,hd2,hd2'⟩:=bA hd'
    cases d2 <;> simp only [dInt,Bool.false_eq_true]at hd2'
    have:=cX hd2';subst this
    obtain⟨d3,hd3,hd3'⟩:=bA h2
    cases d3 <;> simp only [dStr,Bool.false_eq_true]at hd3'
    exact hgood (fun _ _ h=>h) (sbytes_sound hR hE hop hd3 hd hd2 h3 hvc)
  | bstr x' =>
    obtain⟨s,t,x,hop,h1,h2,h3⟩:=chk_bstr hc
    obtain⟨d,hd,hd'⟩:=bA h1
    cases d <;> simp only [dSl,Bool.false_eq_true]at hd'
    obtain⟨d2,hd2,hd2'⟩:=bA hd'
    cases d2 <;> simp only [dInt,Bool.false_eq_true]at hd2'
    have:=cX hd2';subst this
    obtain⟨d3,hd3,hd3'⟩:=bA h2
    cases d3 <;> simp only [dStr,Bool.false_eq_true]at hd3'
    exact hgood (fun _ _ h=>h) (bstr_sound hR hE hop hd hd2 hd3 h3 hvc)
  | frz x' =>
    obtain⟨s,x,hop,h1,h3⟩:=chk_frz hc
    obtain⟨d,hd,hd'⟩:=bA h1
    cases d <;> simp only [dSl,Bool.false_eq_true]at hd'
    obtain⟨d2,hd2,hd2'⟩:=bA hd'
    cases d2 <;> simp only [dInt,Bool.false_eq_true]at hd2'
    have:=cX hd2';subst this
    exact hgood (fun _ _ h=>h) (frz_sound hR hE hop hd hd2 h3 hvc)
  | eqnS neg x' =>
    simp only [rV]at hvc
    by_cases hz:(match x'.ev e with | .nils=>True | .sl _ _ _ cap=>0<cap | .vsl _ _ cap _=>0<cap | _=>False)
    · refine hdet ?_
      simp only [evD]
      cases hxe:x'.ev e <;> rw [hxe]at hvc hz <;> (try exact hz.elim) <;> simp only at hvc hz
      · exact hvc
      · rw [jV hz]at hvc;simp only [cH]at hvc
        simp only [bR,hz,decide_true,cH,updK];exact hvc
      · rw [jV hz]at hvc;simp only [cH]at hvc
        simp only [bR,hz,decide_true,cH,updK];exact hvc
    · obtain⟨op,t,x,y,t',hop,hcc⟩ :∃ op t x y t',o.op= .binOp op t x y t'/\(bopB op neg && (undB P t (dSl fun _=>true) && (uK 0 x y x').isSome))=true:=by
        generalize o.op=q at hc
        cases q <;> (try (simp [cU]at hc;done))
        exact⟨_,_,_,_,_,rfl,hc⟩
      simp only [Bool.and_eq_true]at hcc
      obtain⟨h0,h1,h2⟩:=hcc
      have:=mB h0;subst this
      obtain⟨d,hd,hd'⟩:=bA h1
      obtain⟨sw,u,v,g1,g2,rfl,rfl⟩:=kU h2
      cases d <;> simp only [dSl,Bool.false_eq_true]at hd'
      have hv:v= .const (.slice none 0 0):=by
        unfold sG at g2;split at g2 <;> first | rfl | simp at g2
      have hx:=aM hE g1
      have hboth:K (.bool neg) m/\K (.bool (!neg)) m:=by
        generalize a.eval u=r at hx
        generalize x'.ev e=X at hx hvc hz
        cases hx <;> simp only at hvc hz <;> (try exact hvc.elim)
        · exact absurd trivial hz
        · rw [dT hz]at hvc;exact hvc trivial
        · rw [dT hz]at hvc;exact hvc trivial
        · rename_i h1 h2
          rw [dT hz]at hvc;exact hvc (by omega)
        · rw [dT hz]at hvc;exact hvc trivial
        · rename_i h1 h2 h3
          rw [dT hz]at hvc;exact hvc (by omega)
      have he:=fun ad l c=>eql_nil (P:=P) w hd (r:= .slice ad l c) (n:= .slice none 0 0) (b:=ad.isNone) (.inl ⟨_,rfl,rfl,_,_,_,rfl,rfl⟩)
      have hsl:∃ ad l c,a.eval u= .slice ad l c:=by
        generalize a.eval u=r at hx
        generalize x'.ev e=X at hx hvc
        cases hx <;> (try exact hvc.elim) <;> exact⟨_,_,_,rfl⟩
      obtain⟨ad,l,c,hra⟩:=hsl
      have hh:=sJ (P:=P) w hop hv hra (he _ _ _) (.inl ⟨rfl,_,_,_,rfl⟩)
      refine hgood (K':=K) (fun _ _ h=>h) ⟨.bool (bif neg then !ad.isNone else ad.isNone),m,_,w,L,.inl hh,?_,hR,Ext.refl _ _ _,.bool _⟩
      cases neg <;> cases ad.isNone <;> first | exact hboth.1 | exact hboth.2
  | _=>exact hdet hvc
theorem ERel.refine {t:Nat} {v:AV} (hE:ERel C e m a w L) (hv:VR w.heap L (OO C m L) v (a.tmps.getD t undef)):ERel C (e.set t v) m a w L:=by
 intro s
 rcases Env.set_upd e t v s with h | ⟨h1,h2⟩ | ⟨h1,h2⟩
 · rw [h];exact .un _
 · rw [h2];exact hE s
 · rw [h2,h1];exact hv
theorem qB {t:Nat} {b:Bool} (hE:ERel C e m a w L) (h:e.get t= .bool b):a.tmps[t]? = some (.bool b):=by
 have:=hE t
 rw [h]at this
 generalize hv:a.tmps.getD t undef=v at this
 cases this
 rw [Array.getD_eq_getD_getElem?]at hv
 cases hq:a.tmps[t]? with
 | none=>rw [hq]at hv;simp [undef]at hv
 | some q=>rw [hq]at hv;simp at hv;rw [hv]
theorem undef_of {t:Nat} (hE:ERel C e m a w L) (h:e.get t= .tup []):a.tmps.getD t undef=undef:=by
  have h1:=hE t
  rw [h]at h1
  generalize a.tmps.getD t undef=v at h1
  cases h1 with
  | tup cs c hs =>
    have:c.toList= [] :=by cases hc:c.toList with
      | nil=>rfl
      | cons x l=>rw [hc]at hs;cases hs
    rw [Array.toList_eq_nil_iff.1 this]
    rfl
theorem mN {ops:Array Oper} {tmps:Array Value} {j d:Nat} {oj:Oper} (hoj:ops[j]? = some oj) (hd:oj.dst=some d) (h:tmps.getD d undef=undef):yielded ops tmps j=none:=by
  simp only [yielded,hoj,hd,Option.bind_some]
  cases hq:tmps[d]? with
  | none=>rfl
  | some v =>
    have:v=undef:=by rw [Array.getD_eq_getD_getElem?,hq]at h;exact h
    subst this;rfl
theorem kR {h:Array Obj} {L:Lay} {O:Nat->Prop}:VR h L O (.tup []) undef:= .tup _ _ .nil
theorem kD {d:Option Nat} {v:AV} {s:Nat} {e:Env} (h:e.get s= .un) (hne:d ≠ some s):(putE e d v).get s= .un:=by
  cases d with
  | none=>exact h
  | some d =>
    rcases Env.set_upd e d v s with h1 | ⟨h1,h2⟩ | ⟨h1,h2⟩
    · exact h1
    · exact h2.trans h
    · exact absurd (by rw [h1]) hne
theorem set_un {t s:Nat} {b b':Bool} {e:Env} (hb:e.get t= .bool b) (h:e.get s= .un):(e.set t (.bool b')).get s= .un:=by
 rcases Env.set_upd e t (.bool b') s with h1 | ⟨h1,h2⟩ | ⟨h1,h2⟩
 · exact h1
 · exact h2.trans h
 · subst h1;rw [hb]at h;cases h
theorem op_sound (hrel:Rel C n e m a w L) {ops:Array Oper} {ao:AOpr} (hc:kW P n ops o ao=true) {K:Env->Mem->Prop} (hvc:vcOp P ao e m K) {next:Act->World->Prop} {Q:Exit->Act->World->Prop}
 (hnext:∀ e' m' r w' L',K e' m'->Rel C n e' m' (a.put o.dst r) w' L'->(∀ d,e.get d= .un->ao.dst ≠ some d->e'.get d= .un)->next (a.put o.dst r) w'):
 if Region.wanted o (yielded ops a.tmps)then o.wp P a w next Q else next (a.put o.dst undef) w:=by
 obtain⟨hn,hdf,hR,hE⟩:=hrel
 simp only [kW,Bool.and_eq_true]at hc
 obtain⟨hd,hg,hop⟩:=hc
 have hdst:o.dst=ao.dst/\∀ d',ao.dst=some d'->d'<n:=by
  unfold dstOk at hd
  split at hd
  · rename_i h1 h2;rw [h1,h2];exact⟨rfl,fun _ h=>by cases h⟩
  · rename_i d d' h1 h2
    simp only [Bool.and_eq_true,beq_iff_eq,Nat.blt_eq]at hd
    obtain⟨rfl,hlt⟩:=hd
    rw [h1,h2]
    exact⟨rfl,fun _ h=>by cases h;exact hlt⟩
  · cases hd
 obtain⟨hde,hdlt⟩:=hdst
 have hrun:∀ {e1:Env},(∀ d,e.get d= .un->e1.get d= .un)->ERel C e1 m a w L->rV P ao.op e1 m (fun v m=>putK e1 ao.dst v fun e=>K e m)->o.wp P a w next Q:=by
  intro e1 hun hE h
  refine run_sound hR hE hop h (fun v m' r w' L' hk h1 h2 h3=> ?_)
  rw [iB]at hk
  rw [hde]
  rw [<- hde]
  exact hnext _ m' _ w' L' hk ⟨by rw [kT];exact hn,by rw [put_defers];exact hdf,h1,by rw [hde];exact h2.put hn hdlt h3⟩ (fun d hd hne=>kD (hun d hd) hne)
 unfold vcOp at hvc
 unfold guardOk at hg
 split at hg
 · rename_i h1 h2
   rw [h2]at hvc
   simp only at hvc
   rw [if_pos (by simp [Region.wanted,h1])]
   exact hrun (fun _ h=>h) hE hvc
 · rename_i j b t b' h1 h2
   rw [h2]at hvc
   simp only at hvc
   simp only [Bool.and_eq_true,beq_iff_eq]at hg
   obtain⟨rfl,hg⟩:=hg
   split at hg
   · rename_i oj hoj
     split at hg
     · rename_i d hd
       have:d=t:=by simpa using hg
       subst this
       split at hvc
       · rename_i bb hbb
         have hy:yielded ops a.tmps j=some bb:=by
          simp [yielded,hoj,hd,qB hE hbb]
         have hw:Region.wanted o (yielded ops a.tmps)=(bb == b):=by
          simp only [Region.wanted,h1,hy]
          cases bb <;> cases b <;> rfl
         have hval:a.tmps.getD d undef= .bool bb:=by rw [Array.getD_eq_getD_getElem?,qB hE hbb];rfl
         rcases kI hvc with⟨hb,hv⟩ | ⟨hb,hv⟩
         · rw [if_pos (by rw [hw];exact hb)]
           rw [Env.setK_eq]at hv
           refine hrun (fun s hs=>set_un hbb hs) (hE.refine ?_) hv
           rw [hval,beq_iff_eq.1 hb];exact .bool _
         · rw [if_neg (by rw [hw,hb];simp)]
           rw [Env.setK_eq,iB]at hv
           have hE':ERel C (e.set d (.bool (!b))) m a w L:=hE.refine (by
            rw [hval]
            have:bb= !b:=by cases bb <;> cases b <;> simp at hb ⊢
            rw [this];exact .bool _)
           exact hnext _ m _ w L hv ⟨by rw [kT];exact hn,by rw [put_defers];exact hdf,hR,by rw [hde];exact hE'.put hn hdlt kR⟩ (fun s hs hne=>kD (set_un hbb hs) hne)
       · rename_i hbb
         have hw:Region.wanted o (yielded ops a.tmps)=false:=by
          simp only [Region.wanted,h1,mN hoj hd (undef_of hE hbb)]
          rfl
         rw [if_neg (by rw [hw];simp)]
         rw [iB]at hvc
         exact hnext _ m _ w L hvc ⟨by rw [kT];exact hn,by rw [put_defers];exact hdf,hR,by rw [hde];exact hE.put hn hdlt kR⟩ (fun s hs hne=>kD hs hne)
       · exact hvc.elim
     · cases hg
   · cases hg
 · cases hg
theorem ops_sound {ops:Array Oper} {Q:Exit->Act->World->Prop}:∀ (l:List Oper) (al:List AOpr) {e:Env} {m:Mem} {a:Act} {w:World} {L:Lay} {K:Env->Mem->Prop},chkOps P n ops l al=true->Rel C n e m a w L->vcOps P al e m K->
    (∀ e' m' a' w' L',K e' m'->Rel C n e' m' a' w' L'->Q .normal a' w')->wpList P ops Q l a w
  | [],[],e,m,a,w,L,K,_,hrel,hvc,hK=>hK _ _ _ _ _ hvc hrel
  | [],_::_,_,_,_,_,_,_,hc,_,_,_=>by simp [chkOps]at hc
  | _::_,[],_,_,_,_,_,_,hc,_,_,_=>by simp [chkOps]at hc
  | o :: l, ao :: al, e, m, a, w, L, K, hc, hrel, hvc, hK => by
    simp only [chkOps,Bool.and_eq_true]at hc
    refine wpList_step (fun K' hK'=> ?_)
    exact op_sound hrel hc.1 hvc (fun e' m' r w' L' hk hr _=>hK' _ _ (ops_sound l al hc.2 hr hk hK))
end
end Go.Wit
end

section
namespace Go.Wit
inductive DPlan where
 | flat
 | done
 | look (i:Nat) (p:DPlan)
 | run (i:Nat) (kp:Bool) (p:DPlan)
 | pre (f s:Nat) (p:DPlan)
 | fill (p:DPlan)
 | two (kp:Bool) (i:Nat) (p:DPlan) (j:Nat) (q:DPlan)
 deriving Inhabited
inductive Keep | no | all | shp | but (ls:List Nat)
 deriving Inhabited
structure DInfo where
 keep:Keep
 fs:List (Nat × Option Nat)
 p:DPlan
 deriving Inhabited
inductive ACode where
 | skip
 | ops (l:List AOpr)
 | draw (l:List AOpr) (ord:DInfo)
 | seq (a b:ACode)
 | cond (c:Opn) (t e:ACode)
 | block (id:Nat) (c:ACode)
 | loop (c:ACode)
 | exit (id:Nat)
 | ret
 deriving Inhabited
structure DrawKit where
 chk:Program->Nat->Array Oper->List AOpr->DInfo->Bool
 vc:Program->List AOpr->DInfo->Env->Mem->(Env->Mem->Prop)->Prop
 sound:∀ {P:Program} {n:Nat} {ops:Array Oper} {l:List AOpr} {ord:DInfo} {id:Nat},P.follows .mixedOrders=true->chk P n ops l ord=true->∀ {C:Ctx} {e:Env} {m:Mem} {a:Act} {w:World} {L:Lay} {K:Env->Mem->Prop},
  Rel C n e m a w L->vc P l ord e m K->∀ {Q:Exit->Act->World->Prop},(∀ e' m' a' w' L',K e' m'->Rel C n e' m' a' w' L'->Q .normal a' w')->(Code.region id ops true).wp P Q a w
def eB (D:DrawKit) (P:Program) (n:Nat):Code->ACode->Bool
 | .skip,.skip=>true
 | .region _ os false,.ops l=>chkOps P n os os.toList l
 | .region _ os true,.draw l ord=>D.chk P n os l ord
 | .seq a b,.seq a' b'=>eB D P n a a' && eB D P n b b'
 | .cond c t e,.cond c' t' e'=>aL c c' && (eB D P n t t' && eB D P n e e')
 | .block i c,.block j c'=>i == j && eB D P n c c'
 | .loop c,.loop c'=>eB D P n c c'
 | .exit i,.exit j=>i == j
 | .ret,.ret=>true
 | _,_=>false
abbrev XPost:=Exit->Env->Mem->Prop
def AWp (P:Program) (n k:Nat) (c:Code) (e:Env) (m:Mem) (Q:XPost):Prop:=
 ∀ (C:Ctx) (a:Act) (w:World) (L:Lay),C.k=k->Rel C n e m a w L->c.wp P (fun x a' w'=>∃ e' m' L',Q x e' m'/\Rel C n e' m' a' w' L') a w
structure ALoop (D:DrawKit) (P:Program) (n k:Nat) (c:ACode) (e:Env) (m:Mem) (Q:XPost):Prop where
 run:∀ b,eB D P n b c=true->AWp P n k (.loop b) e m Q
noncomputable def vcCode (D:DrawKit) (P:Program) (n k:Nat) (c:ACode):Env->Mem->XPost->Prop:=
 ACode.rec (motive:=fun _=>Env->Mem->XPost->Prop)
  (fun e m Q=>Q .normal e m)
  (fun l e m Q=>vcOps P l e m fun e m=>Q .normal e m)
  (fun l ord e m Q=>D.vc P l ord e m fun e m=>Q .normal e m)
  (fun _ _ iha ihb e m Q=>iha e m fun x e m=>match x with
   | .normal=>ihb e m Q
   | .exit i=>Q (.exit i) e m
   | .ret=>Q .ret e m
   | _=>False)
  (fun c _ _ iht ihf e m Q=>match c.ev e with
   | .bool b=>cH b (iht e m Q) (ihf e m Q)
   | _=>False)
  (fun i _ ih e m Q=>ih e m fun x e m=>match x with
   | .normal=>Q .normal e m
   | .exit j=>cH (j == i) (Q .normal e m) (Q (.exit j) e m)
   | .ret=>Q .ret e m
   | _=>False)
  (fun c _ e m Q=>ALoop D P n k c e m Q)
  (fun i e m Q=>Q (.exit i) e m)
  (fun e m Q=>Q .ret e m) c
section
variable {D:DrawKit} {P:Program} {n k:Nat}
theorem nW (hm:P.follows .mixedOrders=true):∀ (c:Code) (ac:ACode),eB D P n c ac=true->∀ {e:Env} {m:Mem} {Q:XPost},vcCode D P n k ac e m Q->AWp P n k c e m Q:=by
  intro c
  induction c with
  | skip=>intro ac hc e m Q h;cases ac <;> simp [eB]at hc;exact fun C a w L hk hr=>wp_skip ⟨e,m,L,h,hr⟩
  | region id os draw =>
    intro ac hc e m Q h
    cases draw with
    | false =>
      cases ac <;> simp [eB]at hc
      intro C a w L hk hr
      exact wp_region_list (ops_sound _ _ hc hr h (fun e' m' a' w' L' hk hr'=>⟨e',m',L',hk,hr'⟩))
    | true =>
      cases ac <;> simp [eB]at hc
      intro C a w L hk hr
      exact D.sound hm hc hr h (fun e' m' a' w' L' hk hr'=>⟨e',m',L',hk,hr'⟩)
  | seq a b iha ihb =>
    intro ac hc e m Q h
    cases ac <;> simp [eB]at hc
    rename_i a' b'
    intro C ac w L hk hr
    refine wp_seq (Code.wp_mono ?_ (iha a' hc.1 h C ac w L hk hr))
    rintro x a1 w1 ⟨e1,m1,L1,hq,hr1⟩
    cases x with
    | normal=>exact ihb b' hc.2 hq C a1 w1 L1 hk hr1
    | exit i=>exact ⟨e1,m1,L1,hq,hr1⟩
    | ret=>exact ⟨e1,m1,L1,hq,hr1⟩
    | _=>exact False.elim hq
  | cond c t f iht ihf =>
    intro ac hc e m Q h
    cases ac <;> simp [eB]at hc
    rename_i c' t' f'
    intro C a w L hk hr
    have hcv:=aM hr.env hc.1
    change (match c'.ev e with | .bool b=>cH b (vcCode D P n k t' e m Q) (vcCode D P n k f' e m Q) | _=>False)at h
    split at h
    · rename_i b hb
      rw [hb]at hcv
      generalize hv:a.eval c=v at hcv
      cases hcv
      refine wp_cond hv ?_
      rcases kI h with⟨rfl,h⟩ | ⟨rfl,h⟩
      · exact iht t' hc.2.1 h C a w L hk hr
      · exact ihf f' hc.2.2 h C a w L hk hr
    · exact h.elim
  | block i c ih =>
    intro ac hc e m Q h
    cases ac <;> simp [eB]at hc
    rename_i j c'
    obtain⟨rfl,hc⟩:=hc
    intro C a w L hk hr
    refine wp_block (Code.wp_mono ?_ (ih c' hc h C a w L hk hr))
    rintro x a1 w1 ⟨e1,m1,L1,hq,hr1⟩
    cases x with
    | normal=>exact ⟨e1,m1,L1,hq,hr1⟩
    | exit j =>
      simp only [Exit.inBlock]
      rcases kI hq with⟨hj,hq⟩ | ⟨hj,hq⟩
      · rw [if_pos (by simpa using hj)];exact⟨e1,m1,L1,hq,hr1⟩
      · rw [if_neg (by simpa using hj)];exact⟨e1,m1,L1,hq,hr1⟩
    | ret=>exact ⟨e1,m1,L1,hq,hr1⟩
    | _=>exact False.elim hq
  | loop c ih =>
    intro ac hc e m Q h
    cases ac <;> simp [eB]at hc
    rename_i c'
    exact h.run c hc
  | exit i =>
    intro ac hc e m Q h
    cases ac <;> simp [eB]at hc
    subst hc
    exact fun C a w L hk hr=>wp_exit ⟨e,m,L,h,hr⟩
  | ret=>intro ac hc e m Q h;cases ac <;> simp [eB]at hc;exact fun C a w L hk hr=>wp_ret ⟨e,m,L,h,hr⟩
  | _=>intro ac hc;cases ac <;> simp [eB]at hc
theorem loop_sem {c:ACode} {e:Env} {m:Mem} {Q:XPost} (I:Nat->Env->Mem->Prop) (k0:Nat) (h0:I k0 e m)
    (hstep:∀ q e m,I q e m->∀ b,eB D P n b c=true->AWp P n k b e m fun x e' m'=>match x with
      | .normal=>∃ q',q'<q/\I q' e' m'
      | .exit i=>Q (.exit i) e' m'
      | .ret=>Q .ret e' m'
      | _=>False):ALoop D P n k c e m Q:=by
  refine⟨fun b hb C a w L hk hr=> ?_⟩
  let J:Nat->Act->World->Prop:=fun k a w=>∃ e m L,I k e m/\Rel C n e m a w L
  have hfind:∀ a w,∃ μ:Nat,(∃ k,J k a w)->J μ a w/\∀ k,J k a w->μ<=k:=by
    intro a w
    by_cases h:∃ k,J k a w
    · classical
      obtain⟨k,hk⟩:=h
      induction k using Nat.strongRecOn with
      | _ k ih =>
        by_cases hs:∃ k',k'<k/\J k' a w
        · obtain⟨k',h1,h2⟩:=hs;exact ih k' h1 h2
        · exact⟨k,fun _=>⟨hk,fun k' hk'=>Nat.le_of_not_lt fun hlt=>hs ⟨k',hlt,hk'⟩⟩⟩
    · exact⟨0,fun hh=>absurd hh h⟩
  refine wp_loop (fun a w=>∃ k,J k a w) (fun a w=>(hfind a w).choose) ⟨k0,e,m,L,h0,hr⟩ (fun a1 w1 hI=> ?_)
  obtain⟨hJ,hmin⟩:=(hfind a1 w1).choose_spec hI
  obtain⟨e1,m1,L1,hI1,hr1⟩:=hJ
  refine Code.wp_mono ?_ (hstep _ e1 m1 hI1 b hb C a1 w1 L1 hk hr1)
  rintro x a2 w2 ⟨e2,m2,L2,hq,hr2⟩
  cases x with
  | normal =>
    obtain⟨k',hk',hI2⟩:=hq
    refine⟨⟨k',e2,m2,L2,hI2,hr2⟩,?_⟩
    have:=((hfind a2 w2).choose_spec ⟨k',e2,m2,L2,hI2,hr2⟩).2 k' ⟨e2,m2,L2,hI2,hr2⟩
    omega
  | exit i=>exact ⟨e2,m2,L2,hq,hr2⟩
  | ret=>exact ⟨e2,m2,L2,hq,hr2⟩
  | _=>exact False.elim hq
inductive ARes where
 | t (t:Nat)
 | cell (t sz:Nat) (ag:Bool)
 deriving Inhabited
noncomputable def vcResL (e:Env) (m:Mem) (l:List ARes):(List AV->Prop)->Prop:=
  List.rec (motive:=fun _=>(List AV->Prop)->Prop) (fun K=>K []) (fun r _ ih K=>match r with
    | .t t=>qR (e.get t) fun v=>ih fun vs=>K (v::vs)
    | .cell t sz ag => match loadV sz ag m (e.get t) with
      | some ⟨ok,v,_⟩=>cH ok (ih fun vs=>K (v::vs)) False
      | none=>False) l
noncomputable def vcRes (e:Env) (m:Mem) (rs:List ARes) (K:AV->Prop):Prop:=vcResL e m rs fun vs=>match vs with
 | [v] =>K v
 | vs=>K (.tup vs)
def pK (P:Program):List ResultVar->List ARes->Bool
 | [],[] =>true
 | .tmp t::rs,.t t'::rs'=>t == t' && pK P rs rs'
 | .cell t ty::rs,.cell t' sz ag::rs'=>t == t' && (decide (aggB P ty=some ag) && (szB P ty sz && pK P rs rs'))
 | _,_=>false
structure AFun where
 np:Nat
 nt:Nat
 res:List ARes
 body:ACode
 deriving Inhabited
def Env.ofArgs:List AV->Nat->Env->(Env->Prop)->Prop
 | [],_,e,K=>K e
 | v::vs,k,e,K=>Env.setK 12 e k v fun e=>Env.ofArgs vs (k+1) e K
def chkFun (D:DrawKit) (P:Program) (fn:Func) (af:AFun):Bool:=
 match fn.body with
 | some c=>fn.ntmps == af.nt && (Nat.ble af.np af.nt && (pK P fn.results.toList af.res && eB D P af.nt c af.body))
 | none=>false
noncomputable def vcFun (D:DrawKit) (P:Program) (af:AFun) (args:List AV) (m:Mem) (K:AV->Mem->Prop):Prop:=
 args.length=af.np/\Env.ofArgs args 0 .nil fun e=>vcCode D P af.nt m.length af.body e m fun x e m=>match x with
  | .normal=>vcRes e m af.res fun v=>K v m
  | .ret=>vcRes e m af.res fun v=>K v m
  | _=>False
theorem run_res {C:Ctx} {e:Env} {m:Mem} {a:Act} {w:World} {L:Lay} (hR:MRel C m w L) (hE:ERel C e m a w L):∀ (rs:List ResultVar) (as:List ARes) {K:List AV->Prop},pK P rs as=true->vcResL e m as K->
    ∃ vs cs,(rs.mapM fun(r:ResultVar)=>(match r with | .tmp t=>pure (a.tmps.getD t undef) | .cell c t=>do loadVar t (<- asAddr (a.tmps.getD c undef)):Sem Value)).run P w=Result.ok cs w/\K vs/\VRs w.heap L (OO C m L) vs cs
  | [],[],K,_,h=>⟨[],[],by simp,h,.nil⟩
  | [],_::_,K,hc,_=>by simp [pK]at hc
  | .tmp _::_,[],K,hc,_=>by simp [pK]at hc
  | .cell _ _::_,[],K,hc,_=>by simp [pK]at hc
  | .tmp t::rs,.cell _ _ _::as,K,hc,_=>by simp [pK]at hc
  | .cell t _::rs,.t _::as,K,hc,_=>by simp [pK]at hc
  | .tmp t :: rs, .t t' :: as, K, hc, h => by
    simp only [pK,Bool.and_eq_true,beq_iff_eq]at hc
    obtain⟨rfl,hc⟩:=hc
    change qR (e.get t) (fun v=>vcResL e m as fun vs=>K (v::vs))at h
    rw [pD]at h
    obtain⟨vs,cs,h1,h2,h3⟩:=run_res hR hE rs as hc h
    refine⟨_::vs,_::cs,?_,h2,.cons _ _ _ _ (hE t) h3⟩
    simp only [List.mapM_cons,Sem.run_bind,Sem.run_pure,Result.andThen_ok,h1]
  | .cell t ty :: rs, .cell t' sz ag :: as, K, hc, h => by
    simp only [pK,Bool.and_eq_true,beq_iff_eq,decide_eq_true_eq]at hc
    obtain⟨rfl,hag,hsz,hc⟩:=hc
    change (match loadV sz ag m (e.get t)with | some ⟨ok,v,_⟩=>cH ok (vcResL e m as fun vs=>K (v::vs)) False | none=>False)at h
    split at h
    case h_2=>exact h.elim
    rename_i ok v u hl
    obtain⟨rfl,h⟩:=cC h
    obtain⟨vs,cs,h1,h2,h3⟩:=run_res hR hE rs as hc h
    obtain⟨ad,r,hr,q1,q2,_⟩:=sE hR hag hsz (hE t) hl rfl
    refine⟨v::vs,r::cs,?_,h2,.cons _ _ _ _ q2 h3⟩
    have ha:(asAddr (a.tmps.getD t undef)).run P w= .ok ad w:=by rw [hr];rfl
    simp only [List.mapM_cons,Sem.run_bind,Sem.run_pure,Result.andThen_ok,ha,q1,h1]
theorem wO {h:Array Obj} {L:Lay} {O:Nat->Prop}:∀ (vs:List AV) (cs:List Value) (k:Nat) (e:Env) (T:Nat->Value) {K:Env->Prop},VRs h L O vs cs->(∀ t,VR h L O (e.get t) (T t))->(∀ t c,cs[t]? = some c->T (k+t)=c)->Env.ofArgs vs k e K->
    ∃ e',K e'/\∀ t,VR h L O (e'.get t) (T t)
  | [],_,k,e,T,K,hv,he,_,hK=>⟨e,hK,he⟩
  | v::vs,[],k,e,T,K,hv,_,_,_=>by cases hv
  | v :: vs, c :: cs, k, e, T, K, hv, he, hT, hK => by
    cases hv with
    | cons _ _ _ _ h1 h2 =>
      simp only [Env.ofArgs,Env.setK_eq]at hK
      refine wO vs cs (k+1) _ T h2 (fun t=> ?_) (fun t d hd=> ?_) hK
      · have h0:=hT 0 c (by simp)
        rcases Env.set_upd e k v t with h | ⟨g1,g2⟩ | ⟨g1,g2⟩
        · rw [show (Env.setF 12 e k v).get t= .un from h];exact .un _
        · rw [show (Env.setF 12 e k v).get t=e.get t from g2];exact he t
        · rw [show (Env.setF 12 e k v).get t=v from g2,g1]
          rw [show T k=c from by simpa using h0];exact h1
      · have:=hT (t+1) d (by simpa using hd)
        rw [<- this];congr 1;omega
theorem aB (hm : P.follows .mixedOrders = true) {f : FuncId} {fn : Func} {af : AFun} (hf : P.funcs[f]? = some fn) (hnum : (fn.name == "runtime.NumGoroutine") = false) (hc : chkFun D P fn af = true) {args : List AV} {m : Mem} {K : AV → Mem → Prop} (hvc : vcFun D P af args m K) : ACall P f args m K := by
  unfold chkFun at hc
  split at hc
  case h_2=>cases hc
  rename_i c hb
  simp only [Bool.and_eq_true,beq_iff_eq]at hc
  obtain⟨hnt,hnp,hres,hcode⟩:=hc
  have hle:=Nat.le_of_ble_eq_true hnp
  obtain⟨hlen,hvc⟩:=hvc
  refine⟨⟨fn,hf,hnum,by rw [hb];rfl⟩,fun C w L cargs hR hv=> ?_⟩
  have hsz:cargs.size=af.np:=by have:=hv.length;simpa [hlen]using this
  let T:Nat->Value:=fun t=>(cargs++Array.replicate (fn.ntmps - cargs.size) undef).getD t undef
  obtain⟨e,hK,hE⟩:=wO args cargs.toList 0 .nil T hv (fun t=>by rw [Env.get_nil];exact .un _) (fun t d hd=>by
    have hlt:t<cargs.size:=by
      have:=(List.getElem?_eq_some_iff.1 hd).1
      simpa using this
    have hd':cargs[t]? = some d:=by simpa using hd
    simp only [T,Nat.zero_add,Array.getD_eq_getD_getElem?]
    rw [Array.getElem?_append_left hlt,hd']
    rfl) hvc
  have hrel:Rel (C.here m w L) af.nt e m {tmps:=cargs++Array.replicate (fn.ntmps - cargs.size) undef,defers:= []} w L:=⟨by simp;omega,rfl,hR.here,hE⟩
  refine calls_of_wp hf hb (Code.wp_mono ?_ (nW hm c af.body hcode hK (C.here m w L) _ w L rfl hrel))
  rintro x a1 w1 ⟨e1,m1,L1,hq,hr1⟩
  have fin:vcRes e1 m1 af.res (fun v=>K v m1)->a1.defers= [] /\ ∃ v,(results fn a1.tmps).run P w1= .ok v w1/\∃ v1 m' r L',Ending.returned v= .returned r/\K v1 m'/\MRel C m' w1 L'/\VR w1.heap L' (OO C m' L') v1 r/\Ext w.heap L (OO C m L) w1.heap L' (OO C m' L'):=by
    obtain⟨hb1,hb2⟩:=hR.back hr1.mem
    intro h
    obtain⟨vs,cs,h1,h2,h3⟩:=run_res hr1.mem hr1.env fn.results.toList af.res hres h
    refine⟨hr1.defers,?_⟩
    have hlen2:=h3.length
    have hres':(results fn a1.tmps).run P w1= .ok (if h:cs.toArray.size=1 then cs.toArray[0]else .tuple cs.toArray) w1:=by
      unfold results
      rw [Array.mapM_eq_mapM_toList]
      simp only [Sem.run_bind,Sem.run_map]
      have:(fn.results.toList.mapM fun(r:ResultVar)=>(match r with | .tmp t=>pure (a1.tmps.getD t undef) | .cell c t=>do loadVar t (<- asAddr (a1.tmps.getD c undef)):Sem Value)).run P w1=Result.ok cs w1:=h1
      erw [this]
      simp
    refine⟨_,hres',?_⟩
    cases h3 with
    | nil=>exact ⟨.tup [],m1,_,L1,by simp,h2,hb1,.tup _ _ .nil,hb2⟩
    | cons v c vs cs g1 g2 =>
      cases g2 with
      | nil=>exact ⟨v,m1,_,L1,by simp,h2,hb1,g1,hb2⟩
      | cons v2 c2 vs2 cs2 k1 k2 =>
        refine⟨.tup (v::v2::vs2),m1,.tuple (c::c2::cs2).toArray,L1,by simp,h2,hb1,.tup _ _ ?_,hb2⟩
        exact VRs.cons _ _ _ _ g1 (.cons _ _ _ _ k1 k2)
  cases x with
  | normal=>exact fin hq
  | ret=>exact fin hq
  | _=>exact False.elim hq
end
end Go.Wit
end

section
namespace Go.Wit
mutual
inductive Flat (nv:Bool):AV->Prop where
 | un:Flat nv .un
 | int (k:IntKind) (n:Int):Flat nv (.int k n)
 | bool (b:Bool):Flat nv (.bool b)
 | str (s:ByteArray):Flat nv (.str s)
 | nilp:Flat nv .nilp
 | nils:Flat nv .nils
 | nili:Flat nv .nili
 | vptr (m:Nat) (get:Nat->AV) (j:Nat):nv=false->(∀ t,t<m->Flat nv (get t))->Flat nv (.vptr m get j)
 | vsl (es len cap:Nat) (get:Nat->Nat->AV):nv=false->(∀ i j,i<len->j<es->Flat nv (get i j))->Flat nv (.vsl es len cap get)
 | vsl0 (es cap:Nat) (get:Nat->Nat->AV):Flat nv (.vsl es 0 cap get)
 | agg (cs:List AV):Flats nv cs->Flat nv (.agg cs)
 | tup (cs:List AV):Flats nv cs->Flat nv (.tup cs)
 | ifc (t:Nat) (v:AV):Flat nv v->Flat nv (.ifc t v)
 | fn (f:Nat) (cs:List AV):Flats nv cs->Flat nv (.fn f cs)
inductive Flats (nv:Bool):List AV->Prop where
 | nil:Flats nv []
 | cons (v:AV) (vs:List AV):Flat nv v->Flats nv vs->Flats nv (v::vs)
end
mutual
inductive RV (nv:Bool) (σ:Nat->Option Nat):AV->AV->Prop where
 | eq (v v':AV):v=v'->Flat nv v->RV nv σ v v'
 | un (v:AV):RV nv σ v .un
 | sl (l l' o n c:Nat):σ l'=some l->RV nv σ (.sl l o n c) (.sl l' o n c)
 | sl0 (l l' o o':Nat):RV nv σ (.sl l o 0 0) (.sl l' o' 0 0)
 | nils (l o:Nat):RV nv σ .nils (.sl l o 0 0)
 | ptr (l l' i j:Nat):σ l'=some l->RV nv σ (.ptr l i j) (.ptr l' i j)
 | agg (cs cs':List AV):RVs nv σ cs cs'->RV nv σ (.agg cs) (.agg cs')
 | tup (cs cs':List AV):RVs nv σ cs cs'->RV nv σ (.tup cs) (.tup cs')
 | ifc (t:Nat) (v v':AV):RV nv σ v v'->RV nv σ (.ifc t v) (.ifc t v')
 | fn (f:Nat) (cs cs':List AV):RVs nv σ cs cs'->RV nv σ (.fn f cs) (.fn f cs')
inductive RVs (nv:Bool) (σ:Nat->Option Nat):List AV->List AV->Prop where
 | nil:RVs nv σ [] []
 | cons (v v':AV) (vs vs':List AV):RV nv σ v v'->RVs nv σ vs vs'->RVs nv σ (v::vs) (v'::vs')
end
section
variable {nv:Bool} {σ:Nat->Option Nat} {h:Array Obj} {L L':Lay} {O O':Nat->Prop}
theorem Flat.i {k:IntKind} {n n':Int} (e:n=n'):RV nv σ (.int k n) (.int k n'):= .eq _ _ (by rw [e]) (.int k n)
theorem Flat.b {n n':Bool} (e:n=n'):RV nv σ (.bool n) (.bool n'):= .eq _ _ (by rw [e]) (.bool n)
theorem Flat.vr (hO:nv=false->∀ b,O' b->O b) {v:AV} (hf:Flat nv v):∀ {c:Value},VR h L O v c->VR h L' O' v c:=by
 refine Flat.rec (nv:=nv) (motive_1:=fun v _=>∀ {c:Value},VR h L O v c->VR h L' O' v c) (motive_2:=fun vs _=>∀ {cs:List Value},VRs h L O vs cs->VRs h L' O' vs cs)
  ?_ ?_ ?_ ?_ ?_ ?_ ?_ ?_ ?_ ?_ ?_ ?_ ?_ ?_ ?_ ?_ hf
 · intro c hv;exact .un _
 · intro k n c hv;cases hv;exact .int _ _
 · intro b c hv;cases hv;exact .bool _
 · intro s c hv;cases hv;exact .str _
 · intro c hv;cases hv;exact .nilp
 · intro c hv;cases hv;exact .nils
 · intro c hv;cases hv;exact .nili
 · intro m get j hn _ ih c hv
   cases hv with
   | vptr _ _ _ b o vals h1 h2=>exact .vptr _ _ _ b o vals (fun t ht=>⟨fun hb=>(h1 t ht).1 (hO hn _ hb),(h1 t ht).2⟩) (fun t ht=>ih t ht (h2 t ht))
 · intro es len cap get hn _ ih c hv
   cases hv with
   | vsl0 _ _ a=>exact .vsl0 _ _ a
   | vsl _ _ _ _ b o vals h0 h1 h2=>exact .vsl _ _ _ _ b o vals h0 (fun i j hi hj=>⟨fun hb=>(h1 i j hi hj).1 (hO hn _ hb),(h1 i j hi hj).2⟩) (fun i j hi hj=>ih i j hi hj (h2 i j hi hj))
 · intro es cap get c hv
   cases hv with
   | vsl0 _ _ a=>exact .vsl0 _ _ a
   | vsl _ _ _ _ b o vals h0 h1 h2=>exact .vsl _ _ _ _ b o vals h0 (fun i j hi=>absurd hi (Nat.not_lt_zero _)) (fun i j hi=>absurd hi (Nat.not_lt_zero _))
 · intro cs _ ih c hv;cases hv with | agg _ c hs=>exact .agg _ _ (ih hs)
 · intro cs _ ih c hv;cases hv with | tup _ c hs=>exact .tup _ _ (ih hs)
 · intro t v _ ih c hv;cases hv with | ifc _ _ c h1=>exact .ifc _ _ _ (ih h1)
 · intro f cs _ ih c hv;cases hv with | fn _ _ c hs=>exact .fn _ _ _ (ih hs)
 · intro cs hv;cases hv;exact .nil
 · intro v vs _ _ i1 i2 cs hv;cases hv with | cons _ _ _ _ h1 h2=>exact .cons _ _ _ _ (i1 h1) (i2 h2)
theorem RV.vr (hσ:∀ l l' e,σ l'=some l->L l=some e->L' l'=some e) (hO:nv=false->∀ b,O' b->O b) {v v':AV} (hf:RV nv σ v v'):∀ {c:Value},VR h L O v c->VR h L' O' v' c:=by
 refine RV.rec (nv:=nv) (σ:=σ) (motive_1:=fun v v' _=>∀ {c:Value},VR h L O v c->VR h L' O' v' c) (motive_2:=fun vs vs' _=>∀ {cs:List Value},VRs h L O vs cs->VRs h L' O' vs' cs)
  ?_ ?_ ?_ ?_ ?_ ?_ ?_ ?_ ?_ ?_ ?_ ?_ hf
 · rintro v _ rfl hfl c hv;exact hfl.vr hO hv
 · intro v c hv;exact .un _
 · intro l l' o n c hl c' hv
   cases hv with
   | sl0 _ _ a=>exact .sl0 _ _ a
   | sl0n _ _=>exact .sl0n _ _
   | sl _ _ _ _ e h1 h2 h3=>exact .sl _ _ _ _ e (hσ _ _ _ hl h1) h2 h3
 · intro l l' o o' c' hv
   cases hv with
   | sl0 _ _ a=>exact .sl0 _ _ a
   | sl0n _ _=>exact .sl0n _ _
   | sl _ _ _ _ e h1 h2 h3=>exact .sl0 _ _ _
 · intro l o c hv;cases hv;exact .sl0n _ _
 · intro l l' i j hl c hv;cases hv with | ptr _ _ _ e h1=>exact .ptr _ _ _ e (hσ _ _ _ hl h1)
 · intro cs cs' _ ih c hv;cases hv with | agg _ c hs=>exact .agg _ _ (ih hs)
 · intro cs cs' _ ih c hv;cases hv with | tup _ c hs=>exact .tup _ _ (ih hs)
 · intro t v v' _ ih c hv;cases hv with | ifc _ _ c h1=>exact .ifc _ _ _ (ih h1)
 · intro f cs cs' _ ih c hv;cases hv with | fn _ _ c hs=>exact .fn _ _ _ (ih hs)
 · intro cs hv;cases hv;exact .nil
 · intro v v' vs vs' _ _ i1 i2 cs hv;cases hv with | cons _ _ _ _ h1 h2=>exact .cons _ _ _ _ (i1 h1) (i2 h2)
theorem RVs.vr (hσ:∀ l l' e,σ l'=some l->L l=some e->L' l'=some e) (hO:nv=false->∀ b,O' b->O b):∀ {vs vs':List AV},RVs nv σ vs vs'->∀ {cs:List Value},VRs h L O vs cs->VRs h L' O' vs' cs
  | [],_,hf,cs,hv=>by cases hf;cases hv;exact .nil
  | v :: vs, _, hf, cs, hv => by
    cases hf with
    | cons _ v' _ vs' g1 g2=>cases hv with | cons _ _ _ _ h1 h2=>exact .cons _ _ _ _ (g1.vr hσ hO h1) (RVs.vr hσ hO g2 h2)
end
def mkEnvK:List (Nat × AV)->Env->(Env->Prop)->Prop
 | [],e,K=>K e
 | (t,v)::r,e,K=>qR v fun v=>Env.setK 12 e t v fun e=>mkEnvK r e K
def mkEnv:List (Nat × AV)->Env->Env
 | [],e=>e
 | (t,v)::r,e=>mkEnv r (e.set t v)
theorem mkEnvK_eq:∀ (l:List (Nat × AV)) (e:Env) (K:Env->Prop),mkEnvK l e K=K (mkEnv l e)
 | [],e,K=>rfl
 | (t,v)::r,e,K=>by simp only [mkEnvK,pD,Env.setK_eq,mkEnvK_eq r];rfl
def EnvW (σ:Nat->Option Nat) (e:Env):List (Nat × AV)->Prop
 | [] =>True
 | (t,v)::r=>RV false σ (e.get t) v/\EnvW σ e r
structure BlkW (nv:Bool) (σ:Nat->Option Nat) (b b':Blk):Prop where
 es:b.es=b'.es
 n:b'.n<=b.n
 get:∀ i j,i<b'.n->j<b'.es->RV nv σ (b.get i j) (b'.get i j)
inductive BW (nv:Bool) (σ:Nat->Option Nat) (m:Mem):Nat->Option Blk->Prop where
 | dead (l':Nat):BW nv σ m l' none
 | ph (l' es:Nat) (g:Nat->Nat->AV):σ l'=none->BW nv σ m l' (some ⟨es,0,g⟩)
 | old (l' l:Nat) (b b':Blk):σ l'=some l->m[l]? = some (some b)->BlkW nv σ b b'->BW nv σ m l' (some b')
theorem BW.inv {nv:Bool} {σ:Nat->Option Nat} {m:Mem} {l:Nat} {b':Blk} (h:BW nv σ m l (some b')):(σ l=none/\b'.n=0)\/∃ q b1,σ l=some q/\m[q]? = some (some b1)/\BlkW nv σ b1 b':=by
 generalize hc:some b'=c at h
 cases h with
 | dead=>cases hc
 | ph es g h1=>obtain rfl:=Option.some.inj hc;exact .inl ⟨h1,rfl⟩
 | old q b1 b2 h1 h2 h3=>obtain rfl:=Option.some.inj hc;exact .inr ⟨q,b1,h1,h2,h3⟩
def BWs (nv:Bool) (σ:Nat->Option Nat) (m:Mem):Nat->Mem->Prop
 | _,[] =>True
 | k,b::r=>BW nv σ m k b/\BWs nv σ m (k+1) r
theorem BWs.get {nv:Bool} {σ:Nat->Option Nat} {m:Mem}:∀ {m':Mem} {k:Nat},BWs nv σ m k m'->∀ l b,m'[l]? = some b->BW nv σ m (k+l) b
  | [],k,_,l,b,h=>by simp at h
  | c :: r, k, hw, l, b, h => by
    cases l with
    | zero=>simp at h;subst h;exact hw.1
    | succ l=>have:=BWs.get hw.2 l b (by simpa using h);rw [show k+(l+1)=k+1+l by omega];exact this
structure Wk (k:Nat) (e:Env) (m:Mem) (l':List (Nat × AV)) (m':Mem) (src:List (Option Nat)):Prop where
 env:EnvW (fun l=>src.getD l none) e l'
 mem:BWs false (fun l=>src.getD l none) m 0 m'
 len:src.length=m'.length
 nodup:∀ i j l,src.getD i none=some l->src.getD j none=some l->i=j
 base:∀ i,i<k->src.getD i none=some i
def layW (L:Lay) (src:List (Option Nat)) (m':Mem):Lay:=fun l=>
  match src.getD l none with
  | some q=>L q
  | none => match m'[l]? with
    | some (some b)=>some ⟨0,b.es,0⟩
    | _=>none
theorem MRel.wkX {C:Ctx} {m m':Mem} {w:World} {L:Lay} (hR:MRel C m w L) {src:List (Option Nat)} (hm:BWs false (fun l=>src.getD l none) m 0 m') (hlen:src.length=m'.length)
 (hnd:∀ i j l,src.getD i none=some l->src.getD j none=some l->i=j) (C2:Ctx) (hw0:C2.w0=C.w0) (hO0:C2.O0=C.O0) (hX:∀ b,C2.X b->OO C m L b/\b<C.w0.heap.size) (hXo:∀ b,own m' (layW L src m') b->¬ C2.X b)
 (hb:∀ l,l<C2.k->l<m'.length/\layW L src m' l=C2.L0 l):
 MRel C2 m' w (layW L src m')/\(∀ b,own m' (layW L src m') b->own m L b)/\∀ b,OO C2 m' (layW L src m') b->OO C m L b:=by
 have hget:∀ {l:Nat} {b},m'[l]? = some b->BW false (fun l=>src.getD l none) m l b:=fun {l b} h=>by simpa using hm.get l b h
 have hlay:∀ l l' e,src.getD l' none=some l->L l=some e->layW L src m' l'=some e:=by
  intro l l' e h1 h2;simp only [layW,h1];exact h2
 have hown:∀ b,own m' (layW L src m') b->own m L b:=by
  rintro b ⟨l,blk,e,h1,h2,h3,h4⟩
  rcases(hget h1).inv with⟨hs,hn⟩ | ⟨q,b1,hs,h5,h6⟩
  · simp only [layW,hs,h1]at h2
    obtain rfl:=Option.some.inj h2
    simp at h3
  · simp only [layW,hs]at h2
    exact⟨q,b1,e,h5,h2,h3,h4⟩
 have hO:∀ b,OO C2 m' (layW L src m') b->OO C m L b:=fun b hb=>hb.elim (fun h=>(hX b h).1) (fun h=> .inr (hown b h))
 refine⟨⟨by rw [hw0];exact hR.os,by rw [hw0];exact hR.tape,by rw [hw0];exact hR.output,by rw [hw0];exact hR.size,by rw [hw0,hO0];exact hR.frame,fun l hl=> ?_,fun l blk hl=> ?_,fun l l' b b' e e' h1 h2 h3 h4 t1 t2 h5=> ?_,hb,fun b hb=>by rw [hw0];exact(hX b hb).2,hXo⟩,hown,hO⟩
 · have:src.getD l none=none:=by
    rw [List.getD_eq_getElem?_getD,List.getElem?_eq_none (by omega)];rfl
   simp only [layW,this]
   rw [List.getElem?_eq_none hl]
 · rcases(hget hl).inv with⟨hs,hn⟩ | ⟨q,b1,hs,h5,h6⟩
   · refine⟨⟨0,blk.es,0⟩,?_,rfl,by rw [hn];exact Nat.le_refl _,fun h=>absurd h (Nat.lt_irrefl 0)⟩
     simp only [layW,hs,hl]
   · obtain⟨e,g1,g2,g3,g0⟩:=hR.blk q b1 h5
     refine⟨e,hlay _ _ _ hs g1,by rw [g2,h6.es],by have:=h6.n;omega,fun ht=> ?_⟩
     obtain⟨c,T,g4,g5,g6,g7⟩:=g0 ht
     refine⟨c,T,g4,g5,by rw [hw0,hO0];exact g6,fun i j hi hj=> ?_⟩
     have hn:=h6.n
     obtain⟨v,k1,k2,k3⟩:=g7 i j (by omega) (by rw [h6.es];exact hj)
     refine⟨v,by rw [<- h6.es];exact k1,(h6.get i j hi hj).vr (fun l l' e=>hlay l l' e) (fun _=>hO) k2,k3⟩
 · rcases(hget h1).inv with⟨hs,hn⟩ | ⟨q,b1,hs,h6,h7⟩
   · simp only [layW,hs,h1]at h3;obtain rfl:=Option.some.inj h3;simp at t1
   · rcases(hget h2).inv with⟨hs2,hn⟩ | ⟨q2,b2,hs2,h8,h9⟩
     · simp only [layW,hs2,h2]at h4;obtain rfl:=Option.some.inj h4;simp at t2
     · simp only [layW,hs]at h3
       simp only [layW,hs2]at h4
       have:=hR.inj q q2 b1 b2 e e' h6 h8 h3 h4 t1 t2 h5
       subst this
       exact hnd l l' q hs hs2
theorem MRel.wk {C:Ctx} {m m':Mem} {w:World} {L:Lay} (hR:MRel C m w L) {src:List (Option Nat)} (hm:BWs false (fun l=>src.getD l none) m 0 m') (hlen:src.length=m'.length)
 (hnd:∀ i j l,src.getD i none=some l->src.getD j none=some l->i=j) (hb:∀ i,i<C.k->src.getD i none=some i):
 MRel C m' w (layW L src m')/\∀ b,OO C m' (layW L src m') b->OO C m L b:=by
 have hown:∀ b,own m' (layW L src m') b->own m L b:=by
  rintro b ⟨l,blk,e,h1,h2,h3,h4⟩
  have hg:BW false (fun l=>src.getD l none) m l (some blk):=by simpa using hm.get l _ h1
  rcases hg.inv with⟨hs,hn⟩ | ⟨q,b1,hs,h5,h6⟩
  · simp only [layW,hs,h1]at h2
    obtain rfl:=Option.some.inj h2
    simp at h3
  · simp only [layW,hs]at h2
    exact⟨q,b1,e,h5,h2,h3,h4⟩
 obtain⟨h1,_,h2⟩:=hR.wkX hm hlen hnd C rfl rfl (fun b hb=>⟨.inl hb,hR.xlt b hb⟩) (fun b hb=>hR.notX b (hown b hb)) (fun l hl=>by
  have h1:=hb l hl
  have h2:=hR.base l hl
  refine⟨?_,by simp only [layW,h1];exact h2.2⟩
  rcases Nat.lt_or_ge l m'.length with h3 | h3
  · exact h3
  · rw [List.getD_eq_getElem?_getD,List.getElem?_eq_none (by omega)]at h1;cases h1)
 exact⟨h1,h2⟩
theorem envW_get {σ:Nat->Option Nat} {h:Array Obj} {L L':Lay} {O O':Nat->Prop} {T:Nat->Value} {e:Env} (he:∀ t,VR h L O (e.get t) (T t)) (hσ:∀ l l' e,σ l'=some l->L l=some e->L' l'=some e) (hO:∀ b,O' b->O b):
    ∀ (l:List (Nat × AV)) (e0:Env),EnvW σ e l->(∀ t,VR h L' O' (e0.get t) (T t))->∀ t,VR h L' O' ((mkEnv l e0).get t) (T t)
  | [],e0,_,h0,t=>h0 t
  | (s, v) :: r, e0, hw, h0, t => by
    refine envW_get he hσ hO r (e0.set s v) hw.2 (fun q=> ?_) t
    rcases Env.set_upd e0 s v q with h | ⟨h1,h2⟩ | ⟨h1,h2⟩
    · rw [h];exact .un _
    · rw [h2];exact h0 q
    · rw [h2,h1];exact hw.1.vr hσ (fun _=>hO) (he s)
theorem Wk.rel {C:Ctx} {n k:Nat} {e:Env} {m m':Mem} {a:Act} {w:World} {L:Lay} {l':List (Nat × AV)} {src:List (Option Nat)} (hk:C.k=k) (hw:Wk k e m l' m' src) (hr:Rel C n e m a w L):∃ L',Rel C n (mkEnv l' .nil) m' a w L':=by
 obtain⟨h1,h2⟩:=hr.mem.wk hw.mem hw.len hw.nodup (by rw [hk];exact hw.base)
 refine⟨_,hr.size,hr.defers,h1,?_⟩
 exact envW_get hr.env (fun l l' e g1 g2=>by have g1':src.getD l' none=some l:=g1;simp only [layW,g1'];exact g2) h2 l' .nil hw.env (fun t=>by rw [Env.get_nil];exact .un _)
section
variable {D:DrawKit} {P:Program} {n k:Nat}
theorem AWp.wk {c:Code} {e:Env} {m m':Mem} {l':List (Nat × AV)} {src:List (Option Nat)} {Q:XPost} (hw:Wk k e m l' m' src) (h:AWp P n k c (mkEnv l' .nil) m' Q):AWp P n k c e m Q:=by
 intro C a w L hk hr
 obtain⟨L',hr'⟩:=hw.rel hk hr
 exact h C a w L' hk hr'
theorem AWp.mono {c:Code} {e:Env} {m:Mem} {Q Q':XPost} (hq:∀ x e m,Q x e m->Q' x e m) (h:AWp P n k c e m Q):AWp P n k c e m Q':=by
 intro C a w L hk hr
 refine Code.wp_mono ?_ (h C a w L hk hr)
 rintro x a' w' ⟨e',m',L',h1,h2⟩
 exact⟨e',m',L',hq _ _ _ h1,h2⟩
theorem bE (hm:P.follows .mixedOrders=true) {c:ACode} {e:Env} {m:Mem} {Q:XPost} (I:Nat->List (Nat × AV)->Mem->Prop) (k0:Nat) {l0:List (Nat × AV)} {m0:Mem} (src:List (Option Nat)) (hi:I k0 l0 m0) (hw:Wk k e m l0 m0 src)
    (hstep:∀ q l m,I q l m->mkEnvK l .nil fun e=>vcCode D P n k c e m fun x e' m'=>match x with
      | .normal=>∃ q' l' m2 src,q'<q/\I q' l' m2/\Wk k e' m' l' m2 src
      | .exit i=>Q (.exit i) e' m'
      | .ret=>Q .ret e' m'
      | _=>False):ALoop D P n k c e m Q:=by
  refine loop_sem (fun q e m=>∃ l m2 src,I q l m2/\Wk k e m l m2 src) k0 ⟨l0,m0,src,hi,hw⟩ (fun q e1 m1 hI b hb=> ?_)
  obtain⟨l,m2,s2,hI,hw2⟩:=hI
  refine AWp.wk hw2 ?_
  have:=hstep q l m2 hI
  rw [mkEnvK_eq]at this
  refine AWp.mono ?_ (nW hm b c hb this)
  intro x e' m' h
  cases x with
  | normal =>
    obtain⟨q',l',m3,s3,h1,h2,h3⟩:=h
    exact⟨q',h1,l',m3,s3,h2,h3⟩
  | exit i=>exact h
  | ret=>exact h
  | _=>exact h.elim
end
end Go.Wit
end

section
namespace Go.Wit
inductive Lend (σ:Nat->Option Nat) (B:List Nat) (m:Mem):AV->AV->Prop where
 | rv (v v':AV):RV false σ v v'->Lend σ B m v v'
 | sl (l off len cap:Nat) (blk:Blk) (get:Nat->Nat->AV):l ∈ B->m[l]? = some (some blk)->off+len<=blk.n->
  (∀ i j,i<len->j<blk.es->get i j=blk.get (off+i) j/\Flat false (get i j))->Lend σ B m (.sl l off len cap) (.vsl blk.es len cap get)
 | sl0 (l off es:Nat) (get:Nat->Nat->AV):Lend σ B m (.sl l off 0 0) (.vsl es 0 0 get)
 | vsl (es len cap:Nat) (g g':Nat->Nat->AV):(∀ i j,i<len->j<es->g' i j=g i j/\Flat false (g' i j))->Lend σ B m (.vsl es len cap g) (.vsl es len cap g')
 | nils (es:Nat) (get:Nat->Nat->AV):Lend σ B m .nils (.vsl es 0 0 get)
 | ptr (l i j:Nat) (blk:Blk) (get:Nat->AV):l ∈ B->m[l]? = some (some blk)->i<blk.n->
  (∀ t,t<blk.es->get t=blk.get i t/\Flat false (get t))->Lend σ B m (.ptr l i j) (.vptr blk.es get j)
 | slR (l off len cap:Nat) (blk:Blk) (get:Nat->Nat->AV):l ∈ B->m[l]? = some (some blk)->off+len<=blk.n->
  (∀ i j,i<len->j<blk.es->Lend σ B m (blk.get (off+i) j) (get i j))->Lend σ B m (.sl l off len cap) (.vsl blk.es len cap get)
 | vslR (es len cap:Nat) (g g':Nat->Nat->AV):(∀ i j,i<len->j<es->Lend σ B m (g i j) (g' i j))->Lend σ B m (.vsl es len cap g) (.vsl es len cap g')
 | aggR (cs cs':List AV):cs.length=cs'.length->(∀ i,i<cs.length->Lend σ B m (cs.getD i .un) (cs'.getD i .un))->Lend σ B m (.agg cs) (.agg cs')
inductive Lends (σ:Nat->Option Nat) (B:List Nat) (m:Mem):List AV->List AV->Prop where
 | nil:Lends σ B m [] []
 | cons (v v':AV) (vs vs':List AV):Lend σ B m v v'->Lends σ B m vs vs'->Lends σ B m (v::vs) (v'::vs')
structure Give (nv:Bool) (src:List (Option Nat)) (k0:Nat) (m m' m2:Mem) (τ:Nat->Option Nat):Prop where
 len:m.length<=m2.length
 top:∀ l q,τ l=some q->l<m2.length
 inj:∀ l l' q,τ l=some q->τ l'=some q->l=l'
 low:∀ l q,l<m.length->τ l=some q->q<k0/\src.getD q none=some l
 blk:∀ l b,m2[l]? = some (some b)->(τ l=none/\m[l]? = some (some b)/\∀ i,src.getD i none ≠ some l)\/(∃ q b1,τ l=some q/\m'[q]? = some (some b1)/\BlkW nv τ b1 b)\/(τ l=none/\m.length<=l/\b.n=0)
def bor (m:Mem) (L:Lay) (B:List Nat) (b:Nat):Prop:= ∃ l blk e,l ∈ B/\m[l]? = some (some blk)/\L l=some e/\0<e.tot/\e.b=b
theorem own_lt {C:Ctx} {m:Mem} {w:World} {L:Lay} (hR:MRel C m w L) {b:Nat} (h:own m L b):b<w.heap.size:=by
 obtain⟨l,blk,e,h1,h2,h3,rfl⟩:=h
 obtain⟨e',g1,g2,g3,g0⟩:=hR.blk l blk h1
 rw [h2]at g1;obtain rfl:=Option.some.inj g1
 obtain⟨c,T,g4,g5,g6,g7⟩:=g0 h3
 exact(Array.getElem?_eq_some_iff.1 g4).1
theorem ACall.frame {P:Program} {f:FuncId} {args args0:List AV} {m m0:Mem} {K0 K:AV->Mem->Prop} (h:ACall P f args0 m0 K0) (nv:Bool) (src:List (Option Nat)) (B:List Nat) (hB:nv=false->B= [])
    (hargs:Lends (fun l=>src.getD l none) B m args args0) (hm0:BWs false (fun l=>src.getD l none) m 0 m0) (hlen:src.length=m0.length) (hnd:∀ i j l,src.getD i none=some l->src.getD j none=some l->i=j)
    (hdis:∀ l,l ∈ B->∀ i,src.getD i none ≠ some l)
    (hK:∀ v m',K0 v m'->∃ v2 m2 τ,Give nv src m0.length m m' m2 τ/\RV nv τ v v2/\K v2 m2):ACall P f args m K:=by
  refine⟨h.callable,fun C w L cargs hR hv=> ?_⟩
  have hRh:=hR.here
  let L1:=layW L src m0
  have hOh:∀ b,OO (C.here m w L) m L b ↔ OO C m L b:=fun b=>Iff.rfl
  have hown0:∀ b,own m0 L1 b->∃ l i b1 e,src.getD i none=some l/\m[l]? = some (some b1)/\L l=some e/\0<e.tot/\e.b=b:=by
    rintro b ⟨l,blk,e,h1,h2,h3,h4⟩
    have hg:BW false (fun l=>src.getD l none) m l (some blk):=by simpa using hm0.get l _ h1
    rcases hg.inv with⟨hs,hn⟩ | ⟨q,b1,hs,h5,h6⟩
    · have h2':layW L src m0 l=some e:=h2
      simp only [layW,hs,h1]at h2'
      obtain rfl:=Option.some.inj h2'
      simp at h3
    · have h2':layW L src m0 l=some e:=h2
      simp only [layW,hs]at h2'
      exact⟨q,l,b1,e,hs,h5,h2',h3,h4⟩
  have hown1:∀ b,own m0 L1 b->own m L b:=fun b hb=>by
    obtain⟨l,i,b1,e,h1,h2,h3,h4,h5⟩:=hown0 b hb
    exact⟨l,b1,e,h2,h3,h4,h5⟩
  let C2:Ctx:=⟨fun b=>OO C m L b/\¬ own m0 L1 b/\¬ bor m L B b,w,own m L,L1,0⟩
  obtain⟨hM,_,hOO⟩:=hRh.wkX hm0 hlen hnd C2 rfl rfl (fun b hb=>⟨hb.1,by
      rcases hb.1 with hx | hx
      · exact hRh.xlt b hx
      · exact own_lt hR hx⟩) (fun b hb hx=>hx.2.1 hb) (fun l hl=>absurd hl (Nat.not_lt_zero _))
  have hM2:=hM.here
  let C3:Ctx:=C2.here m0 w L1
  have hav:VRs w.heap L1 (OO C3 m0 L1) args0 cargs.toList:=by
    have hσ:∀ l l' e,(fun l=>src.getD l none) l'=some l->L l=some e->L1 l'=some e:=by
      intro l l' e g1 g2
      have g1':src.getD l' none=some l:=g1
      show layW L src m0 l'=some e
      simp only [layW,g1'];exact g2
    have hsub:∀ b,OO C3 m0 L1 b->OO C m L b:=fun b hb=>hOO b hb
    have hbor:∀ {l blk e},l ∈ B->m[l]? = some (some blk)->L l=some e->0<e.tot->¬ OO C3 m0 L1 e.b:=by
      intro l blk e g1 g2 g3 g4 hb
      rcases hb with hb | hb
      · exact hb.2.2 ⟨l,blk,e,g1,g2,g3,g4,rfl⟩
      · obtain⟨l2,i,b1,e2,q1,q2,q3,q4,q5⟩:=hown0 _ hb
        have:=hR.inj l2 l b1 blk e2 e q2 g2 q3 g3 q4 g4 q5
        subst this
        exact hdis l2 g1 i q1
    have one:∀ {v v' c},Lend (fun l=>src.getD l none) B m v v'->VR w.heap L (OO C m L) v c->VR w.heap L1 (OO C3 m0 L1) v' c:=by
      intro v v' c hl
      induction hl generalizing c with
      | slR l off len cap blk get g1 g2 g3 g4 ih =>
        intro hc
        cases hc with
        | sl0 _ _ a=>exact .vsl0 _ _ _
        | sl0n _ _=>exact .vsl0 _ _ _
        | sl _ _ _ _ e q1 q2 q3 =>
          obtain⟨e',k1,k2,k3,k0⟩:=hR.blk l blk g2
          rw [q1]at k1;obtain rfl:=Option.some.inj k1
          by_cases hc0:cap=0
          · subst hc0
            obtain rfl:len=0:=by omega
            exact .vsl0 _ _ _
          have ht:0<e.tot:=by omega
          obtain⟨c,T,k4,k5,k6,k7⟩:=k0 ht
          have key:∀ i j,i<len->j<blk.es->∃ v,eO w.heap e.b (off*e.es+(i*blk.es+j))=some v/\VR w.heap L (OO C m L) (blk.get (off+i) j) v/\v.oneCell'=true:=by
            intro i j hi hj
            obtain⟨v,r1,r2,r3⟩:=k7 (off+i) j (by omega) hj
            refine⟨v,?_,r2,r3⟩
            simp only [eO,k4]
            rw [<- r1,k2];congr 1
            rw [Nat.add_mul];omega
          classical
          refine .vsl _ _ _ _ e.b (off*e.es) (fun i j=>if hij:i<len/\j<blk.es then (key i j hij.1 hij.2).choose else undef) q2 (fun i j hi hj=> ?_) (fun i j hi hj=> ?_)
          · have hk:=(key i j hi hj).choose_spec
            rw [dif_pos ⟨hi,hj⟩]
            exact⟨hbor g1 g2 q1 ht,hk.1,hk.2.2⟩
          · have hk:=(key i j hi hj).choose_spec
            rw [dif_pos ⟨hi,hj⟩]
            exact ih i j hi hj hk.2.1
      | vslR es len cap g g' hg ih =>
        intro hc
        cases hc with
        | vsl0 _ _ a=>exact .vsl0 _ _ _
        | vsl _ _ _ _ b o vals h0 h1 h2=>exact .vsl _ _ _ _ b o vals h0 (fun i j hi hj=>⟨fun hb=>(h1 i j hi hj).1 (hsub _ hb),(h1 i j hi hj).2⟩) (fun i j hi hj=>ih i j hi hj (h2 i j hi hj))
      | aggR cs cs' hl hg ih =>
        intro hc
        cases hc with
        | agg _ x hs =>
          refine .agg _ _ (VRs.of_get (by rw [hs.length,hl]) (fun i d hd=> ?_))
          have hi:i<cs.length:=by
            rw [<- hs.length]
            exact(List.getElem?_eq_some_iff.1 hd).1
          obtain⟨d',e1,e2⟩:=hs.get i hi
          rw [hd]at e1;obtain rfl:=Option.some.inj e1
          exact ih i hi e2
      | rv _ _ hr=>intro hc;exact hr.vr hσ (fun _=>hsub) hc
      | sl0 l off es get =>
        intro hc
        cases hc with
        | sl0 _ _ a=>exact .vsl0 _ _ _
        | sl0n _ _=>exact .vsl0 _ _ _
        | sl _ _ _ _ e g1 g2 g3=>exact .vsl0 _ _ _
      | nils es get=>intro hc;cases hc;exact .vsl0 _ _ _
      | vsl es len cap g g' hg =>
        intro hc
        cases hc with
        | vsl0 _ _ a=>exact .vsl0 _ _ _
        | vsl _ _ _ _ b o vals h0 h1 h2=>exact .vsl _ _ _ _ b o vals h0 (fun i j hi hj=>⟨fun hb=>(h1 i j hi hj).1 (hsub _ hb),(h1 i j hi hj).2⟩) (fun i j hi hj=>(hg i j hi hj).2.vr (fun _=>hsub) (by rw [(hg i j hi hj).1];exact h2 i j hi hj))
      | sl l off len cap blk get g1 g2 g3 g4 =>
        intro hc
        cases hc with
        | sl0 _ _ a=>exact .vsl0 _ _ _
        | sl0n _ _=>exact .vsl0 _ _ _
        | sl _ _ _ _ e q1 q2 q3 =>
          obtain⟨e',k1,k2,k3,k0⟩:=hR.blk l blk g2
          rw [q1]at k1;obtain rfl:=Option.some.inj k1
          by_cases hc0:cap=0
          · subst hc0
            obtain rfl:len=0:=by omega
            exact .vsl0 _ _ _
          have ht:0<e.tot:=by omega
          obtain⟨c,T,k4,k5,k6,k7⟩:=k0 ht
          have key:∀ i j,i<len->j<blk.es->∃ v,eO w.heap e.b (off*e.es+(i*blk.es+j))=some v/\VR w.heap L (OO C m L) (blk.get (off+i) j) v/\v.oneCell'=true:=by
            intro i j hi hj
            obtain⟨v,r1,r2,r3⟩:=k7 (off+i) j (by omega) hj
            refine⟨v,?_,r2,r3⟩
            simp only [eO,k4]
            rw [<- r1,k2];congr 1
            rw [Nat.add_mul];omega
          classical
          refine .vsl _ _ _ _ e.b (off*e.es) (fun i j=>if hij:i<len/\j<blk.es then (key i j hij.1 hij.2).choose else undef) q2 (fun i j hi hj=> ?_) (fun i j hi hj=> ?_)
          · have hk:=(key i j hi hj).choose_spec
            rw [dif_pos ⟨hi,hj⟩]
            exact⟨hbor g1 g2 q1 ht,hk.1,hk.2.2⟩
          · have hk:=(key i j hi hj).choose_spec
            rw [dif_pos ⟨hi,hj⟩]
            obtain⟨p1,p2⟩:=g4 i j hi hj
            exact p2.vr (fun _=>hsub) (by rw [p1];exact hk.2.1)
      | ptr l i j blk get g1 g2 g3 g4 =>
        intro hc
        cases hc with
        | ptr _ _ _ e q1 =>
          obtain⟨e',k1,k2,k3,k0⟩:=hR.blk l blk g2
          rw [q1]at k1;obtain rfl:=Option.some.inj k1
          have ht:0<e.tot:=by omega
          obtain⟨c,T,k4,k5,k6,k7⟩:=k0 ht
          have key:∀ t,t<blk.es->∃ v,eO w.heap e.b (i*e.es+t)=some v/\VR w.heap L (OO C m L) (blk.get i t) v/\v.oneCell'=true:=by
            intro t ht
            obtain⟨v,r1,r2,r3⟩:=k7 i t g3 ht
            refine⟨v,?_,r2,r3⟩
            simp only [eO,k4]
            rw [<- r1,k2]
          classical
          refine .vptr _ _ _ e.b (i*e.es) (fun t=>if hij:t<blk.es then (key t hij).choose else undef) (fun t hj=> ?_) (fun t hj=> ?_)
          · have hk:=(key t hj).choose_spec
            rw [dif_pos hj]
            exact⟨hbor g1 g2 q1 ht,hk.1,hk.2.2⟩
          · have hk:=(key t hj).choose_spec
            rw [dif_pos hj]
            obtain⟨p1,p2⟩:=g4 t hj
            exact p2.vr (fun _=>hsub) (by rw [p1];exact hk.2.1)
    have all:∀ {vs vs':List AV} {cs:List Value},Lends (fun l=>src.getD l none) B m vs vs'->VRs w.heap L (OO C m L) vs cs->VRs w.heap L1 (OO C3 m0 L1) vs' cs:=by
      intro vs vs' cs hl
      induction hl generalizing cs with
      | nil=>intro hc;cases hc;exact .nil
      | cons v v' vs vs' h1 h2 ih=>intro hc;cases hc with | cons _ _ _ _ c1 c2=>exact .cons _ _ _ _ (one h1 c1) (ih c2)
    exact all hargs hv
  refine(h.run C3 w L1 cargs hM2 hav).mono ?_
  rintro en w' ⟨v,m',r,L1',rfl,hk,hM',hvr,hx⟩
  obtain⟨v2,m2,τ,hg,hrv,hKv⟩:=hK v m' hk
  let L2:Lay:=fun l=>match τ l with
    | some q=>L1' q
    | none => if l < m.length then L l else match m2[l]? with
      | some (some b)=>some ⟨0,b.es,0⟩
      | _=>none
  have hτ:∀ l l' e,τ l'=some l->L1' l=some e->L2 l'=some e:=by
    intro l l' e g1 g2;simp only [L2,g1];exact g2
  have hbase:∀ l,l<m.length->L2 l=L l:=by
    intro l hl
    cases hq:τ l with
    | none=>simp only [L2,hq,if_pos hl]
    | some q =>
      obtain⟨g1,g2⟩:=hg.low l q hl hq
      simp only [L2,hq]
      rw [(hM'.base q g1).2]
      show layW L src m0 q=L l
      simp only [layW,g2]
  have hnew:∀ b,own m' L1' b->w.heap.size<=b\/own m0 L1 b:=by
    rintro b ⟨l,blk,e,h1,h2,h3,rfl⟩
    obtain⟨e',g1,g2,g3,g0⟩:=hM'.blk l blk h1
    rw [h2]at g1;obtain rfl:=Option.some.inj g1
    obtain⟨c,T,g4,g5,g6,g7⟩:=g0 h3
    exact g6
  have hown2:∀ b,own m2 L2 b->(∃ l blk e,τ l=none/\m[l]? = some (some blk)/\(∀ i,src.getD i none ≠ some l)/\L l=some e/\0<e.tot/\e.b=b)\/own m' L1' b:=by
    rintro b ⟨l,blk,e,h1,h2,h3,h4⟩
    rcases hg.blk l blk h1 with⟨g1,g2,g3⟩ | ⟨q,b1,g1,g2,g3⟩ | ⟨g1,g2,g3⟩
    rotate_left 2
    · exfalso
      simp only [L2,g1,h1]at h2
      rw [if_neg (by omega)]at h2
      obtain rfl:=Option.some.inj h2
      exact absurd h3 (Nat.lt_irrefl 0)
    · left
      refine⟨l,blk,e,g1,g2,g3,?_,h3,h4⟩
      rw [<- hbase l (bL g2)];exact h2
    · right
      simp only [L2,g1]at h2
      exact⟨q,b1,e,g2,h2,h3,h4⟩
  have hfr:∀ {l blk e},m[l]? = some (some blk)->(∀ i,src.getD i none ≠ some l)->L l=some e->0<e.tot->¬ own m0 L1 e.b:=by
    intro l blk e g1 g2 g3 g4 hb
    obtain⟨l2,i,b1,e2,q1,q2,q3,q4,q5⟩:=hown0 _ hb
    have:=hR.inj l2 l b1 blk e2 e q2 g1 q3 g3 q4 g4 q5
    subst this
    exact g2 i q1
  have hxx:Ext w.heap L (OO C m L) w'.heap L2 (OO C m2 L2):=by
    refine⟨fun l e hl=> ?_,fun b hb hO=> ?_,fun b hb hO hO'=> ?_⟩
    · have hlt:l<m.length:=by
        rcases Nat.lt_or_ge l m.length with h1 | h1
        · exact h1
        · rw [hR.lay l h1]at hl;cases hl
      rw [hbase l hlt];exact hl
    · exact hM'.frame b hb (fun ho=>hO (.inr (hown1 b ho)))
    · rcases hO' with hX | ho
      · exact hO (.inl hX)
      · rcases hown2 b ho with⟨l,blk,e,g1,g2,g3,g4,g5,rfl⟩ | ho
        · exact hO (.inr ⟨l,blk,e,g2,g4,g5,rfl⟩)
        · rcases hnew b ho with h1 | h1
          · omega
          · exact hO (.inr (hown1 b h1))
  have hOb:nv=false->∀ b,OO C m2 L2 b->OO C3 m' L1' b:=by
    intro hn b hb
    have hB':=hB hn
    have hnb:¬ bor m L B b:=by rintro⟨l,blk,e,g1,_⟩;rw [hB']at g1;simp at g1
    rcases hb with hb | hb
    · exact .inl ⟨.inl hb,fun ho=>hR.notX b (hown1 b ho) hb,hnb⟩
    · rcases hown2 b hb with⟨l,blk,e,g1,g2,g3,g4,g5,rfl⟩ | ho
      · exact .inl ⟨.inr ⟨l,blk,e,g2,g4,g5,rfl⟩,hfr g2 g3 g4 g5,hnb⟩
      · exact .inr ho
  have hMh:MRel (C.here m w L) m2 w' L2:=by
    refine⟨hM'.os,hM'.tape,hM'.output,hM'.size,fun b hb hO=>hM'.frame b hb (fun ho=>hO (hown1 b ho)),fun l hl=> ?_,fun l b hl=> ?_,fun l l' b b' e e' h1 h2 h3 h4 t1 t2 h5=> ?_,fun l hl=> ?_,hRh.xlt,fun b hb hX=> ?_⟩
    · have h1:τ l=none:=by
        cases hq:τ l with
        | none=>rfl
        | some q=>have:=hg.top l q hq;omega
      have:=hg.len
      simp only [L2,h1];rw [if_neg (by omega),List.getElem?_eq_none hl]
    · rcases hg.blk l b hl with⟨g1,g2,g3⟩ | ⟨q,b1,g1,g2,g3⟩ | ⟨g1,g2,g3⟩
      rotate_left 2
      · refine⟨⟨0,b.es,0⟩,?_,rfl,by rw [g3];exact Nat.le_refl _,fun h=>absurd h (Nat.lt_irrefl 0)⟩
        simp only [L2,g1,hl]
        rw [if_neg (by omega)]
      · obtain⟨e,k1,k2,k3,k0⟩:=hR.blk l b g2
        refine⟨e,by rw [hbase l (bL g2)];exact k1,k2,k3,fun ht=> ?_⟩
        obtain⟨c,T,k4,k5,k6,k7⟩:=k0 ht
        refine⟨c,T,?_,k5,.inr ⟨l,b,e,g2,k1,ht,rfl⟩,fun i j hi hj=> ?_⟩
        · rw [<- k4]
          exact hM'.frame e.b (Array.getElem?_eq_some_iff.1 k4).1 (hfr g2 g3 k1 ht)
        · obtain⟨v,r1,r2,r3⟩:=k7 i j hi hj
          exact⟨v,r1,r2.ext hxx,r3⟩
      · obtain⟨e,k1,k2,k3,k0⟩:=hM'.blk q b1 g2
        refine⟨e,hτ _ _ _ g1 k1,by rw [k2,g3.es],by have:=g3.n;omega,fun ht=> ?_⟩
        obtain⟨c,T,k4,k5,k6,k7⟩:=k0 ht
        refine⟨c,T,k4,k5,k6.imp id (hown1 _),fun i j hi hj=> ?_⟩
        have hn:=g3.n
        obtain⟨v,r1,r2,r3⟩:=k7 i j (by omega) (by rw [g3.es];exact hj)
        exact⟨v,by rw [<- g3.es];exact r1,(g3.get i j hi hj).vr hτ hOb r2,r3⟩
    · have noph:∀ {l b e},m2[l]? = some (some b)->L2 l=some e->0<e.tot->τ l=none->m.length<=l->False:=by
        intro l b e h1 h2 h3 h4 h5
        simp only [L2,h4,h1]at h2
        rw [if_neg (by omega)]at h2
        obtain rfl:=Option.some.inj h2
        exact absurd h3 (Nat.lt_irrefl 0)
      rcases hg.blk l b h1 with⟨g1,g2,g3⟩ | ⟨q,b1,g1,g2,g3⟩ | ⟨g1,g2,g3⟩
      rotate_left 2
      · exact(noph h1 h3 t1 g1 g2).elim
      · rw [hbase l (bL g2)]at h3
        rcases hg.blk l' b' h2 with⟨q1,q2,q3⟩ | ⟨q',b2,q1,q2,q3⟩ | ⟨q1,q2,q3⟩
        rotate_left 2
        · exact(noph h2 h4 t2 q1 q2).elim
        · rw [hbase l' (bL q2)]at h4
          exact hR.inj l l' b b' e e' g2 q2 h3 h4 t1 t2 h5
        · exfalso
          simp only [L2,q1]at h4
          have h6:=own_lt hR ⟨l,b,e,g2,h3,t1,rfl⟩
          rcases hnew e'.b ⟨q',b2,e',q2,h4,t2,rfl⟩with h7 | h7
          · omega
          · exact hfr g2 g3 h3 t1 (by rw [h5];exact h7)
      · rcases hg.blk l' b' h2 with⟨q1,q2,q3⟩ | ⟨q',b2,q1,q2,q3⟩ | ⟨q1,q2,q3⟩
        rotate_left 2
        · exact(noph h2 h4 t2 q1 q2).elim
        all_goals simp only [L2,g1]at h3
        · exfalso
          rw [hbase l' (bL q2)]at h4
          have h6:=own_lt hR ⟨l',b',e',q2,h4,t2,rfl⟩
          rcases hnew e.b ⟨q,b1,e,g2,h3,t1,rfl⟩with h7 | h7
          · omega
          · exact hfr q2 q3 h4 t2 (by rw [<- h5];exact h7)
        · simp only [L2,q1]at h4
          have:=hM'.inj q q' b1 b2 e e' g2 q2 h3 h4 t1 t2 h5
          subst this
          exact hg.inj l l' q g1 q1
    · have hl':l<m.length:=hl
      exact⟨by have:=hg.len;omega,hbase l hl'⟩
    · have hX':C.X b:=hX
      rcases hown2 b hb with⟨l,blk,e,g1,g2,g3,g4,g5,rfl⟩ | ho
      · exact hR.notX _ ⟨l,blk,e,g2,g4,g5,rfl⟩ hX'
      · rcases hnew b ho with h1 | h1
        · have:=hRh.xlt b hX
          have:b<w.heap.size:=this
          omega
        · exact hR.notX _ (hown1 b h1) hX'
  obtain⟨r1,r2⟩:=hR.back hMh
  exact⟨v2,m2,r,L2,rfl,hKv,r1,hrv.vr hτ hOb hvr,hxx⟩
def fT (k:Nat) (src:List (Option Nat)):Nat->Option Nat:=fun l=>if l<k then none else src.getD (l - k) none
theorem ACall.frame0 {P:Program} {f:FuncId} {args args0:List AV} {m:Mem} {K0 K:AV->Mem->Prop} (h:ACall P f args0 [] K0) (nv:Bool) (B:List Nat) (hB:nv=false->B= [])
 (hargs:Lends (fun _=>none) B m args args0)
 (hK:∀ v m',K0 v m'->∃ v2 t2 src2,src2.length<=t2.length/\(∀ i j q,src2.getD i none=some q->src2.getD j none=some q->i=j)/\RV nv (fT m.length src2) v v2/\BWs nv (fT m.length src2) m' m.length t2/\K v2 (m++t2)):ACall P f args m K:=by
 refine h.frame nv [] B hB hargs trivial rfl (fun i j l hi=>by simp at hi) (fun l _ i hi=>by simp at hi) (fun v m' hk=> ?_)
 obtain⟨v2,t2,src2,h1,h2,h3,h4,h5⟩:=hK v m' hk
 refine⟨v2,m++t2,fT m.length src2,⟨by simp,fun l q hl=> ?_,fun l l' q hl hl'=> ?_,fun l q hlt hl=> ?_,fun l b hl=> ?_⟩,h3,h5⟩
 · simp only [fT]at hl
   split at hl
   · cases hl
   · rw [List.length_append]
     have:l - m.length<src2.length:=by
      rcases Nat.lt_or_ge (l - m.length) src2.length with g | g
      · exact g
      · rw [List.getD_eq_getElem?_getD,List.getElem?_eq_none g]at hl;cases hl
     omega
 · simp only [fT]at hl hl'
   split at hl
   · cases hl
   · split at hl'
     · cases hl'
     · have:=h2 _ _ _ hl hl';omega
 · simp only [fT,if_pos hlt]at hl;cases hl
 · by_cases hlt:l<m.length
   · left
     rw [List.getElem?_append_left hlt]at hl
     exact⟨by simp only [fT,if_pos hlt],hl,fun i=>by simp⟩
   · right
     rw [List.getElem?_append_right (by omega)]at hl
     have:=h4.get _ _ hl
     rw [show m.length+(l - m.length)=l by omega]at this
     rcases this.inv with⟨g1,g2⟩ | ⟨q,b1,g1,g2,g3⟩
     · exact .inr ⟨g1,by omega,g2⟩
     · exact .inl ⟨q,b1,g1,g2,g3⟩
end Go.Wit
end

section
namespace Go.Wit
def vcP (ao:AOp) (e:Env) (m:Mem) (K:AV->Prop):Prop:=
 match evD ao e m with
 | some ⟨ok,v,none⟩=>cH ok (K v) False
 | _=>False
def vcPOp (o:AOpr) (e:Env) (m:Mem) (K:Env->Prop):Prop:=
  match o.guard with
  | none=>vcP o.op e m fun v=>putK e o.dst v K
  | some (t, want) => match e.get t with
    | .bool b=>cH (b == want) (Env.setK 12 e t (.bool want) fun e=>vcP o.op e m fun v=>putK e o.dst v K) (Env.setK 12 e t (.bool (!want)) fun e=>putK e o.dst (.tup []) K)
    | .tup [] =>putK e o.dst (.tup []) K
    | _=>False
noncomputable def vcPOps (l:List AOpr):Env->Mem->(Env->Prop)->Prop:=
 List.rec (motive:=fun _=>Env->Mem->(Env->Prop)->Prop) (fun e _ K=>K e) (fun o _ ih e m K=>vcPOp o e m fun e=>ih e m K) l
def chkDraw (P:Program) (n:Nat) (ops:Array Oper):List AOpr->Nat->Array Bool->Bool
 | [],_,listed=>(Region.ready .any ops listed).isEmpty
 | ao::r,i,listed=>(match ops[i]? with | some o=>kW P n ops o ao | none=>false) &&
  (Region.free .any ops listed i && ((Region.ready .any ops listed).contains i && chkDraw P n ops r (i+1) (listed.setIfInBounds i true)))
section
variable {P:Program} {C:Ctx} {m:Mem} {w:World} {L:Lay} {e:Env} {a:Act} {o:Oper} {n:Nat}
theorem vcPOp_sound (hrel:Rel C n e m a w L) {ops:Array Oper} {ao:AOpr} (hc:kW P n ops o ao=true) {K:Env->Prop} (hvc:vcPOp ao e m K):
 ∃ v e',YieldsIf P ops (fun w'=>w'=w) o v a/\K e'/\Rel C n e' m (a.put o.dst v) w L:=by
 obtain⟨hn,hdf,hR,hE⟩:=hrel
 simp only [kW,Bool.and_eq_true]at hc
 obtain⟨hd,hg,hop⟩:=hc
 have hdst:o.dst=ao.dst/\∀ d',ao.dst=some d'->d'<n:=by
  unfold dstOk at hd
  split at hd
  · rename_i h1 h2;rw [h1,h2];exact⟨rfl,fun _ h=>by cases h⟩
  · rename_i d d' h1 h2
    simp only [Bool.and_eq_true,beq_iff_eq,Nat.blt_eq]at hd
    obtain⟨rfl,hlt⟩:=hd
    rw [h1,h2]
    exact⟨rfl,fun _ h=>by cases h;exact hlt⟩
  · cases hd
 obtain⟨hde,hdlt⟩:=hdst
 have hrun:∀ {e:Env},ERel C e m a w L->vcP ao.op e m (fun v=>putK e ao.dst v K)->∃ v e',(execOp a.eval o).run P w= .ok (.value v) w/\K e'/\Rel C n e' m (a.put o.dst v) w L:=by
  intro e hE h
  unfold vcP at h
  split at h
  · rename_i ok v hev
    obtain⟨hok,hk⟩:=cC h
    rw [iB]at hk
    obtain⟨r,w',L',_,h1,h2,h3,h4⟩:=gP hR hE hop hev hok
    obtain⟨rfl,rfl,hr⟩:=h4 rfl
    refine⟨r,_,hr,hk,by rw [kT];exact hn,by rw [put_defers];exact hdf,hR,?_⟩
    rw [hde];exact hE.put hn hdlt h3
  · exact h.elim
 unfold vcPOp at hvc
 unfold guardOk at hg
 split at hg
 · rename_i h1 h2
   rw [h2]at hvc
   simp only at hvc
   obtain⟨v,e',g1,g2,g3⟩:=hrun hE hvc
   exact⟨v,e',.inl ⟨by simp [Region.wanted,h1],fun w' hw'=>by subst hw';exact g1⟩,g2,g3⟩
 · rename_i j b t b' h1 h2
   rw [h2]at hvc
   simp only at hvc
   simp only [Bool.and_eq_true,beq_iff_eq]at hg
   obtain⟨rfl,hg⟩:=hg
   split at hg
   · rename_i oj hoj
     split at hg
     · rename_i d hd
       have:d=t:=by simpa using hg
       subst this
       split at hvc
       · rename_i bb hbb
         have hy:yielded ops a.tmps j=some bb:=by
          simp [yielded,hoj,hd,qB hE hbb]
         have hw:Region.wanted o (yielded ops a.tmps)=(bb == b):=by
          simp only [Region.wanted,h1,hy]
          cases bb <;> cases b <;> rfl
         have hval:a.tmps.getD d undef= .bool bb:=by rw [Array.getD_eq_getD_getElem?,qB hE hbb];rfl
         rcases kI hvc with⟨hb,hv⟩ | ⟨hb,hv⟩
         · rw [Env.setK_eq]at hv
           obtain⟨v,e',g1,g2,g3⟩:=hrun (hE.refine (by rw [hval,beq_iff_eq.1 hb];exact .bool _)) hv
           exact⟨v,e',.inl ⟨by rw [hw];exact hb,fun w' hw'=>by subst hw';exact g1⟩,g2,g3⟩
         · rw [Env.setK_eq,iB]at hv
           have hE':ERel C (e.set d (.bool (!b))) m a w L:=hE.refine (by
            rw [hval]
            have:bb= !b:=by cases bb <;> cases b <;> simp at hb ⊢
            rw [this];exact .bool _)
           refine⟨undef,_,.inr ⟨by rw [hw,hb],rfl⟩,hv,by rw [kT];exact hn,by rw [put_defers];exact hdf,hR,?_⟩
           rw [hde];exact hE'.put hn hdlt kR
       · rename_i hbb
         have hw:Region.wanted o (yielded ops a.tmps)=false:=by
          simp only [Region.wanted,h1,mN hoj hd (undef_of hE hbb)]
          rfl
         rw [iB]at hvc
         refine⟨undef,_,.inr ⟨hw,rfl⟩,hvc,by rw [kT];exact hn,by rw [put_defers];exact hdf,hR,?_⟩
         rw [hde];exact hE.put hn hdlt kR
       · exact hvc.elim
     · cases hg
   · cases hg
 · cases hg
theorem wJ {ops:Array Oper} (hs:Region.noSelect ops=true) {Q:Act->World->Prop}:∀ (al:List AOpr) (i:Nat) (listed:Array Bool) {e:Env} {a:Act} {K:Env->Prop},chkDraw P n ops al i listed=true->Rel C n e m a w L->vcPOps al e m K->
    (∀ e' a',K e'->Rel C n e' m a' w L->Q a' w)->wpAnyH P .any ops (fun x a w=>x= .normal/\Q a w) (fun w'=>w'=w) al.length listed a w
  | [], i, listed, e, a, K, hc, hrel, hvc, hK => by
    simp only [chkDraw,List.isEmpty_iff]at hc
    exact wpAnyH_done hc ⟨rfl,hK _ _ hvc hrel⟩ _
  | ao :: al, i, listed, e, a, K, hc, hrel, hvc, hK => by
    simp only [chkDraw,Bool.and_eq_true]at hc
    obtain⟨h1,h2,h3,h4⟩:=hc
    split at h1
    case h_2=>cases h1
    rename_i o ho
    obtain⟨v,e',g1,g2,g3⟩:=vcPOp_sound hrel h1 hvc
    refine wpAnyH_take ho hs h2 h3 (fun c a w h=>by cases h.1) g1 rfl ?_
    exact wJ hs al (i+1) _ h4 g3 g2 hK
end
noncomputable def DK0:DrawKit where
 chk P n ops l _:=Region.noSelect ops && (l.length == ops.size && chkDraw P n ops l 0 (Array.replicate ops.size false))
 vc _ l _ e m K:=vcPOps l e m fun e=>K e m
 sound:=by
  intro P n ops l ord id hm hc C e m a w L K hrel hvc Q hQ
  simp only [Bool.and_eq_true,beq_iff_eq]at hc
  obtain⟨h1,h2,h3⟩:=hc
  have hrel':Rel C n e m a {w with drawn:=w.drawn+1} L:=⟨hrel.size,hrel.defers,hrel.mem.drawn _,hrel.env⟩
  refine Code.wp_mono (Q:=fun x a' w'=>x= .normal/\Q .normal a' w') (by rintro x a' w' ⟨rfl,h⟩;exact h) ?_
  refine wp_region_held hm (S:=fun w'=>w'= {w with drawn:=w.drawn+1}) ?_
  rw [<- h2]
  rw [<- h2]at h3
  exact wJ h1 l 0 _ h3 hrel' hvc (fun e' a' hk hr=>hQ _ _ _ _ _ hk hr)
def ndB:List (Option Nat)->Bool
 | [] =>true
 | none::r=>ndB r
 | some l::r=> !(r.contains (some l)) && ndB r
theorem ndB_spec:∀ {src:List (Option Nat)},ndB src=true->∀ i j l,src.getD i none=some l->src.getD j none=some l->i=j
  | [],_,i,j,l,h1,_=>by simp at h1
  | none :: r, h, i, j, l, h1, h2 => by
    cases i with
    | zero=>simp at h1
    | succ i => cases j with
      | zero=>simp at h2
      | succ j=>rw [ndB_spec (src:=r) h i j l (by simpa using h1) (by simpa using h2)]
  | some q :: r, h, i, j, l, h1, h2 => by
    simp only [ndB,Bool.and_eq_true,Bool.not_eq_true']at h
    have hmem:∀ {k},r.getD k none=some q->False:=fun {k} hk=>by
      have:some q ∈ r:=by
        rw [List.getD_eq_getElem?_getD]at hk
        cases hr:r[k]? with
        | none=>rw [hr]at hk;simp at hk
        | some x=>rw [hr]at hk;simp at hk;subst hk;exact List.mem_of_getElem? hr
      have h3:=h.1
      simp at h3
      exact h3 this
    cases i with
    | zero => cases j with
      | zero=>rfl
      | succ j =>
        have:q=l:=by simpa using h1
        subst this
        exact(hmem (by simpa using h2)).elim
    | succ i => cases j with
      | zero =>
        have:q=l:=by simpa using h2
        subst this
        exact(hmem (by simpa using h1)).elim
      | succ j=>rw [ndB_spec (src:=r) h.2 i j l (by simpa using h1) (by simpa using h2)]
theorem Wk.mk0 {e:Env} {m:Mem} {l':List (Nat × AV)} {m':Mem} {src:List (Option Nat)} (h1:EnvW (fun l=>src.getD l none) e l') (h2:BWs false (fun l=>src.getD l none) m 0 m') (h3:src.length=m'.length) (h4:ndB src=true):Wk 0 e m l' m' src:=
 ⟨h1,h2,h3,ndB_spec h4,fun i hi=>absurd hi (Nat.not_lt_zero _)⟩
theorem aA {b:Bool} {p q:Prop} (hp:b=true->p) (hq:b=false->q):cH b p q:=by cases b;exact hq rfl;exact hp rfl
theorem aE {b:Bool} {p:Prop} (h:b=true) (hp:p):cH b p False:=by subst h;exact hp
theorem qA {n:Nat} {g:Nat->Nat->AV} {p i:Nat} {v:AV}:updG ⟨1,n,g⟩ p 0 1 [v] i 0=if i=p then v else g i 0:=by
 unfold updG
 simp only [show Nat.ble (0+1) 1=true from rfl,show Nat.ble 0 0=true from rfl,show Nat.blt 0 (0+1)=true from rfl,cond_true,iM,Bool.and_true]
 by_cases h:i=p
 · subst h;simp
 · simp [h,show (i == p)=false by simpa using h]
end Go.Wit
end

section
namespace Go.Wit
open Go.RowKit
theorem law_calls {P:Program} {f:FuncId} {args:List AV} {cargs:Array Value} {W:World} {v:AV} {r:Value} (h:ACall P f args [] (fun x _=>x=v)) (hv:VRs W.heap (fun _=>none) (fun _=>False) args cargs.toList)
 (hr:∀ h L O c,VR h L O v c->c=r):Calls P f cargs W fun e W'=>e= .returned r/\Below W.heap.size W W':=by
 let C:Ctx:=⟨fun _=>False,W,fun _=>False,fun _=>none,0⟩
 have hR:MRel C [] W (fun _=>none):=⟨rfl,rfl,rfl,Nat.le_refl _,fun _ _ _=>rfl,fun _ _=>rfl,fun l b hl=>by simp at hl,fun l l' b b' e e' hl=>by simp at hl,fun l hl=>absurd hl (Nat.not_lt_zero _),fun b hb=>hb.elim,fun b hb=>by
  obtain⟨l,blk,e,h1,_⟩:=hb;simp at h1⟩
 have hO:∀ b,¬ OO C [] (fun _=>none) b:=by
  rintro b (hb | ⟨l,blk,e,h1,_⟩)
  · exact hb
  · simp at h1
 refine(h.run C W (fun _=>none) cargs hR (hv.ext ⟨fun _ _ h=>h,fun _ _ _=>rfl,fun b _ _=>hO b⟩)).mono ?_
 rintro e W' ⟨x,m',c,L',rfl,rfl,hM,hc,_⟩
 exact⟨by rw [hr _ _ _ _ hc],hM.os,hM.tape,hM.output,hM.size,fun k hk=>hM.frame k hk (fun h=>h)⟩
theorem law_true {P:Program} {f:FuncId} {args:List AV} {cargs:Array Value} {W:World} (h:ACall P f args [] (fun x _=>x= .bool true)) (hv:VRs W.heap (fun _=>none) (fun _=>False) args cargs.toList):
 Calls P f cargs W fun e W'=>e= .returned (.bool true)/\Below W.heap.size W W':=
 law_calls h hv (fun h L O c hc=>by cases hc;rfl)
end Go.Wit
end

