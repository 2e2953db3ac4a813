/- Texts of a proof, one behind the other; the last of these: What a dealer disputes, and its share of the key; no condition. -/
import Derived.Test.YtfolpdmbpbbimaaGreatZ9
set_option linter.unusedVariables false
set_option linter.unusedSimpArgs false
set_option maxRecDepth 100000
section
namespace Go.Proofs.YtfolpdmbpbbimaaGreat
open Go Go.Wit
theorem S_be40 (i:Nat) (hi:i<4294967296):ACall Pg gO [.int .i64 i] [] (fun v m'=>∃ n' f',(n'=4/\f'=beF (i:Nat) 4)/\RetB n' f' v m'):=by
 refine zU ⟨rfl,?_⟩
 conv=>whnf
 repeat (refine⟨⟨_,rfl⟩,?_⟩;conv=>whnf)
 refine⟨4,_,⟨rfl,rfl⟩,.inr ⟨0,_,4,_,rfl,rfl,Nat.le_refl _,fun j hj=> ?_⟩⟩
 rcases(show j=0\/j=1\/j=2\/j=3 by omega)with rfl | rfl | rfl | rfl
 · exact congrArg (AV.int .u8) (wu8 (i:Nat) (k:=0) (s:=4) (i:=0) (by omega) rfl)
 · exact congrArg (AV.int .u8) (wu8 (i:Nat) (k:=0) (s:=4) (i:=1) (by omega) rfl)
 · exact congrArg (AV.int .u8) (wu8 (i:Nat) (k:=0) (s:=4) (i:=2) (by omega) rfl)
 · refine congrArg (AV.int .u8) (Eq.trans ?_ (wu8 (i:Nat) (k:=0) (s:=4) (i:=3) (e:=0) (by omega) rfl))
   rw [show ((2:Int) ^ 0)=1 from rfl,Int.fdiv_one]
theorem S_be4 {m:Mem} {K:AV->Mem->Prop} {i:Nat} (hi:i<4294967296) (hK:∀ cap,memK (m++ [some ⟨1,4,aB (beF (i:Nat) 4)⟩]) (K (.sl m.length 0 4 cap))):ACall Pg gO [.int .i64 i] m K:=by
 simp only [cU]at hK
 refine gU (S_be40 i hi) (.cons _ _ _ _ aG .nil) ?_
 rintro n' f' cap ⟨rfl,rfl⟩
 exact hK cap
theorem S_RSecret0 (n cap:Nat) (f:Nat->Int) (hn:n<=16384) (hf:∀ i,i<n->0<=f i/\f i<=255):ACall Pg cP [.vsl 1 n cap (aB f)] [] (fun v _=>v=numA (secN n f)/\Flat true v):=by
 refine tI ⟨rfl,?_⟩
 conv=>whnf
 repeat (refine⟨⟨_,rfl⟩,?_⟩;conv=>whnf)
 refine vE (s:=seB) (r:=1) (N:=fun _=>n) (F:=fun _=>f) (fP.sl rfl (Nat.le_of_eq (Nat.zero_add _)) fun j hj=> ?_) (by decide) (by decide) (fun j hj=>by omega) (fun j hj k hk=>hf k hk) (fun _ a ha ha1=> ?_) (fun h2=> ?_)
 · obtain rfl:j=0:=by omega
   exact aM.vsl
 · conv=>whnf
   repeat (refine⟨⟨_,rfl⟩,?_⟩;conv=>whnf)
   refine S_rone (Nat.lt_trans ha1 (by decide)) ?_
   obtain rfl:=ha
   conv=>whnf
   repeat (refine⟨⟨_,rfl⟩,?_⟩;conv=>whnf)
   exact⟨rfl,aL⟩
 · exfalso;rw [nT1]at h2;change 65536<4+6+(4+n)at h2;omega
theorem rO {m:Mem} {x:AV} {K:AV->Mem->Prop} {n:Nat} {f:Nat->Int} (hx:aM m x n f) (hn:n<=16384) (hf:∀ i,i<n->0<=f i/\f i<=255) (h:∀ s,s=secN n f->s<nN->s ≠ 0->K (numA s) m):ACall Pg cP [x] m K:=by
 obtain⟨cap,hl⟩:=hx
 refine aC (S_RSecret0 n cap f hn hf) (.cons _ _ _ _ hl .nil) ?_
 rintro v rfl
 exact h _ rfl secN_lt secN_ne
theorem S_nonce0 (n cap i:Nat) (f:Nat->Int) (hn:n<=16384) (hf:∀ i,i<n->0<=f i/\f i<=255) (hi:i<4294967296):ACall Pg gZ [.vsl 1 n cap (aB f),.int .i64 i] [] (fun v _=>v=numA (drwN noB n f i)/\Flat true v):=by
 refine vK ⟨rfl,?_⟩
 conv=>whnf
 repeat (refine⟨⟨_,rfl⟩,?_⟩;conv=>whnf)
 refine S_be4 (i:=i) hi (fun c2=> ?_)
 conv=>whnf
 repeat (refine⟨⟨_,rfl⟩,?_⟩;conv=>whnf)
 refine vE (s:=noB) (r:=2) (N:=pr2 n 4) (F:=pr2 f (beF (i:Nat) 4)) (fP.sl rfl (Nat.le_of_eq (Nat.zero_add _)) fun j hj=> ?_) (by decide) (by decide) (fun j hj=> ?_) (fun j hj k hk=> ?_) (fun _ a ha ha1=> ?_) (fun h=> ?_)
 · rcases(show j=0\/j=1 by omega)with rfl | rfl
   · exact aM.vsl
   · exact aM.slG rfl (Nat.le_of_eq (Nat.zero_add _)) (fun j hj=>by rw [Nat.zero_add];rfl)
 · rcases(show j=0\/j=1 by omega)with rfl | rfl
   · show n<=1000000;omega
   · show 4<=1000000;omega
 · rcases(show j=0\/j=1 by omega)with rfl | rfl
   · exact hf k hk
   · exact beF_lt
 rotate_left
 · exfalso
   have hsz:ByteArray.size noB<=10:=by decide
   rw [nT2]at h
   omega
 obtain rfl:a=drwN noB n f i:=ha
 conv=>whnf
 repeat (refine⟨⟨_,rfl⟩,?_⟩;conv=>whnf)
 exact⟨rfl,aL⟩
theorem S_nonce {m:Mem} {x:AV} {K:AV->Mem->Prop} {n i:Nat} {f:Nat->Int} (hx:aM m x n f) (hn:n<=16384) (hf:∀ i,i<n->0<=f i/\f i<=255) (hi:i<4294967296) (h:∀ a,a=drwN noB n f i->a<nN->K (numA a) m):ACall Pg gZ [x,.int .i64 i] m K:=by
 obtain⟨cap,hl⟩:=hx
 refine aC (S_nonce0 n cap i f hn hf hi) (.cons _ _ _ _ hl (.cons _ _ _ _ aG .nil)) ?_
 rintro v rfl
 exact h _ rfl drwN_lt
theorem S_roneV {m:Mem} {K:AV->Mem->Prop} {a:Nat} (ha:a<w256) (h:∀ b,b=nX a->K (numA b) m):ACall Pg eU [numA a] m K:=S_rone ha (h _ rfl)
theorem S_RPoly0 (n cap t:Nat) (f:Nat->Int) (hn:n<=16384) (ht:t<64) (hf:∀ i,i<n->0<=f i/\f i<=255):ACall Pg fQ [.vsl 1 n cap (aB f),.int .i64 t] []
 (fun v m'=>∃ n' G,(n'=t+1/\G=cV (coN n f))/\RetG 4 n' G v m'):=by
 obtain⟨c,hc⟩ :∃ c:Nat->Nat,c=coN n f:=⟨_,rfl⟩
 rw [<- hc]
 refine xL ⟨rfl,?_⟩
 conv=>whnf
 repeat (refine⟨⟨_,rfl⟩,?_⟩;conv=>whnf)
 refine aU aH (I:=fun q l m=>∃ (k c':Nat),l= [(0,.vsl 1 n cap (aB f)),(1,.int .i64 t),(5,.sl 0 0 k c'),(6,.int .i64 k)] /\ m= [some ⟨4,k,cV c⟩] /\ q+k=t+1) (t+1)
  (l0:= [(0,.vsl 1 n cap (aB f)),(1,.int .i64 t),(5,.sl 0 0 0 0),(6,.int .i64 (0:Nat))]) (m0:= [some ⟨4,0,cV c⟩]) [none] ⟨0,0,rfl,rfl,by omega⟩ ?_ ?_
 · exact .mk0 ⟨.eq _ _ rfl aW,Flat.i rfl,.nils _ _,Flat.i rfl,trivial⟩ ⟨.ph _ _ _ rfl,trivial⟩ rfl rfl
 · rintro q l m ⟨k,c',rfl,rfl,hq⟩
   conv=>whnf
   repeat (refine⟨⟨_,rfl⟩,?_⟩;conv=>whnf)
   refine aE (fun hb=> ?_) (fun hb=> ?_)
   · have hb:k<t+1:=by simp at hb;omega
     have e5:IntKind.i64.wrap ((k:Int)+1)=((k+1:Nat):Int):=by rw [w64 (by omega) (by omega)];omega
     conv=>whnf
     repeat (refine⟨⟨_,rfl⟩,?_⟩;conv=>whnf)
     refine S_be4 (i:=k) (by omega) (fun c2=> ?_)
     conv=>whnf
     repeat (refine⟨⟨_,rfl⟩,?_⟩;conv=>whnf)
     refine vE (s:=plB) (r:=2) (N:=pr2 n 4) (F:=pr2 f (beF (k:Nat) 4)) (fP.sl rfl (Nat.le_of_eq (Nat.zero_add _)) fun j hj=> ?_) (by decide) (by decide) (fun j hj=> ?_) (fun j hj k hk=> ?_) (fun _ a ha ha1=> ?_) (fun h=> ?_)
     · rcases(show j=0\/j=1 by omega)with rfl | rfl
       · exact aM.vsl
       · exact aM.slG rfl (Nat.le_of_eq (Nat.zero_add _)) (fun j hj=>by rw [Nat.zero_add];rfl)
     · rcases(show j=0\/j=1 by omega)with rfl | rfl
       · show n<=1000000;omega
       · show 4<=1000000;omega
     · rcases(show j=0\/j=1 by omega)with rfl | rfl
       · exact hf k hk
       · exact beF_lt
     rotate_left
     · exfalso
       have hsz:ByteArray.size plB<=10:=by decide
       rw [nT2]at h
       omega
     conv=>whnf
     repeat (refine⟨⟨_,rfl⟩,?_⟩;conv=>whnf)
     refine aE (fun h0=> ?_) (fun h0=> ?_)
     · have h0:k=0:=by simp at h0;omega
       conv=>whnf
       repeat (refine⟨⟨_,rfl⟩,?_⟩;conv=>whnf)
       refine S_roneV (a:=a) (Nat.lt_trans ha1 (by decide)) (fun b hb'=> ?_)
       have hco:b=c k:=by rw [hb',hc,ha,h0];unfold coN;rw [if_pos rfl];rfl
       conv=>whnf
       repeat (refine⟨⟨_,rfl⟩,?_⟩;conv=>whnf)
       refine aA (cH (by first | rfl | simp) rfl rfl (by omega) (by omega)) (fun cap' hcap=> ?_)
       conv=>whnf
       repeat (refine⟨⟨_,rfl⟩,?_⟩;conv=>whnf)
       refine⟨q - 1,[(0,.vsl 1 n cap (aB f)),(1,.int .i64 t),(5,.sl 0 0 (k+1) cap'),(6,.int .i64 ((k+1:Nat):Int))],[some ⟨4,k+1,cV c⟩],[some 5],by omega,⟨k+1,cap',rfl,rfl,by omega⟩,?_⟩
       refine .mk0 ⟨.eq _ _ rfl aW,Flat.i rfl,.sl _ _ _ _ _ rfl,Flat.i e5,trivial⟩ ⟨.old 0 5 _ _ rfl rfl ⟨rfl,Nat.le_refl _,fun i j hi hj=> ?_⟩,trivial⟩ rfl rfl
       dsimp only at hi hj ⊢
       refine num_row hi hj hco rfl (fun j hj=> ?_)
       rcases(show j=0\/j=1\/j=2\/j=3 by omega)with rfl | rfl | rfl | rfl <;> rfl
     · have h0:¬ k=0:=by simp at h0;omega
       have hco:a=c k:=by rw [hc,ha];unfold coN;rw [if_neg h0];rfl
       conv=>whnf
       repeat (refine⟨⟨_,rfl⟩,?_⟩;conv=>whnf)
       refine aA (cH (by first | rfl | simp) rfl rfl (by omega) (by omega)) (fun cap' hcap=> ?_)
       conv=>whnf
       repeat (refine⟨⟨_,rfl⟩,?_⟩;conv=>whnf)
       refine⟨q - 1,[(0,.vsl 1 n cap (aB f)),(1,.int .i64 t),(5,.sl 0 0 (k+1) cap'),(6,.int .i64 ((k+1:Nat):Int))],[some ⟨4,k+1,cV c⟩],[some 5],by omega,⟨k+1,cap',rfl,rfl,by omega⟩,?_⟩
       refine .mk0 ⟨.eq _ _ rfl aW,Flat.i rfl,.sl _ _ _ _ _ rfl,Flat.i e5,trivial⟩ ⟨.old 0 5 _ _ rfl rfl ⟨rfl,Nat.le_refl _,fun i j hi hj=> ?_⟩,trivial⟩ rfl rfl
       dsimp only at hi hj ⊢
       refine num_row hi hj hco rfl (fun j hj=> ?_)
       rcases(show j=0\/j=1\/j=2\/j=3 by omega)with rfl | rfl | rfl | rfl <;> rfl
   · have hb:k=t+1:=by simp at hb;omega
     subst hb
     conv=>whnf
     repeat (refine⟨⟨_,rfl⟩,?_⟩;conv=>whnf)
     exact⟨t+1,cV c,⟨rfl,rfl⟩,.inr ⟨0,c',t+1,_,rfl,rfl,Nat.le_refl _,fun _ _ _ _=>rfl⟩⟩
theorem S_RPoly {m:Mem} {x:AV} {K:AV->Mem->Prop} {n t:Nat} {f:Nat->Int} (hx:aM m x n f) (hn:n<=16384) (ht:t<64) (hf:∀ i,i<n->0<=f i/\f i<=255)
 (h:∀ c cap,c=coN n f->(∀ i,c i<nN)->c 0 ≠ 0->memK (m++ [some ⟨4,t+1,cV c⟩]) (K (.sl m.length 0 (t+1) cap))):ACall Pg fQ [x,.int .i64 t] m K:=by
 simp only [cU]at h
 obtain⟨cap,hl⟩:=hx
 refine lift_G (S_RPoly0 n cap t f hn ht hf) (fun n' G hR i j _ _=>by rw [hR.2];exact aV) (.cons _ _ _ _ hl (.cons _ _ _ _ aG .nil)) ?_
 rintro n' G cap' ⟨rfl,rfl⟩
 exact h _ cap' rfl (fun i=>coN_lt) coN_ne
theorem vA {m:Mem} {K:AV->Mem->Prop} {v w:AV} {n:Nat} {P:Pt Fp} (hv:v=numA n) (hw:w=ptA P) (hn:n<w256) (oP:On P) (h:∀ Q,On Q->Q=nmul n P->K (ptA Q) m):ACall Pg bD [v,w] m K:=by
 subst hv hw;exact T_rTimes2 hn oP h
theorem S_RProveE {m:Mem} {K:AV->Mem->Prop} {v w u:AV} {s k:Nat} {b:Pt Fp} (hv:v=numA s) (hw:w=numA k) (hu:u=ptA b) (hs:s<w256) (hk:k<w256) (ob:On b) (h:∀ c r,c=prfC s k b->r=prfR s k c->c<nN->r<nN->K (prA c r) m):ACall Pg fD [v,w,u] m K:=by
 subst hv hw hu;exact S_RProve hs hk ob h
end Go.Proofs.YtfolpdmbpbbimaaGreat
end

section
namespace Go.Proofs.YtfolpdmbpbbimaaGreat
open Go Go.Wit
theorem plOk_no {i j:Int} (h:¬ (1<=i/\i<=8/\1<=j/\j<=8/\i ≠ j)):plOk i j=false:=by
 cases h2:plOk i j with
 | false=>rfl
 | true=>have:=lW h2;exact absurd ⟨this.1,this.2.1,this.2.2.1,this.2.2.2.1,this.2.2.2.2.1⟩ h
theorem plOk_yes {i j:Int} (h1:1<=i) (h2:i<=8) (h3:1<=j) (h4:j<=8) (h5:i ≠ j):plOk i j=true:=by
 simp [plOk,isD,h1,h2,h3,h4,h5]
theorem S_RPlace0 (i j:Int):ACall Pg fC [.int .i64 i,.int .i64 j] [] (fun v _=>((plOk i j=true/\v= .int .i64 (plN i j))\/(plOk i j=false/\v= .int .i64 (-1)))/\Flat true v):=by
 refine vM ⟨rfl,?_⟩
 conv=>whnf
 repeat (refine⟨⟨[],rfl⟩,?_⟩;conv=>whnf)
 refine aE (fun h1=> ?_) (fun h1=> ?_)
 rotate_left
 · have h1:=nL h1
   conv=>whnf
   repeat (refine⟨⟨[],rfl⟩,?_⟩;conv=>whnf)
   exact⟨.inr ⟨plOk_no (by omega),rfl⟩,.int _ _⟩
 have h1:=mX h1
 conv=>whnf
 repeat (refine⟨⟨[],rfl⟩,?_⟩;conv=>whnf)
 refine aE (fun h2=> ?_) (fun h2=> ?_)
 rotate_left
 · have h2:=nL h2
   conv=>whnf
   repeat (refine⟨⟨[],rfl⟩,?_⟩;conv=>whnf)
   exact⟨.inr ⟨plOk_no (by omega),rfl⟩,.int _ _⟩
 have h2:=mX h2
 conv=>whnf
 repeat (refine⟨⟨[],rfl⟩,?_⟩;conv=>whnf)
 refine aE (fun h3=> ?_) (fun h3=> ?_)
 rotate_left
 · have h3:=nL h3
   conv=>whnf
   repeat (refine⟨⟨[],rfl⟩,?_⟩;conv=>whnf)
   exact⟨.inr ⟨plOk_no (by omega),rfl⟩,.int _ _⟩
 have h3:=mX h3
 conv=>whnf
 repeat (refine⟨⟨[],rfl⟩,?_⟩;conv=>whnf)
 refine aE (fun h4=> ?_) (fun h4=> ?_)
 rotate_left
 · have h4:=nL h4
   conv=>whnf
   repeat (refine⟨⟨[],rfl⟩,?_⟩;conv=>whnf)
   exact⟨.inr ⟨plOk_no (by omega),rfl⟩,.int _ _⟩
 have h4:=mX h4
 conv=>whnf
 repeat (refine⟨⟨[],rfl⟩,?_⟩;conv=>whnf)
 refine aE (fun h5=> ?_) (fun h5=> ?_)
 · have h5:i=j:=by simpa using h5
   conv=>whnf
   repeat (refine⟨⟨[],rfl⟩,?_⟩;conv=>whnf)
   exact⟨.inr ⟨plOk_no (by omega),rfl⟩,.int _ _⟩
 have h5:¬ i=j:=by simpa using h5
 have hok:plOk i j=true:=plOk_yes (by omega) (by omega) (by omega) (by omega) h5
 conv=>whnf
 repeat (refine⟨⟨[],rfl⟩,?_⟩;conv=>whnf)
 refine aE (fun h2=> ?_) (fun h2=> ?_)
 · have h2:=of_decide_eq_true h2
   conv=>whnf
   repeat (refine⟨⟨[],rfl⟩,?_⟩;conv=>whnf)
   refine⟨.inl ⟨hok,?_⟩,.int _ _⟩
   rw [w64 (by omega) (by omega)]
   unfold plN;rw [if_pos h2]
 · have h2:=of_decide_eq_false h2
   conv=>whnf
   repeat (refine⟨⟨[],rfl⟩,?_⟩;conv=>whnf)
   refine⟨.inl ⟨hok,?_⟩,.int _ _⟩
   rw [w64 (by omega) (by omega)]
   unfold plN;rw [if_neg h2]
theorem S_RPlace {m:Mem} {K:AV->Mem->Prop} {i j:Int} (h1:plOk i j=true->∀ p,p=plN i j->K (.int .i64 p) m) (h2:plOk i j=false->K (.int .i64 (-1)) m):ACall Pg fC [.int .i64 i,.int .i64 j] m K:=by
 refine aC (S_RPlace0 i j) (.cons _ _ _ _ aG (.cons _ _ _ _ aG .nil)) ?_
 rintro v (⟨h,rfl⟩ | ⟨h,rfl⟩)
 · exact h1 h _ rfl
 · exact h2 h
theorem S_RPtsD {m:Mem} {K:AV->Mem->Prop} {v:AV} {d:Dl} {c:Nat} (hv:v= .vsl 9 d.nc c (cW d.I d.X d.Y)) (hd:OkD d) (h1:comP d->K (.bool true) m) (h2:¬ comP d->K (.bool false) m):ACall Pg bW [v] m K:=by
 subst hv
 by_cases h:comP d
 · exact S_rPoints (P:=cmP d) (aO.raws fun i hi=>rawL_of (cmP_on h i hi).2) (fun i hi=>(cmP_on h i hi).1) (by have:=hd.2.2.2.2.2.2.2.2;omega) (h1 h)
 · obtain⟨b,hb,hbad⟩:=exBad h
   exact S_rPoints_bad (n:=d.nc) (I:=d.I) (X:=d.X) (Y:=d.Y) (.vsl fun i j _ _=>qZ) hd.2.2.2.2.1 hd.2.2.2.2.2.1 hb hbad (by have:=hd.2.2.2.2.2.2.2.2;omega) (h2 h)
theorem S_RFitsD {m:Mem} {K:AV->Mem->Prop} {v w:AV} {d:Dl} {c x y:Nat} (hv:v= .vsl 9 d.nc c (cW d.I d.X d.Y)) (hw:w=numA x) (hd:comP d) (hn:d.nc<=64) (hx:x<w256) (hy:y<w256)
 (h:∀ b:Bool,(b=true ↔ nmul y gG=polyP (cmP d) x d.nc)->K (.bool b) m):ACall Pg fS [v,w,numA y] m K:=by
 subst hv hw
 refine S_RFits (P:=cmP d) (aO.raws fun i hi=>rawL_of (cmP_on hd i hi).2) hx hy (fun i hi=>(cmP_on hd i hi).1) (by omega) (fun e=>h true (by simp [e])) (fun e=>h false (by simp [e]))
theorem S_ROpenPt {m:Mem} {K:AV->Mem->Prop} {v w:AV} {P:Pt Fp} {a b:Int} {f:Nat->Int} (hv:v=ptA P) (hw:w= .agg (rowL f)) (oP:On P) (ha:isD a=true) (hb:isD b=true) (hf:∀ i,i<32->0<=f i/\f i<=255) (h:∀ n,n=ofZ (tnF P a b f)->n<w256->K (numA n) m):ACall Pg dY [v,.int .i64 a,.int .i64 b,w] m K:=by
 subst hv hw
 exact S_ROpen ha hb hf fun n hn=>h n hn (by rw [hn];exact ofZ_lt (fun i _=>jQ _ _))
theorem S_RInt {m:Mem} {K:AV->Mem->Prop} {i:Nat} (hi:i<1000000) (h:K (numA i) m):ACall Pg eV [.int .i64 (i:Int)] m K:=by
 have h0:ACall Pg eV [.int .i64 (i:Int)] [] (fun v _=>v=numA i/\Flat true v):=by
  refine zX ⟨rfl,?_⟩
  conv=>whnf
  repeat (refine⟨⟨[],rfl⟩,?_⟩;conv=>whnf)
  have e:IntKind.u64.wrap (i:Int)=((i:Nat):Int):=by rw [wu64];omega
  have g:AV.agg [.int .u64 (IntKind.u64.wrap (i:Int)),.int .u64 0,.int .u64 0,.int .u64 0] = numA i:=by
   rw [e]
   have:=bA (a:=i) (b:=0) (c:=0) (d:=0) (by omega) (by decide) (by decide) (by decide)
   rw [show comb i 0 0 0=i by unfold comb;omega]at this
   rw [this];rfl
  refine⟨g,?_⟩
  exact Eq.mpr (congrArg (Flat true) g) aL
 refine aC h0 (.cons _ _ _ _ aG .nil) ?_
 rintro v rfl
 exact h
theorem S_RJFits0 (r cap:Nat) (d1 d2:Nat->Nat) (D:Nat->Dl) (i j:Int) (ki:Bool) (kx ky:Nat) (hr:r<=1000000) (hD:∀ k,k<r->OkD (D k)) (hkx:kx<w256) (hky:ky<w256):
 ACall Pg iL [.vsl 26 r cap (dlG D d1 d2),.int .i64 i,.int .i64 j,rawA ki kx ky] [] (fun v _=>(∃ b e,FitE r D i j ki kx ky b e/\v= .tup [.bool b,.int .i64 e])/\Flat true v):=by
 refine xM ⟨rfl,?_⟩
 conv=>whnf
 repeat (refine⟨⟨_,rfl⟩,?_⟩;conv=>whnf)
 refine S_RPlace (fun hok p hp=> ?_) (fun hok=> ?_)
 rotate_left
 · conv=>whnf
   repeat (refine⟨⟨_,rfl⟩,?_⟩;conv=>whnf)
   exact⟨⟨false,1,.inl ⟨hok,rfl,rfl⟩,rfl⟩,nP⟩
 obtain⟨hi1,hi8,hj1,hj8,hne,hp0,hp6⟩:=lW hok
 obtain⟨a,rfl⟩ :∃ a:Nat,i=a:=⟨i.toNat,by omega⟩
 obtain⟨c,rfl⟩ :∃ c:Nat,j=c:=⟨j.toNat,by omega⟩
 obtain⟨q,rfl⟩ :∃ q:Nat,p=q:=⟨p.toNat,by omega⟩
 have e1:IntKind.i64.wrap ((a:Int) - 1)=((a - 1:Nat):Int):=by rw [w64 (by omega) (by omega)];omega
 conv=>whnf
 repeat (refine⟨⟨_,rfl⟩,?_⟩;conv=>whnf)
 refine aE (fun h1=> ?_) (fun h1=> ?_)
 rotate_left
 · have h1:=nL h1
   conv=>whnf
   repeat (refine⟨⟨_,rfl⟩,?_⟩;conv=>whnf)
   exact⟨⟨false,5,.inr (.inl ⟨hok,fun h=>absurd h.1 (by omega),rfl,rfl⟩),rfl⟩,nP⟩
 have h1:=mX h1
 conv=>whnf
 repeat (refine⟨⟨_,rfl⟩,?_⟩;conv=>whnf)
 refine aE (fun h2=> ?_) (fun h2=> ?_)
 rotate_left
 · have h2:=nL h2
   conv=>whnf
   repeat (refine⟨⟨_,rfl⟩,?_⟩;conv=>whnf)
   exact⟨⟨false,5,.inr (.inl ⟨hok,fun h=>absurd h.2.1 (by omega),rfl,rfl⟩),rfl⟩,nP⟩
 have h2:=mX h2
 have hd:=hD (a - 1) (by omega)
 have no:¬ posP (D (a - 1)) q->∃ b e,FitE r D (a:Int) (c:Int) ki kx ky b e/\AV.tup [.bool false,.int .i64 5] = .tup [.bool b,.int .i64 e] :=fun hn=>
  ⟨false,5,.inr (.inl ⟨hok,fun h=>hn (by have:=h.2.2;rw [<- hp]at this;exact this),rfl,rfl⟩),rfl⟩
 conv=>whnf
 repeat (refine⟨⟨_,rfl⟩,?_⟩;conv=>whnf)
 rw [e1]
 refine aA (by simp;omega) ?_
 conv=>whnf
 repeat (refine⟨⟨_,rfl⟩,?_⟩;conv=>whnf)
 refine aE (fun h3=> ?_) (fun h3=> ?_)
 rotate_left
 · have h3:(D (a - 1)).ps=false:=by simpa using h3
   conv=>whnf
   repeat (refine⟨⟨_,rfl⟩,?_⟩;conv=>whnf)
   exact⟨no (fun h=>Bool.noConfusion (h3.symm.trans h.1)),nP⟩
 have h3:(D (a - 1)).ps=true:=by simpa using h3
 conv=>whnf
 repeat (refine⟨⟨_,rfl⟩,?_⟩;conv=>whnf)
 rw [e1]
 refine aA (by simp;omega) ?_
 conv=>whnf
 repeat (refine⟨⟨_,rfl⟩,?_⟩;conv=>whnf)
 refine aE (fun h4=> ?_) (fun h4=> ?_)
 rotate_left
 · have h4:(q:Int) >= ((D (a - 1)).ns:Int):=nL h4
   conv=>whnf
   repeat (refine⟨⟨_,rfl⟩,?_⟩;conv=>whnf)
   exact⟨no (fun h=>by have:=h.2.1;omega),nP⟩
 have h4:¬ (q:Int) >= ((D (a - 1)).ns:Int):=mX h4
 conv=>whnf
 repeat (refine⟨⟨_,rfl⟩,?_⟩;conv=>whnf)
 rw [e1]
 refine aA (by simp;omega) ?_
 conv=>whnf
 repeat (refine⟨⟨_,rfl⟩,?_⟩;conv=>whnf)
 refine aE (fun h5=> ?_) (fun h5=> ?_)
 rotate_left
 · have h5:((D (a - 1)).nc:Int) > 64:=nL h5
   conv=>whnf
   repeat (refine⟨⟨_,rfl⟩,?_⟩;conv=>whnf)
   exact⟨no (fun h=>by have:=h.2.2.1;omega),nP⟩
 have h5:¬ ((D (a - 1)).nc:Int) > 64:=mX h5
 conv=>whnf
 repeat (refine⟨⟨_,rfl⟩,?_⟩;conv=>whnf)
 rw [e1]
 refine aA (by simp;omega) ?_
 conv=>whnf
 repeat (refine⟨⟨_,rfl⟩,?_⟩;conv=>whnf)
 refine S_RPtsD (d:=D (a - 1)) (c:=d2 (a - 1)) rfl hd (fun h6=> ?_) (fun h6=> ?_)
 rotate_left
 · conv=>whnf
   repeat (refine⟨⟨_,rfl⟩,?_⟩;conv=>whnf)
   exact⟨no fun h=>h6 h.2.2.2,nP⟩
 have h7:posP (D (a - 1)) q:=⟨h3,by omega,by omega,h6⟩
 have hhas:hasP r D a c:=⟨by omega,by omega,by rw [<- hp];exact h7⟩
 conv=>whnf
 repeat (refine⟨⟨_,rfl⟩,?_⟩;conv=>whnf)
 refine aCa (i:=ki) hkx hky (fun K oK eK=> ?_) (fun hbad=> ?_)
 rotate_left
 · conv=>whnf
   repeat (refine⟨⟨_,rfl⟩,?_⟩;conv=>whnf)
   exact⟨⟨false,3,.inr (.inr (.inl ⟨hok,hhas,hbad,rfl,rfl⟩)),rfl⟩,nP⟩
 conv=>whnf
 repeat (refine⟨⟨_,rfl⟩,?_⟩;conv=>whnf)
 have hqn:q<(D (a - 1)).ns:=by have:=h7.2.1;omega
 rw [e1]
 refine aA (by simp;omega) ?_
 conv=>whnf
 repeat (refine⟨⟨_,rfl⟩,?_⟩;conv=>whnf)
 refine aA (by simp;omega) ?_
 conv=>whnf
 repeat (refine⟨⟨_,rfl⟩,?_⟩;conv=>whnf)
 refine S_ROpenPt (P:=K) (a:=(a:Int)) (b:=(c:Int)) (f:=(D (a - 1)).S q) eK rfl oK (by unfold isD;simp;omega) (by unfold isD;simp;omega) (fun i hi=>hd.2.2.2.2.2.2.1 q hqn i hi) (fun n hn hnw=> ?_)
 have hfv:fitV D a c K=n:=by unfold fitV;rw [<- hp];exact hn.symm
 conv=>whnf
 repeat (refine⟨⟨_,rfl⟩,?_⟩;conv=>whnf)
 refine sG (fun p hp1=> ?_)
 conv=>whnf
 repeat (refine⟨⟨_,rfl⟩,?_⟩;conv=>whnf)
 refine S_RCmp hnw (by rw [hp1];decide) (fun z hz=> ?_)
 conv=>whnf
 repeat (refine⟨⟨_,rfl⟩,?_⟩;conv=>whnf)
 refine aE (fun h8=> ?_) (fun h8=> ?_)
 rotate_left
 · have h9:¬ n<nN:=by
    rcases rF hz with⟨_,h⟩ | ⟨h,_⟩
    · rw [h]at h8;exact absurd h8 (by decide)
    · omega
   conv=>whnf
   repeat (refine⟨⟨_,rfl⟩,?_⟩;conv=>whnf)
   exact⟨⟨false,0,.inr (.inr (.inr ⟨hok,hhas,K,oK,eK,rfl,by rw [hfv];simp [h9]⟩)),rfl⟩,nP⟩
 have h9:n<nN:=by
  rcases rF hz with⟨h,_⟩ | ⟨_,h | h⟩
  · omega
  · rw [h]at h8;exact absurd h8 (by decide)
  · rw [h]at h8;exact absurd h8 (by decide)
 conv=>whnf
 repeat (refine⟨⟨_,rfl⟩,?_⟩;conv=>whnf)
 rw [e1]
 refine aA (by simp;omega) ?_
 conv=>whnf
 repeat (refine⟨⟨_,rfl⟩,?_⟩;conv=>whnf)
 refine S_RInt (by omega) ?_
 conv=>whnf
 repeat (refine⟨⟨_,rfl⟩,?_⟩;conv=>whnf)
 refine S_RFitsD (d:=D (a - 1)) (c:=d2 (a - 1)) (x:=c) rfl rfl h7.2.2.2 h7.2.2.1 (by show c<2 ^ 256;omega) hnw (fun b hb=> ?_)
 conv=>whnf
 repeat (refine⟨⟨_,rfl⟩,?_⟩;conv=>whnf)
 refine⟨⟨b,0,.inr (.inr (.inr ⟨hok,hhas,K,oK,eK,rfl,?_⟩)),rfl⟩,nP⟩
 rw [hfv,hb]
 exact⟨fun h=>⟨h9,h⟩,fun h=>h.2⟩
theorem S_RJFits {m:Mem} {x:AV} {K:AV->Mem->Prop} {r:Nat} {D:Nat->Dl} {i j:Int} {ki:Bool} {kx ky:Nat} (hx:aT m x r D) (hr:r<=1000000) (hD:∀ k,k<r->OkD (D k)) (hkx:kx<w256) (hky:ky<w256)
 (h:∀ b e,FitE r D i j ki kx ky b e->K (.tup [.bool b,.int .i64 e]) m):ACall Pg iL [x,.int .i64 i,.int .i64 j,rawA ki kx ky] m K:=by
 obtain⟨cap,d1,d2,hl⟩:=hx
 refine aC (S_RJFits0 r cap d1 d2 D i j ki kx ky hr hD hkx hky) (.cons _ _ _ _ hl (.cons _ _ _ _ aG (.cons _ _ _ _ aG (.cons _ _ _ _ (aI cX) .nil)))) ?_
 rintro v ⟨b,e,hf,rfl⟩
 exact h b e hf
theorem S_rCheckD {m:Mem} {K:AV->Mem->Prop} {v:AV} {i:Bool} {x y:Nat} (hv:v=rawA i x y) (hx:x<w256) (hy:y<w256) (h1:∀ P,On P->rawA i x y=ptA P->K (.bool true) m) (h2:Bad i x y->K (.bool false) m):ACall Pg bU [v] m K:=by
 subst hv;exact aCa hx hy h1 h2
end Go.Proofs.YtfolpdmbpbbimaaGreat
end

section
namespace Go.Proofs.YtfolpdmbpbbimaaGreat
open Go Go.Wit
def eqR (f g:Nat->Int):Bool:=(f 0 == g 0 && (f 1 == g 1 && (f 2 == g 2 && (f 3 == g 3 && (f 4 == g 4 && (f 5 == g 5 && (f 6 == g 6 && (f 7 == g 7 && (f 8 == g 8 && (f 9 == g 9 && (f 10 == g 10 && (f 11 == g 11 && (f 12 == g 12 && (f 13 == g 13 && (f 14 == g 14 && (f 15 == g 15 && (f 16 == g 16 && (f 17 == g 17 && (f 18 == g 18 && (f 19 == g 19 && (f 20 == g 20 && (f 21 == g 21 && (f 22 == g 22 && (f 23 == g 23 && (f 24 == g 24 && (f 25 == g 25 && (f 26 == g 26 && (f 27 == g 27 && (f 28 == g 28 && (f 29 == g 29 && (f 30 == g 30 && (f 31 == g 31 && true))))))))))))))))))))))))))))))))
theorem eqR_iff {f g:Nat->Int}:eqR f g=true ↔ ∀ i,i<32->f i=g i:=by
 constructor
 · intro h
   simp only [eqR,Bool.and_eq_true,beq_iff_eq,and_true]at h
   intro i hi
   have:i=0\/i=1\/i=2\/i=3\/i=4\/i=5\/i=6\/i=7\/i=8\/i=9\/i=10\/i=11\/i=12\/i=13\/i=14\/i=15\/i=16\/i=17\/i=18\/i=19\/i=20\/i=21\/i=22\/i=23\/i=24\/i=25\/i=26\/i=27\/i=28\/i=29\/i=30\/i=31:=by omega
   rcases this with rfl | rfl | rfl | rfl | rfl | rfl | rfl | rfl | rfl | rfl | rfl | rfl | rfl | rfl | rfl | rfl | rfl | rfl | rfl | rfl | rfl | rfl | rfl | rfl | rfl | rfl | rfl | rfl | rfl | rfl | rfl | rfl
   all_goals simp [h]
 · intro h
   unfold eqR
   rw [h 0 (by decide),h 1 (by decide),h 2 (by decide),h 3 (by decide),h 4 (by decide),h 5 (by decide),h 6 (by decide),h 7 (by decide),h 8 (by decide),h 9 (by decide),h 10 (by decide),h 11 (by decide),h 12 (by decide),h 13 (by decide),h 14 (by decide),h 15 (by decide),h 16 (by decide),h 17 (by decide),h 18 (by decide),h 19 (by decide),h 20 (by decide),h 21 (by decide),h 22 (by decide),h 23 (by decide),h 24 (by decide),h 25 (by decide),h 26 (by decide),h 27 (by decide),h 28 (by decide),h 29 (by decide),h 30 (by decide),h 31 (by decide)]
   simp
def t32:Ty:= .arr 32 (.int .u8)
theorem ok_cells32 {cs:List AV} (h:okC t32 cs):∃ f:Nat->Int,cs=rowL f/\∀ i,i<32->0<=f i/\f i<=255:=by
 unfold t32 at h
 unfold okC at h
 obtain⟨hl,hc⟩:=h
 have key:∀ i,i<32->∃ n:Int,cs[i]? = some (.int .u8 n)/\0<=n/\n<=255:=fun i hi=>by
  have:=hc i hi
  unfold okC at this
  obtain⟨n,e,h1,h2⟩:=this
  refine⟨n,?_,h1,h2⟩
  have e2:((cs.drop (i*1)).take 1)[0]? = some (.int .u8 n):=by
   have e3:(cs.drop (i*1)).take 1= [.int .u8 n] :=e
   rw [e3];rfl
  simpa [List.getElem?_take,List.getElem?_drop]using e2
 have hl2:cs.length=32:=hl
 classical
 refine⟨fun i=>if h:i<32 then (key i h).choose else 0,?_,fun i hi=> ?_⟩
 · refine List.ext_getElem? fun i=> ?_
   by_cases hi:i<32
   · rw [(key i hi).choose_spec.1]
     unfold rowL
     rw [List.getElem?_map,List.getElem?_range hi]
     simp [hi]
   · rw [List.getElem?_eq_none (by omega),List.getElem?_eq_none (by unfold rowL;simp;omega)]
 · simp only [dif_pos hi];exact(key i hi).choose_spec.2
end Go.Proofs.YtfolpdmbpbbimaaGreat
end

section
namespace Go.Proofs.YtfolpdmbpbbimaaGreat
open Go Go.Wit
abbrev tDealer:Ty:= .st [.int .i64,tPoint,.str,.int .i64,.bool,.sl 32 t32,.sl 9 tPoint,.bool,.bool,tPoint]
theorem ok_sealsL {av:AV} (h:okV (.sl 32 t32) av):∃ (n cap:Nat) (S:Nat->Nat->Int),dO av (.vsl 32 n cap (fN S))/\n<=cap/\cap<=Go.maxLen/\∀ i,i<n->∀ b,b<32->0<=S i b/\S i b<=255:=by
 simp only [okV]at h
 unfold okC at h
 obtain⟨n,cap,get,he,h1,h2,h3⟩:=h
 obtain rfl:=List.head_eq_of_cons_eq he
 classical
 have sp:∀ i,i<n->∃ f:Nat->Int,(List.range 32).map (get i)=rowL f/\∀ b,b<32->0<=f b/\f b<=255:=fun i hi=>ok_cells32 (h3 i hi)
 refine⟨n,cap,fun i=>if hi:i<n then (sp i hi).choose else fun _=>0,dO.vsl (fun i j hi hj=>dO.of_eq ?_),h1,h2,fun i hi=> ?_⟩
 · have:=(sp i hi).choose_spec.1
   unfold fN
   simp only [dif_pos hi]
   have g:=map_get this hj
   rw [g]
   unfold rowL
   rw [List.getD_eq_getElem?_getD,List.getElem?_map,List.getElem?_range hj]
   rfl
 · simp only [dif_pos hi];exact(sp i hi).choose_spec.2
def OkZ (d:Dl):Prop:=d.x<w256/\d.y<w256/\d.u<w256/\d.v<w256/\(∀ k,k<d.nc->d.X k<w256)/\(∀ k,k<d.nc->d.Y k<w256)/\(∀ k,k<d.ns->∀ b,b<32->0<=d.S k b/\d.S k b<=255)/\d.ns<=Go.maxLen/\d.nc<=Go.maxLen/\d.lb.size<=Go.maxLen
theorem OkZ.ok {d:Dl} (h:OkZ d) (h1:d.ns<=1000000) (h2:d.nc<=1000000):OkD d:=⟨h.1,h.2.1,h.2.2.1,h.2.2.2.1,h.2.2.2.2.1,h.2.2.2.2.2.1,h.2.2.2.2.2.2.1,h1,h2⟩
theorem ok_cells26 {cs:List AV} (h:okC tDealer cs):∃ (d:Dl) (c1 c2:Nat),kG cs (dlL d (.vsl 32 d.ns c1 (fN d.S)) (.vsl 9 d.nc c2 (cW d.I d.X d.Y)))/\OkZ d:=by
 unfold okC at h
 unfold okCs at h
 obtain⟨_,_,rfl,_,ha,h⟩:=h
 unfold okC at ha
 obtain⟨ac,rfl,_⟩:=ha
 unfold okCs at h
 obtain⟨_,_,rfl,_,hk,h⟩:=h
 obtain⟨i,x,y,hx,hy,rfl⟩:=ok_cells9 hk
 unfold okCs at h
 obtain⟨_,_,rfl,_,ha,h⟩:=h
 unfold okC at ha
 obtain⟨lb,rfl,hlb⟩:=ha
 unfold okCs at h
 obtain⟨_,_,rfl,_,ha,h⟩:=h
 unfold okC at ha
 obtain⟨hd,rfl,_⟩:=ha
 unfold okCs at h
 obtain⟨_,_,rfl,_,ha,h⟩:=h
 unfold okC at ha
 obtain⟨ps,rfl⟩:=ha
 unfold okCs at h
 obtain⟨a1,_,rfl,hl1,hs,h⟩:=h
 obtain⟨sl,rfl⟩ :∃ sl,a1= [sl] :=by
  match a1,hl1 with
  | [s],_=>exact ⟨s,rfl⟩
 unfold okCs at h
 obtain⟨a2,_,rfl,hl2,hc,h⟩:=h
 obtain⟨co,rfl⟩ :∃ co,a2= [co] :=by
  match a2,hl2 with
  | [s],_=>exact ⟨s,rfl⟩
 obtain⟨ns,c1,S,r1,n1,n2,bS⟩:=ok_sealsL (av:=sl) (by simpa only [okV]using hs)
 obtain⟨nc,c2,I,X,Y,r2,m1,m2,bX,bY⟩:=ok_pointsL (av:=co) (by simpa only [okV]using hc)
 unfold okCs at h
 obtain⟨_,_,rfl,_,ha,h⟩:=h
 unfold okC at ha
 obtain⟨bd,rfl⟩:=ha
 unfold okCs at h
 obtain⟨_,_,rfl,_,ha,h⟩:=h
 unfold okC at ha
 obtain⟨st,rfl⟩:=ha
 unfold okCs at h
 obtain⟨_,_,rfl,_,hk2,h⟩:=h
 obtain⟨j,u,v,hu,hv,rfl⟩:=ok_cells9 hk2
 unfold okCs at h
 subst h
 have rr:∀ l:List AV,kG l l:=fun l _ _ _ _ h=>h
 refine⟨⟨ac,i,x,y,lb,hd,ps,ns,S,nc,I,X,Y,bd,st,j,u,v⟩,c1,c2,?_,hx,hy,hu,hv,bX,bY,bS,Nat.le_trans n1 n2,Nat.le_trans m1 m2,hlb⟩
 show kG _ ([.int .i64 ac] ++ (rawL i x y++([.str lb] ++ ([.int .i64 hd] ++ ([.bool ps] ++ ([.vsl 32 ns c1 (fN S)] ++ ([.vsl 9 nc c2 (cW I X Y)] ++ ([.bool bd] ++ ([.bool st] ++ (rawL j u v++ []))))))))))
 exact(rr _).append ((rr _).append ((rr _).append ((rr _).append ((rr _).append ((kG.cons r1 .nil).append ((kG.cons r2 .nil).append (rr _)))))))
instance:Nonempty Dl:=⟨⟨0,false,0,0,.empty,0,false,0,fun _ _=>0,0,fun _=>false,fun _=>0,fun _=>0,false,false,false,0,0⟩⟩
theorem ok_dealers {av:AV} (h:okV (.sl 26 tDealer) av):∃ (n cap:Nat) (D:Nat->Dl) (c1 c2:Nat->Nat),dO av (.vsl 26 n cap (dlG D c1 c2))/\n<=cap/\cap<=Go.maxLen/\∀ k,k<n->OkZ (D k):=by
  simp only [okV]at h
  unfold okC at h
  obtain⟨n,cap,get,he,h1,h2,h3⟩:=h
  obtain rfl:=List.head_eq_of_cons_eq he
  classical
  have sp:∀ i,i<n->∃ p:Dl × Nat × Nat,kG ((List.range 26).map (get i)) (dlL p.1 (.vsl 32 p.1.ns p.2.1 (fN p.1.S)) (.vsl 9 p.1.nc p.2.2 (cW p.1.I p.1.X p.1.Y)))/\OkZ p.1:=fun i hi=>by
    obtain⟨d,c1,c2,r,o⟩:=ok_cells26 (h3 i hi)
    exact⟨(d,c1,c2),r,o⟩
  refine⟨n,cap,fun i=>if hi:i<n then (sp i hi).choose.1 else Classical.choice inferInstance,fun i=>if hi:i<n then (sp i hi).choose.2.1 else 0,fun i=>if hi:i<n then (sp i hi).choose.2.2 else 0,?_,h1,h2,fun i hi=> ?_⟩
  · intro H L O v hv
    cases hv with
    | vsl0 _ _ a=>exact .vsl0 _ _ a
    | vsl _ _ _ _ b o vals g0 g1 g2 =>
      refine .vsl _ _ _ _ b o vals g0 g1 (fun i j hi hj=> ?_)
      have r:=(sp i hi).choose_spec.1
      have vr:=r H L O ((List.range 26).map (vals i)) (VRs.of_get (by simp) (fun j c hc=>by
        by_cases hj:j<26
        · have e:vals i j=c:=by simpa [hj]using hc
          have e2:((List.range 26).map (get i)).getD j .un=get i j:=by simp [List.getD_eq_getElem?_getD,hj]
          rw [e2,<- e];exact g2 i j hi hj
        · simp [hj]at hc))
      obtain⟨c,e1,e2⟩:=vr.get j hj
      have e:vals i j=c:=by simpa [hj]using e1
      rw [<- e]at e2
      unfold dlG
      simp only [dif_pos hi]
      exact e2
  · simp only [dif_pos hi];exact(sp i hi).choose_spec.2
end Go.Proofs.YtfolpdmbpbbimaaGreat
end

section
namespace Go.Wit
def FzV (l:Nat) (blk:Blk) (v v':AV):Prop:=v'=v\/v'= .un\/∃ o n c get,v= .sl l o n c/\v'= .vsl blk.es n c get/\o+n<=blk.n/\∀ i j,i<n->j<blk.es->get i j=blk.get (o+i) j
def FzB (l:Nat) (blk:Blk) (k:Nat) (b b':Option Blk):Prop:=b'=none\/(k ≠ l/\∃ x y,b=some x/\b'=some y/\y.es=x.es/\y.n<=x.n/\∀ i j,i<y.n->j<y.es->FzV l blk (x.get i j) (y.get i j))
def FzL (l:Nat) (blk:Blk):Nat->Mem->Mem->Prop
 | _,[],[] =>True
 | k,b::r,b'::r'=>FzB l blk k b b'/\FzL l blk (k+1) r r'
 | _,_,_=>False
theorem FzL.n {l k:Nat} {blk:Blk}:FzL l blk k [] [] :=trivial
theorem FzL.c {l k:Nat} {blk:Blk} {b b':Option Blk} {r r':Mem} (h1:FzB l blk k b b') (h2:FzL l blk (k+1) r r'):FzL l blk k (b::r) (b'::r'):=⟨h1,h2⟩
theorem FzL.len {l:Nat} {blk:Blk}:∀ {k:Nat} {m m1:Mem},FzL l blk k m m1->m1.length=m.length
 | _,[],[],_=>rfl
 | k,b::r,b'::r',h=>by simp [FzL.len h.2]
 | _,[],b'::r',h=>h.elim
 | _,b::r,[],h=>h.elim
theorem FzL.get {l:Nat} {blk:Blk}:∀ {k:Nat} {m m1:Mem},FzL l blk k m m1->∀ i b',m1[i]? = some b'->∃ b,m[i]? = some b/\FzB l blk (k+i) b b'
  | _,[],[],_,i,b',h=>by simp at h
  | k, b :: r, c :: r', h, 0, b', hb => by
    simp at hb;subst hb
    exact⟨b,rfl,h.1⟩
  | k, b :: r, c :: r', h, i + 1, b', hb => by
    obtain⟨x,h1,h2⟩:=FzL.get h.2 i b' (by simpa using hb)
    exact⟨x,by simpa using h1,by rw [show k+(i+1)=k+1+i by omega];exact h2⟩
  | _,[],b'::r',h,_,_,_=>h.elim
  | _,b::r,[],h,_,_,_=>h.elim
theorem MRel.frz {C:Ctx} {m m1:Mem} {w:World} {L:Lay} (hR:MRel C m w L) {l:Nat} {blk:Blk} (hl:m[l]? = some (some blk)) (hm:FzL l blk 0 m m1):
    MRel C m1 w L/\Ext w.heap L (OO C m L) w.heap L (OO C m1 L):=by
  have hlen:=hm.len
  have hget:∀ {i:Nat} {y:Blk},m1[i]? = some (some y)->i ≠ l/\∃ x,m[i]? = some (some x)/\y.es=x.es/\y.n<=x.n/\∀ a b,a<y.n->b<y.es->FzV l blk (x.get a b) (y.get a b):=by
    intro i y hi
    obtain⟨b,h1,h2⟩:=hm.get i _ hi
    rcases h2 with h2 | ⟨h3,x,y',rfl,h5,h6,h7,h8⟩
    · cases h2
    · obtain rfl:=Option.some.inj h5
      rw [Nat.zero_add]at h3
      exact⟨h3,x,h1,h6,h7,h8⟩
  have hown:∀ b,own m1 L b->own m L b:=by
    rintro b ⟨i,y,e,h1,h2,h3,h4⟩
    obtain⟨_,x,h5,_⟩:=hget h1
    exact⟨i,x,e,h5,h2,h3,h4⟩
  have hext:Ext w.heap L (OO C m L) w.heap L (OO C m1 L):=
    ⟨fun l e h=>h,fun b _ _=>rfl,fun b _ hO hO'=>hO (hO'.elim .inl fun h=> .inr (hown b h))⟩
  refine⟨⟨hR.os,hR.tape,hR.output,hR.size,hR.frame,fun i hi=>hR.lay i (by omega),fun i y hi=> ?_,fun i i' b b' e e' h1 h2 h3 h4 t1 t2 h5=> ?_,fun i hi=>⟨by rw [hlen];exact(hR.base i hi).1,(hR.base i hi).2⟩,hR.xlt,fun b hb=>hR.notX b (hown b hb)⟩,hext⟩
  · obtain⟨hne,x,g1,g2,g3,g4⟩:=hget hi
    obtain⟨e,k1,k2,k3,k0⟩:=hR.blk i x g1
    refine⟨e,k1,by rw [k2,g2],by omega,fun ht=> ?_⟩
    obtain⟨c,T,k4,k5,k6,k7⟩:=k0 ht
    refine⟨c,T,k4,k5,k6,fun a b ha hb=> ?_⟩
    obtain⟨v,r1,r2,r3⟩:=k7 a b (by omega) (by rw [<- g2];exact hb)
    refine⟨v,by rw [g2];exact r1,?_,r3⟩
    rcases g4 a b ha hb with h | h | ⟨o,n,cp,get,h1,h2,h3,h4⟩
    · rw [h];exact r2.ext hext
    · rw [h];exact .un _
    · rw [h1]at r2
      rw [h2]
      cases r2 with
      | sl0 _ _ ad=>exact .vsl0 _ _ _
      | sl0n _ _=>exact .vsl0 _ _ _
      | sl _ _ _ _ le q1 q2 q3 =>
        obtain⟨e2,p1,p2,p3,p0⟩:=hR.blk l blk hl
        rw [q1]at p1;obtain rfl:=Option.some.inj p1
        by_cases hc0:cp=0
        · subst hc0
          obtain rfl:n=0:=by omega
          exact .vsl0 _ _ _
        have ht2:0<le.tot:=by omega
        obtain⟨c2,T2,p4,p5,p6,p7⟩:=p0 ht2
        have key:∀ a b,a<n->b<blk.es->∃ v,fK w.heap le.b (o*le.es+(a*blk.es+b))=some v/\VR w.heap L (OO C m L) (blk.get (o+a) b) v/\v.oneCell'=true:=by
          intro a b ha hb
          obtain⟨v,s1,s2,s3⟩:=p7 (o+a) b (by omega) hb
          refine⟨v,?_,s2,s3⟩
          simp only [fK,p4]
          rw [<- s1,p2];congr 1
          rw [Nat.add_mul];omega
        have hnO:¬ OO C m1 L le.b:=by
          rintro(hX | ⟨i2,y2,e3,s1,s2,s3,s4⟩)
          · exact hR.notX le.b ⟨l,blk,le,hl,q1,ht2,rfl⟩ hX
          · obtain⟨hne2,x2,s5,_⟩:=hget s1
            exact hne2 (hR.inj i2 l x2 blk e3 le s5 hl s2 q1 s3 ht2 s4)
        classical
        refine .vsl _ _ _ _ le.b (o*le.es) (fun a b=>if hij:a<n/\b<blk.es then (key a b hij.1 hij.2).choose else undef) q2 (fun a b ha hb=> ?_) (fun a b ha hb=> ?_)
        · have hk:=(key a b ha hb).choose_spec
          rw [dif_pos ⟨ha,hb⟩]
          exact⟨hnO,hk.1,hk.2.2⟩
        · have hk:=(key a b ha hb).choose_spec
          rw [dif_pos ⟨ha,hb⟩,h4 a b ha hb]
          exact hk.2.1.ext hext
  · obtain⟨_,x,g1,_⟩:=hget h1
    obtain⟨_,x',g2,_⟩:=hget h2
    exact hR.inj i i' x x' e e' g1 g2 h3 h4 t1 t2 h5
inductive FzM:Mem->Mem->Prop where
 | refl (m:Mem):FzM m m
 | step (l:Nat) (blk:Blk) (m m1 m2:Mem):m[l]? = some (some blk)->FzL l blk 0 m m1->FzM m1 m2->FzM m m2
theorem FzM.rel {C:Ctx} {n:Nat} {e:Env} {m m1:Mem} {a:Act} {w:World} {L:Lay} (h:FzM m m1) (hr:Rel C n e m a w L):Rel C n e m1 a w L:=by
  induction h with
  | refl=>exact hr
  | step l blk m m1 m2 hl hm _ ih =>
    obtain⟨h1,h2⟩:=hr.mem.frz hl hm
    exact ih ⟨hr.size,hr.defers,h1,fun t=>(hr.env t).ext h2⟩
section
variable {D:DrawKit} {P:Program} {n k:Nat}
theorem AWp.fz {c:Code} {e:Env} {m m1:Mem} {Q:xI} (hf:FzM m m1) (h:AWp P n k c e m1 Q):AWp P n k c e m Q:=fun C a w L hk hr=>h C a w L hk (hf.rel hr)
theorem loop_fz (hm:P.follows .mixedOrders=true) {c:ACode} {e:Env} {m:Mem} {Q:xI} (I:Nat->List (Nat × AV)->Mem->Prop) (k0:Nat) {l0:List (Nat × AV)} {m0:Mem} (src:List (Option Nat)) (hi:I k0 l0 m0) (hw:Wk k e m l0 m0 src)
    (hstep:∀ q l m,I q l m->mkEnvK l .nil fun e=>vcCode D P n k c e m fun x e' m'=>match x with
      | .normal=>∃ q' l' m1 m2 src,q'<q/\I q' l' m2/\FzM m' m1/\Wk k e' m1 l' m2 src
      | .exit i=>Q (.exit i) e' m'
      | .ret=>Q .ret e' m'
      | _=>False):ALoop D P n k c e m Q:=by
  refine loop_sem (fun q e m=>∃ l m1 m2 src,I q l m2/\FzM m m1/\Wk k e m1 l m2 src) k0 ⟨l0,m,m0,src,hi,.refl _,hw⟩ (fun q e1 m1 hI b hb=> ?_)
  obtain⟨l,m2,m3,s2,hI,hf,hw2⟩:=hI
  refine AWp.fz hf (AWp.wk hw2 ?_)
  have:=hstep q l m3 hI
  rw [mkEnvK_eq]at this
  refine AWp.mono ?_ (mR hm b c hb this)
  intro x e' m' h
  cases x with
  | normal =>
    obtain⟨q',l',m4,m5,s3,h1,h2,h3,h4⟩:=h
    exact⟨q',h1,l',m4,m5,s3,h2,h3,h4⟩
  | exit i=>exact h
  | ret=>exact h
  | _=>exact h.elim
end
end Go.Wit
end

section
namespace Go.Proofs.YtfolpdmbpbbimaaGreat
open Go Go.Wit
theorem S_kSeals0 (n c1 k c2:Nat) (S T:Nat->Nat->Int) (hn:n<=1000000) (hk:k<=1000000):ACall Pg fY [.vsl 32 n c1 (fN S),.vsl 32 k c2 (fN T)] []
 (fun v _=>(((n=k/\∀ i,i<n->∀ j,j<32->S i j=T i j)/\v= .bool true)\/(¬ (n=k/\∀ i,i<n->∀ j,j<32->S i j=T i j)/\v= .bool false))/\Flat true v):=by
 refine xZ ⟨rfl,?_⟩
 conv=>whnf
 repeat (refine⟨⟨_,rfl⟩,?_⟩;conv=>whnf)
 refine aE (fun h1=> ?_) (fun h1=> ?_)
 · have h1:¬ n=k:=by simp at h1;omega
   conv=>whnf
   repeat (refine⟨⟨_,rfl⟩,?_⟩;conv=>whnf)
   exact⟨.inr ⟨fun h=>h1 h.1,rfl⟩,.bool _⟩
 have h1:n=k:=by simp at h1;omega
 subst h1
 conv=>whnf
 repeat (refine⟨⟨_,rfl⟩,?_⟩;conv=>whnf)
 refine aU aH (I:=fun q l m=>∃ (i:Nat),l= [(0,.vsl 32 n c1 (fN S)),(1,.vsl 32 n c2 (fN T)),(5,.int .i64 i)] /\ m= [] /\ q+i=n/\∀ u,u<i->∀ j,j<32->S u j=T u j) n
  (l0:= [(0,.vsl 32 n c1 (fN S)),(1,.vsl 32 n c2 (fN T)),(5,.int .i64 (0:Nat))]) (m0:= []) [] ⟨0,rfl,rfl,rfl,fun u hu=>by omega⟩ ?_ ?_
 · exact .mk0 ⟨.eq _ _ rfl lM,.eq _ _ rfl lM,Flat.i rfl,trivial⟩ trivial rfl rfl
 · rintro q l m ⟨i,rfl,rfl,hq,hS⟩
   conv=>whnf
   repeat (refine⟨⟨_,rfl⟩,?_⟩;conv=>whnf)
   refine aE (fun hb=> ?_) (fun hb=> ?_)
   · have hb:i<n:=by simp at hb;omega
     conv=>whnf
     repeat (refine⟨⟨_,rfl⟩,?_⟩;conv=>whnf)
     refine aA (by simp;omega) ?_
     conv=>whnf
     repeat (refine⟨⟨_,rfl⟩,?_⟩;conv=>whnf)
     refine aA (by simp;omega) ?_
     conv=>whnf
     repeat (refine⟨⟨_,rfl⟩,?_⟩;conv=>whnf)
     refine aE (fun h2=> ?_) (fun h2=> ?_)
     · replace h2:(!(eqR (S i) (T i)))=true:=Eq.trans rfl h2
       conv=>whnf
       repeat (refine⟨⟨_,rfl⟩,?_⟩;conv=>whnf)
       exact⟨.inr ⟨fun h=>(by rw [eqR_iff.2 (h.2 i hb)]at h2;cases h2),rfl⟩,.bool _⟩
     · replace h2:(!(eqR (S i) (T i)))=false:=Eq.trans rfl h2
       have h3:=eqR_iff.1 (show eqR (S i) (T i)=true by simpa using h2)
       clear h2
       conv=>whnf
       repeat (refine⟨⟨_,rfl⟩,?_⟩;conv=>whnf)
       have e5:IntKind.i64.wrap ((i:Int)+1)=((i+1:Nat):Int):=by rw [w64 (by omega) (by omega)];omega
       refine⟨q - 1,[(0,.vsl 32 n c1 (fN S)),(1,.vsl 32 n c2 (fN T)),(5,.int .i64 ((i+1:Nat):Int))],[],[],by omega,⟨i+1,rfl,rfl,by omega,fun u hu=> ?_⟩,?_⟩
       · by_cases h:u=i
         · subst h;exact h3
         · exact hS u (by omega)
       · exact .mk0 ⟨.eq _ _ rfl lM,.eq _ _ rfl lM,Flat.i e5,trivial⟩ trivial rfl rfl
   · have hb:i=n:=by simp at hb;omega
     subst hb
     conv=>whnf
     repeat (refine⟨⟨_,rfl⟩,?_⟩;conv=>whnf)
     exact⟨.inl ⟨⟨rfl,hS⟩,rfl⟩,.bool _⟩
theorem S_kSeals {m:Mem} {x y:AV} {K:AV->Mem->Prop} {n k:Nat} {S T:Nat->Nat->Int} (hx:aO m x 32 n (fN S)) (hy:aO m y 32 k (fN T)) (hn:n<=1000000) (hk:k<=1000000)
 (h1:n=k->(∀ i,i<n->∀ j,j<32->S i j=T i j)->K (.bool true) m) (h2:¬ (n=k/\∀ i,i<n->∀ j,j<32->S i j=T i j)->K (.bool false) m):ACall Pg fY [x,y] m K:=by
 obtain⟨c1,g1⟩:=hx
 obtain⟨c2,g2⟩:=hy
 refine aC (S_kSeals0 n c1 k c2 S T hn hk) (.cons _ _ _ _ g1 (.cons _ _ _ _ g2 .nil)) ?_
 rintro v (⟨h,rfl⟩ | ⟨h,rfl⟩)
 · exact h1 h.1 h.2
 · exact h2 h
end Go.Proofs.YtfolpdmbpbbimaaGreat
end

section
namespace Go.Proofs.YtfolpdmbpbbimaaGreat
open Go Go.Wit
theorem rK {m:Mem} {K:AV->Mem->Prop} {v w:AV} {i:Bool} {x y:Nat} (hv:v=rawA i x y) (hw:w=rawA i x y) (hx:x<w256) (hy:y<w256) (h:K (.bool true) m):ACall Pg cF [v,w] m K:=by
 subst hv hw;exact S_kPoint_eq hx hy h
theorem S_kActE0 (k:Int) (i:Bool) (x y:Nat) (s:ByteArray) (ns c1 d1:Nat) (S:Nat->Nat->Int) (nc c2 d2:Nat) (I:Nat->Bool) (X Y:Nat->Nat) (ag:Int) (c r:Nat) (hx:x<w256) (hy:y<w256) (hns:ns<=1000000) (hnc:nc<=1000000) (hX:∀ j,j<nc->X j<w256) (hY:∀ j,j<nc->Y j<w256):
 ACall Pg iD [actV k i x y s ns c1 S nc c2 I X Y ag c r,actV k i x y s ns d1 S nc d2 I X Y ag c r] [] (fun v _=>v= .bool true/\Flat true v):=by
 refine B_witankeep_Act ⟨rfl,?_⟩
 conv=>whnf
 repeat (refine⟨⟨_,rfl⟩,?_⟩;conv=>whnf)
 refine aS (by simp) ?_
 conv=>whnf
 repeat (refine⟨⟨_,rfl⟩,?_⟩;conv=>whnf)
 refine rK (i:=i) (x:=x) (y:=y) rfl rfl hx hy ?_
 conv=>whnf
 repeat (refine⟨⟨_,rfl⟩,?_⟩;conv=>whnf)
 refine aS (Eq.trans (b:=((s.toList == s.toList) == true)) rfl (by simp)) ?_
 conv=>whnf
 repeat (refine⟨⟨_,rfl⟩,?_⟩;conv=>whnf)
 refine S_kSeals (n:=ns) (k:=ns) (S:=S) (T:=S) (aO.vsl fun i j _ _=>eT) (aO.vsl fun i j _ _=>eT) hns hns (fun _ _=> ?_) (fun h=>absurd ⟨rfl,fun _ _ _ _=>rfl⟩ h)
 conv=>whnf
 repeat (refine⟨⟨_,rfl⟩,?_⟩;conv=>whnf)
 refine S_kPoints (n:=nc) (I:=I) (X:=X) (Y:=Y) (aO.vsl fun i j _ _=>bR) (aO.vsl fun i j _ _=>bR) hX hY (by omega) ?_
 conv=>whnf
 repeat (refine⟨⟨_,rfl⟩,?_⟩;conv=>whnf)
 refine aS (by simp) ?_
 conv=>whnf
 repeat (refine⟨⟨_,rfl⟩,?_⟩;conv=>whnf)
 refine S_kProof (c:=c) (r:=r) rfl rfl ?_
 conv=>whnf
 repeat (refine⟨⟨_,rfl⟩,?_⟩;conv=>whnf)
 exact⟨rfl,.bool _⟩
theorem pY {m:Mem} {K:AV->Mem->Prop} {v w:AV} {k:Int} {i:Bool} {x y:Nat} {s:ByteArray} {sl co sl' co':AV} {ns:Nat} {S:Nat->Nat->Int} {nc:Nat} {I:Nat->Bool} {X Y:Nat->Nat} {ag:Int} {c r:Nat} (hv:v=actA k i x y s sl co ag c r) (hw:w=actA k i x y s sl' co' ag c r) (h1:aO m sl 32 ns (fN S)) (h2:aO m co 9 nc (cW I X Y)) (h3:aO m sl' 32 ns (fN S)) (h4:aO m co' 9 nc (cW I X Y))
 (hx:x<w256) (hy:y<w256) (hns:ns<=1000000) (hnc:nc<=1000000) (hX:∀ j,j<nc->X j<w256) (hY:∀ j,j<nc->Y j<w256) (h:K (.bool true) m):ACall Pg iD [v,w] m K:=by
 subst hv hw
 obtain⟨c1,g1⟩:=h1
 obtain⟨c2,g2⟩:=h2
 obtain⟨d1,g3⟩:=h3
 obtain⟨d2,g4⟩:=h4
 refine aC (S_kActE0 k i x y s ns c1 d1 S nc c2 d2 I X Y ag c r hx hy hns hnc hX hY) (.cons _ _ _ _ (lend_act g1 g2) (.cons _ _ _ _ (lend_act g3 g4) .nil)) ?_
 rintro v rfl
 exact h
end Go.Proofs.YtfolpdmbpbbimaaGreat
end

section
namespace Go.Proofs.YtfolpdmbpbbimaaGreat
open Go Go.Wit
theorem S_Heavy0 (r cap:Nat) (D:Nat->Dl) (d1 d2:Nat->Nat):ACall Pg iA [.vsl 26 r cap (dlG D d1 d2)] [] (fun v _=>(v= .bool true\/(v= .bool false/\r<=10/\∀ k,k<r->(D k).ns<=20/\(D k).nc<=8))/\Flat true v):=by
 refine vV ⟨rfl,?_⟩
 conv=>whnf
 repeat (refine⟨⟨_,rfl⟩,?_⟩;conv=>whnf)
 refine aE (fun h2=> ?_) (fun h2=> ?_)
 · conv=>whnf
   repeat (refine⟨⟨_,rfl⟩,?_⟩;conv=>whnf)
   exact⟨.inl rfl,.bool _⟩
 have h2:r<=10:=by simp at h2;omega
 conv=>whnf
 repeat (refine⟨⟨_,rfl⟩,?_⟩;conv=>whnf)
 refine aU aH (I:=fun q l m=>∃ (k:Nat),l= [(0,.vsl 26 r cap (dlG D d1 d2)),(3,.int .i64 k)] /\ m= [] /\ q+k=r/\∀ i,i<k->(D i).ns<=20/\(D i).nc<=8) r
  (l0:= [(0,.vsl 26 r cap (dlG D d1 d2)),(3,.int .i64 (0:Nat))]) (m0:= []) [] ⟨0,rfl,rfl,rfl,fun i hi=>by omega⟩ ?_ ?_
 · exact .mk0 ⟨.eq _ _ rfl bB,Flat.i rfl,trivial⟩ trivial rfl rfl
 · rintro q l m ⟨k,rfl,rfl,hq,hN⟩
   conv=>whnf
   repeat (refine⟨⟨_,rfl⟩,?_⟩;conv=>whnf)
   refine aE (fun hb=> ?_) (fun hb=> ?_)
   · have hb:k<r:=by simp at hb;omega
     conv=>whnf
     repeat (refine⟨⟨_,rfl⟩,?_⟩;conv=>whnf)
     refine aA (by simp;omega) ?_
     conv=>whnf
     repeat (refine⟨⟨_,rfl⟩,?_⟩;conv=>whnf)
     refine aE (fun h3=> ?_) (fun h3=> ?_)
     rotate_left
     · conv=>whnf
       repeat (refine⟨⟨_,rfl⟩,?_⟩;conv=>whnf)
       exact⟨.inl rfl,.bool _⟩
     have h3:¬ ((D k).ns:Int) > 20:=mX h3
     conv=>whnf
     repeat (refine⟨⟨_,rfl⟩,?_⟩;conv=>whnf)
     refine aA (by simp;omega) ?_
     conv=>whnf
     repeat (refine⟨⟨_,rfl⟩,?_⟩;conv=>whnf)
     refine aE (fun h4=> ?_) (fun h4=> ?_)
     rotate_left
     · conv=>whnf
       repeat (refine⟨⟨_,rfl⟩,?_⟩;conv=>whnf)
       exact⟨.inl rfl,.bool _⟩
     have h4:¬ ((D k).nc:Int) > 8:=mX h4
     conv=>whnf
     repeat (refine⟨⟨_,rfl⟩,?_⟩;conv=>whnf)
     refine aA (by simp;omega) ?_
     conv=>whnf
     repeat (refine⟨⟨_,rfl⟩,?_⟩;conv=>whnf)
     refine aE (fun h5=> ?_) (fun h5=> ?_)
     · conv=>whnf
       repeat (refine⟨⟨_,rfl⟩,?_⟩;conv=>whnf)
       exact⟨.inl rfl,.bool _⟩
     conv=>whnf
     repeat (refine⟨⟨_,rfl⟩,?_⟩;conv=>whnf)
     have e5:IntKind.i64.wrap ((k:Int)+1)=((k+1:Nat):Int):=by rw [w64 (by omega) (by omega)];omega
     refine⟨q - 1,[(0,.vsl 26 r cap (dlG D d1 d2)),(3,.int .i64 ((k+1:Nat):Int))],[],[],by omega,⟨k+1,rfl,rfl,by omega,fun i hi=> ?_⟩,?_⟩
     · by_cases hik:i=k
       · subst hik;exact⟨by omega,by omega⟩
       · exact hN i (by omega)
     · exact .mk0 ⟨.eq _ _ rfl bB,Flat.i e5,trivial⟩ trivial rfl rfl
   · have hb:k=r:=by simp at hb;omega
     subst hb
     conv=>whnf
     repeat (refine⟨⟨_,rfl⟩,?_⟩;conv=>whnf)
     exact⟨.inr ⟨rfl,h2,hN⟩,.bool _⟩
theorem lt26 {P:Nat->Prop} (h0:P 0) (h1:P 1) (h2:P 2) (h3:P 3) (h4:P 4) (h5:P 5) (h6:P 6) (h7:P 7) (h8:P 8) (h9:P 9) (h10:P 10) (h11:P 11) (h12:P 12) (h13:P 13) (h14:P 14) (h15:P 15) (h16:P 16) (h17:P 17) (h18:P 18) (h19:P 19) (h20:P 20) (h21:P 21) (h22:P 22) (h23:P 23) (h24:P 24) (h25:P 25):∀ j,j<26->P j:=by
 intro j hj
 have:j=0\/j=1\/j=2\/j=3\/j=4\/j=5\/j=6\/j=7\/j=8\/j=9\/j=10\/j=11\/j=12\/j=13\/j=14\/j=15\/j=16\/j=17\/j=18\/j=19\/j=20\/j=21\/j=22\/j=23\/j=24\/j=25:=by omega
 rcases this with rfl | rfl | rfl | rfl | rfl | rfl | rfl | rfl | rfl | rfl | rfl | rfl | rfl | rfl | rfl | rfl | rfl | rfl | rfl | rfl | rfl | rfl | rfl | rfl | rfl | rfl <;> assumption
def rowD (d:Dl) (cap1 cap2:Nat):List AV:=dlL d (.sl 2 0 (0+d.ns) cap1) (.sl 3 0 d.nc cap2)
theorem fz_a (D:Nat->Dl) (d1 d2 C1 C2:Nat->Nat) (k cap1 cap2 i j:Nat) (hi:i<k+1) (hj:j<26) (v:AV) (hv1:i=k->v=(rowD (D k) cap1 cap2).getD j .un) (hv2:i ≠ k->v=dlG D C1 C2 i j):
 FzV 2 ⟨32,0+(D k).ns,catG 0 (fun x x_1=>AV.un) (fN (D k).S)⟩ v (if i=k/\j=14 then .sl 3 0 (D k).nc cap2 else dlG D (fun i=>if i=k then cap1 else C1 i) C2 i j):=by
 by_cases hik:i=k
 · rw [hv1 hik]
   clear hv1 hv2
   subst hik
   by_cases h14:j=14
   · subst h14
     rw [if_pos ⟨rfl,rfl⟩];exact .inl rfl
   rw [if_neg (fun h=>h14 h.2)]
   by_cases h13:j=13
   · subst h13
     refine .inr (.inr ⟨0,0+(D i).ns,cap1,fN (D i).S,rfl,?_,by show 0+(0+(D i).ns)<=0+(D i).ns;omega,fun a b _ _=> ?_⟩)
     · show AV.vsl 32 (D i).ns (if i=i then cap1 else C1 i) (fN (D i).S)=_
       rw [if_pos rfl,Nat.zero_add]
     · show fN (D i).S a b=catG 0 (fun x x_1=>AV.un) (fN (D i).S) (0+a) b
       rw [bL (by omega)];simp
   · refine .inl ?_
     revert h14 h13
     revert j
     refine fun j hj=>lt26 (P:=fun j=>j ≠ 14->j ≠ 13->(dlG D (fun m=>if m=i then cap1 else C1 m) C2 i j)=(rowD (D i) cap1 cap2).getD j .un) ?_ ?_ ?_ ?_ ?_ ?_ ?_ ?_ ?_ ?_ ?_ ?_ ?_ ?_ ?_ ?_ ?_ ?_ ?_ ?_ ?_ ?_ ?_ ?_ ?_ ?_ j hj
     all_goals (intro a b;first | rfl | exact absurd rfl a | exact absurd rfl b)
 · rw [hv2 hik,if_neg (fun h=>hik h.1)]
   refine .inl ?_
   unfold dlG;simp only [if_neg hik]
theorem fz_b (D:Nat->Dl) (C1 C2:Nat->Nat) (k cap1 cap2 i j:Nat) (hi:i<k+1) (hj:j<26):
 FzV 3 ⟨9,(D k).nc,cW (D k).I (D k).X (D k).Y⟩ (if i=k/\j=14 then .sl 3 0 (D k).nc cap2 else dlG D (fun i=>if i=k then cap1 else C1 i) C2 i j) (dlG D (fun i=>if i=k then cap1 else C1 i) (fun i=>if i=k then cap2 else C2 i) i j):=by
 by_cases hik:i=k
 · subst hik
   by_cases h14:j=14
   · subst h14
     rw [if_pos ⟨rfl,rfl⟩]
     refine .inr (.inr ⟨0,(D i).nc,cap2,cW (D i).I (D i).X (D i).Y,rfl,?_,by show 0+(D i).nc<=(D i).nc;omega,fun a b _ _=>by rw [Nat.zero_add]⟩)
     show AV.vsl 9 (D i).nc (if i=i then cap2 else C2 i) _=_
     rw [if_pos rfl]
   rw [if_neg (fun h=>h14 h.2)]
   refine .inl ?_
   revert h14
   revert j
   refine fun j hj=>lt26 (P:=fun j=>j ≠ 14->dlG D (fun m=>if m=i then cap1 else C1 m) (fun m=>if m=i then cap2 else C2 m) i j=dlG D (fun m=>if m=i then cap1 else C1 m) C2 i j) ?_ ?_ ?_ ?_ ?_ ?_ ?_ ?_ ?_ ?_ ?_ ?_ ?_ ?_ ?_ ?_ ?_ ?_ ?_ ?_ ?_ ?_ ?_ ?_ ?_ ?_ j hj
   all_goals (intro a;first | rfl | exact absurd rfl a)
 · rw [if_neg (fun h=>hik h.1)]
   refine .inl ?_
   unfold dlG;simp only [if_neg hik]
set_option maxHeartbeats 4000000 in
theorem S_TwinDealers0 (r cap:Nat) (D:Nat->Dl) (d1 d2:Nat->Nat) (hr:r<=10) (hD:∀ k,k<r->(D k).ns<=20/\(D k).nc<=8):ACall Pg dV [.vsl 26 r cap (dlG D d1 d2)] [] (fun v m'=>(v= .nils/\r=0)\/∃ l cap c1 c2,v= .sl l 0 r cap/\m'[l]? = some (some ⟨26,r,dlG D c1 c2⟩)):=by
 refine qA ⟨rfl,?_⟩
 conv=>whnf
 repeat (refine⟨⟨_,rfl⟩,?_⟩;conv=>whnf)
 refine loop_fz aH (I:=fun q l m=>∃ (k c':Nat) (C1 C2:Nat->Nat),l= [(0,.vsl 26 r cap (dlG D d1 d2)),(3,.sl 0 0 k c'),(4,.int .i64 k)] /\ m= [some ⟨26,k,dlG D C1 C2⟩] /\ q+k=r) r
  (l0:= [(0,.vsl 26 r cap (dlG D d1 d2)),(3,.sl 0 0 0 0),(4,.int .i64 (0:Nat))]) (m0:= [some ⟨26,0,dlG D (fun _=>0) (fun _=>0)⟩]) [none] ⟨0,0,_,_,rfl,rfl,rfl⟩ ?_ ?_
 · exact .mk0 ⟨.eq _ _ rfl bB,.nils _ _,Flat.i rfl,trivial⟩ ⟨.ph _ _ _ rfl,trivial⟩ rfl rfl
 · rintro q l m ⟨k,c',C1,C2,rfl,rfl,hq⟩
   conv=>whnf
   repeat (refine⟨⟨_,rfl⟩,?_⟩;conv=>whnf)
   refine aE (fun hb=> ?_) (fun hb=> ?_)
   · have hb:k<r:=by simp at hb;omega
     obtain⟨h1,h2⟩:=hD k hb
     have h1':(D (k:Int).toNat).ns<=20:=h1
     conv=>whnf
     repeat (refine⟨⟨_,rfl⟩,?_⟩;conv=>whnf)
     refine aA (by simp;omega) ?_
     conv=>whnf
     repeat (refine⟨⟨_,rfl⟩,?_⟩;conv=>whnf)
     refine⟨?_,?_⟩
     · refine⟨?_,?_⟩
       · conv=>whnf
         repeat (refine⟨⟨_,rfl⟩,?_⟩;conv=>whnf)
         refine aA (cH (by first | rfl | simp) rfl rfl (by omega) (by omega)) (fun cap1 hcap1=> ?_)
         conv=>whnf
         repeat (refine⟨⟨_,rfl⟩,?_⟩;conv=>whnf)
         refine rM (n:=(D k).nc) (I:=(D k).I) (X:=(D k).X) (Y:=(D k).Y) (aO.vsl fun i j _ _=>bR) (by omega) (fun cap2=> ?_)
         conv=>whnf
         repeat (refine⟨⟨_,rfl⟩,?_⟩;conv=>whnf)
         refine aA (cH (by first | rfl | simp) rfl rfl (by omega) (by omega)) (fun cap3 hcap3=> ?_)
         conv=>whnf
         repeat (refine⟨⟨_,rfl⟩,?_⟩;conv=>whnf)
         have e5:IntKind.i64.wrap ((k:Int)+1)=((k+1:Nat):Int):=by rw [w64 (by omega) (by omega)];omega
         refine⟨q - 1,[(0,.vsl 26 r cap (dlG D d1 d2)),(3,.sl 0 0 (k+1) cap3),(4,.int .i64 ((k+1:Nat):Int))],[none,none,none,none,none,some ⟨26,k+1,dlG D (fun i=>if i=k then cap1 else C1 i) (fun i=>if i=k then cap2 else C2 i)⟩],[some ⟨26,k+1,dlG D (fun i=>if i=k then cap1 else C1 i) (fun i=>if i=k then cap2 else C2 i)⟩],[some 5],by omega,⟨k+1,cap3,_,_,rfl,rfl,by omega⟩,?_,?_⟩
         · refine .step 2 _ _ [none,none,none,some ⟨9,(D k).nc,cW (D k).I (D k).X (D k).Y⟩,none,some ⟨26,k+1,fun i j=>if i=k/\j=14 then .sl 3 0 (D k).nc cap2 else dlG D (fun i=>if i=k then cap1 else C1 i) C2 i j⟩] _ rfl (.c (.inl rfl) (.c (.inl rfl) (.c (.inl rfl) (.c (.inr ⟨by decide,_,_,rfl,rfl,rfl,Nat.le_refl _,fun i j _ _=> .inl rfl⟩) (.c (.inl rfl) (.c (.inr ⟨by decide,_,_,rfl,rfl,rfl,Nat.le_refl _,fun i j hi hj=> ?_⟩) .n)))))) ?_
           · refine fz_a D d1 d2 C1 C2 k cap1 cap2 i j hi hj _ (fun h=> ?_) (fun h=> ?_)
             · dsimp only
               rw [bL (by omega),h,Nat.sub_self]
               clear hi
               revert j
               exact lt26 rfl rfl rfl rfl rfl rfl rfl rfl rfl rfl rfl rfl rfl rfl rfl rfl rfl rfl rfl rfl rfl rfl rfl rfl rfl rfl
             · dsimp only
               have hi:i<k+1:=hi
               rw [cY (by omega)]
           · refine .step 3 ⟨9,(D k).nc,cW (D k).I (D k).X (D k).Y⟩ _ [none,none,none,none,none,some ⟨26,k+1,dlG D (fun i=>if i=k then cap1 else C1 i) (fun i=>if i=k then cap2 else C2 i)⟩] _ rfl (.c (.inl rfl) (.c (.inl rfl) (.c (.inl rfl) (.c (.inl rfl) (.c (.inl rfl) (.c (.inr ⟨by decide,_,_,rfl,rfl,rfl,Nat.le_refl _,fun i j hi hj=> ?_⟩) .n)))))) (.refl _)
             exact fz_b D C1 C2 k cap1 cap2 i j hi hj
         · exact .mk0 ⟨.eq _ _ rfl bB,.sl _ _ _ _ _ rfl,Flat.i e5,trivial⟩ ⟨.old 0 5 _ _ rfl rfl ⟨rfl,Nat.le_refl _,fun i j hi hj=>RV.of rfl (by dsimp only;exact sC)⟩,trivial⟩ rfl rfl
       · conv=>whnf
         repeat (refine⟨⟨_,rfl⟩,?_⟩;conv=>whnf)
         refine aA (cH (by first | rfl | simp) rfl rfl (by omega) (by omega)) (fun cap1 hcap1=> ?_)
         conv=>whnf
         repeat (refine⟨⟨_,rfl⟩,?_⟩;conv=>whnf)
         refine rM (n:=(D k).nc) (I:=(D k).I) (X:=(D k).X) (Y:=(D k).Y) (aO.vsl fun i j _ _=>bR) (by omega) (fun cap2=> ?_)
         conv=>whnf
         repeat (refine⟨⟨_,rfl⟩,?_⟩;conv=>whnf)
         refine aA (cH (by first | rfl | simp) rfl rfl (by omega) (by omega)) (fun cap3 hcap3=> ?_)
         conv=>whnf
         repeat (refine⟨⟨_,rfl⟩,?_⟩;conv=>whnf)
         have e5:IntKind.i64.wrap ((k:Int)+1)=((k+1:Nat):Int):=by rw [w64 (by omega) (by omega)];omega
         refine⟨q - 1,[(0,.vsl 26 r cap (dlG D d1 d2)),(3,.sl 0 0 (k+1) cap3),(4,.int .i64 ((k+1:Nat):Int))],[none,none,none,none,none,some ⟨26,k+1,dlG D (fun i=>if i=k then cap1 else C1 i) (fun i=>if i=k then cap2 else C2 i)⟩],[some ⟨26,k+1,dlG D (fun i=>if i=k then cap1 else C1 i) (fun i=>if i=k then cap2 else C2 i)⟩],[some 5],by omega,⟨k+1,cap3,_,_,rfl,rfl,by omega⟩,?_,?_⟩
         · refine .step 2 _ _ [none,none,none,some ⟨9,(D k).nc,cW (D k).I (D k).X (D k).Y⟩,none,some ⟨26,k+1,fun i j=>if i=k/\j=14 then .sl 3 0 (D k).nc cap2 else dlG D (fun i=>if i=k then cap1 else C1 i) C2 i j⟩] _ rfl (.c (.inl rfl) (.c (.inl rfl) (.c (.inl rfl) (.c (.inr ⟨by decide,_,_,rfl,rfl,rfl,Nat.le_refl _,fun i j _ _=> .inl rfl⟩) (.c (.inl rfl) (.c (.inr ⟨by decide,_,_,rfl,rfl,rfl,Nat.le_refl _,fun i j hi hj=> ?_⟩) .n)))))) ?_
           · refine fz_a D d1 d2 C1 C2 k cap1 cap2 i j hi hj _ (fun h=> ?_) (fun h=> ?_)
             · dsimp only
               rw [bL (by omega),h,Nat.sub_self]
               clear hi
               revert j
               exact lt26 rfl rfl rfl rfl rfl rfl rfl rfl rfl rfl rfl rfl rfl rfl rfl rfl rfl rfl rfl rfl rfl rfl rfl rfl rfl rfl
             · dsimp only
               have hi:i<k+1:=hi
               rw [cY (by omega)]
           · refine .step 3 ⟨9,(D k).nc,cW (D k).I (D k).X (D k).Y⟩ _ [none,none,none,none,none,some ⟨26,k+1,dlG D (fun i=>if i=k then cap1 else C1 i) (fun i=>if i=k then cap2 else C2 i)⟩] _ rfl (.c (.inl rfl) (.c (.inl rfl) (.c (.inl rfl) (.c (.inl rfl) (.c (.inl rfl) (.c (.inr ⟨by decide,_,_,rfl,rfl,rfl,Nat.le_refl _,fun i j hi hj=> ?_⟩) .n)))))) (.refl _)
             exact fz_b D C1 C2 k cap1 cap2 i j hi hj
         · exact .mk0 ⟨.eq _ _ rfl bB,.sl _ _ _ _ _ rfl,Flat.i e5,trivial⟩ ⟨.old 0 5 _ _ rfl rfl ⟨rfl,Nat.le_refl _,fun i j hi hj=>RV.of rfl (by dsimp only;exact sC)⟩,trivial⟩ rfl rfl
     · conv=>whnf
       repeat (refine⟨⟨_,rfl⟩,?_⟩;conv=>whnf)
       refine aA (cH (by first | rfl | simp) rfl rfl (by omega) (by omega)) (fun cap1 hcap1=> ?_)
       conv=>whnf
       repeat (refine⟨⟨_,rfl⟩,?_⟩;conv=>whnf)
       refine rM (n:=(D k).nc) (I:=(D k).I) (X:=(D k).X) (Y:=(D k).Y) (aO.vsl fun i j _ _=>bR) (by omega) (fun cap2=> ?_)
       conv=>whnf
       repeat (refine⟨⟨_,rfl⟩,?_⟩;conv=>whnf)
       refine aA (cH (by first | rfl | simp) rfl rfl (by omega) (by omega)) (fun cap3 hcap3=> ?_)
       conv=>whnf
       repeat (refine⟨⟨_,rfl⟩,?_⟩;conv=>whnf)
       have e5:IntKind.i64.wrap ((k:Int)+1)=((k+1:Nat):Int):=by rw [w64 (by omega) (by omega)];omega
       refine⟨q - 1,[(0,.vsl 26 r cap (dlG D d1 d2)),(3,.sl 0 0 (k+1) cap3),(4,.int .i64 ((k+1:Nat):Int))],[none,none,none,none,none,some ⟨26,k+1,dlG D (fun i=>if i=k then cap1 else C1 i) (fun i=>if i=k then cap2 else C2 i)⟩],[some ⟨26,k+1,dlG D (fun i=>if i=k then cap1 else C1 i) (fun i=>if i=k then cap2 else C2 i)⟩],[some 5],by omega,⟨k+1,cap3,_,_,rfl,rfl,by omega⟩,?_,?_⟩
       · refine .step 2 _ _ [none,none,none,some ⟨9,(D k).nc,cW (D k).I (D k).X (D k).Y⟩,none,some ⟨26,k+1,fun i j=>if i=k/\j=14 then .sl 3 0 (D k).nc cap2 else dlG D (fun i=>if i=k then cap1 else C1 i) C2 i j⟩] _ rfl (.c (.inl rfl) (.c (.inl rfl) (.c (.inl rfl) (.c (.inr ⟨by decide,_,_,rfl,rfl,rfl,Nat.le_refl _,fun i j _ _=> .inl rfl⟩) (.c (.inl rfl) (.c (.inr ⟨by decide,_,_,rfl,rfl,rfl,Nat.le_refl _,fun i j hi hj=> ?_⟩) .n)))))) ?_
         · refine fz_a D d1 d2 C1 C2 k cap1 cap2 i j hi hj _ (fun h=> ?_) (fun h=> ?_)
           · dsimp only
             rw [bL (by omega),h,Nat.sub_self]
             clear hi
             revert j
             exact lt26 rfl rfl rfl rfl rfl rfl rfl rfl rfl rfl rfl rfl rfl rfl rfl rfl rfl rfl rfl rfl rfl rfl rfl rfl rfl rfl
           · dsimp only
             have hi:i<k+1:=hi
             rw [cY (by omega)]
         · refine .step 3 ⟨9,(D k).nc,cW (D k).I (D k).X (D k).Y⟩ _ [none,none,none,none,none,some ⟨26,k+1,dlG D (fun i=>if i=k then cap1 else C1 i) (fun i=>if i=k then cap2 else C2 i)⟩] _ rfl (.c (.inl rfl) (.c (.inl rfl) (.c (.inl rfl) (.c (.inl rfl) (.c (.inl rfl) (.c (.inr ⟨by decide,_,_,rfl,rfl,rfl,Nat.le_refl _,fun i j hi hj=> ?_⟩) .n)))))) (.refl _)
           exact fz_b D C1 C2 k cap1 cap2 i j hi hj
       · exact .mk0 ⟨.eq _ _ rfl bB,.sl _ _ _ _ _ rfl,Flat.i e5,trivial⟩ ⟨.old 0 5 _ _ rfl rfl ⟨rfl,Nat.le_refl _,fun i j hi hj=>RV.of rfl (by dsimp only;exact sC)⟩,trivial⟩ rfl rfl
   · have hb:k=r:=by simp at hb;omega
     subst hb
     conv=>whnf
     repeat (refine⟨⟨_,rfl⟩,?_⟩;conv=>whnf)
     exact .inr ⟨0,c',C1,C2,rfl,rfl⟩
theorem S_Heavy {m:Mem} {x:AV} {K:AV->Mem->Prop} {r:Nat} {D:Nat->Dl} (hx:aT m x r D) (h1:True->K (.bool true) m) (h2:r<=10->(∀ k,k<r->(D k).ns<=20/\(D k).nc<=8)->K (.bool false) m):ACall Pg iA [x] m K:=by
 obtain⟨cap,d1,d2,hl⟩:=hx
 refine aC (S_Heavy0 r cap D d1 d2) (.cons _ _ _ _ hl .nil) ?_
 rintro v (rfl | ⟨rfl,g1,g2⟩)
 · exact h1 trivial
 · exact h2 g1 g2
theorem S_TwinDealers {m:Mem} {K:AV->Mem->Prop} {r cap:Nat} {D:Nat->Dl} {d1 d2:Nat->Nat} (hr:r<=10) (hD:∀ k,k<r->(D k).ns<=20/\(D k).nc<=8) (hK:∀ cap c1 c2,memK (m++ [some ⟨26,r,dlG D c1 c2⟩]) (K (.sl m.length 0 r cap))):ACall Pg dV [.vsl 26 r cap (dlG D d1 d2)] m K:=by
 simp only [cU]at hK
 refine(S_TwinDealers0 r cap D d1 d2 hr hD).frame0 false [] (fun _=>rfl) (.cons _ _ _ _ (aI bB) .nil) (fun v m' hv=> ?_)
 rcases hv with⟨rfl,rfl⟩ | ⟨l,cap2,c1,c2,rfl,h1⟩
 · exact⟨.sl m.length 0 0 0,[some ⟨26,0,dlG D (fun _=>0) (fun _=>0)⟩],[none],Nat.le_refl _,fun i j q hi=>by cases i <;> simp at hi,.nils _ _,⟨.ph _ _ _ (by simp [dF]),trivial⟩,hK 0 _ _⟩
 · refine⟨.sl m.length 0 r cap2,[some ⟨26,r,dlG D c1 c2⟩],[some l],Nat.le_refl _,fun i j q hi hj=> ?_,.sl _ _ _ _ _ (by simp [dF]),⟨.old _ l _ _ (by simp [dF]) h1 ⟨rfl,Nat.le_refl _,fun i j hi hj=>RV.of rfl (by dsimp only;exact sC)⟩,trivial⟩,hK cap2 c1 c2⟩
   cases i <;> cases j <;> simp at hi hj;rfl
theorem aT.own {m:Mem} {l n cap N:Nat} {D:Nat->Dl} {c1 c2:Nat->Nat} (h:m[l]? = some (some ⟨26,N,dlG D c1 c2⟩)) (hn:n<=N):aT m (.sl l 0 n cap) n D:=by
 obtain⟨cap',hl⟩:=aO.own h hn (fun i j=>sC)
 exact⟨cap',c1,c2,hl⟩
theorem S_kDealer0 (d:Dl) (c1 c2 e1 e2:Nat) (hd:OkD d):ACall Pg iB [dlA d c1 c2,dlA d e1 e2] [] (fun v _=>v= .bool true/\Flat true v):=by
 obtain⟨ac,i,x,y,lb,hd',ps,ns,S,nc,I,X,Y,bd,st,j,u,v⟩:=d
 obtain⟨hx,hy,hu,hv,hX,hY,hS,hns,hnc⟩:=hd
 dsimp only at hx hy hu hv hX hY hS hns hnc
 refine vX ⟨rfl,?_⟩
 conv=>whnf
 repeat (refine⟨⟨_,rfl⟩,?_⟩;conv=>whnf)
 refine aS (by simp) ?_
 conv=>whnf
 repeat (refine⟨⟨_,rfl⟩,?_⟩;conv=>whnf)
 refine rK (i:=i) (x:=x) (y:=y) rfl rfl hx hy ?_
 conv=>whnf
 repeat (refine⟨⟨_,rfl⟩,?_⟩;conv=>whnf)
 refine aS (Eq.trans (b:=((lb.toList == lb.toList) == true)) rfl (by simp)) ?_
 conv=>whnf
 repeat (refine⟨⟨_,rfl⟩,?_⟩;conv=>whnf)
 refine aS (by simp) ?_
 conv=>whnf
 repeat (refine⟨⟨_,rfl⟩,?_⟩;conv=>whnf)
 refine aS (Eq.trans (b:=((ps == ps) == true)) rfl (by simp)) ?_
 conv=>whnf
 repeat (refine⟨⟨_,rfl⟩,?_⟩;conv=>whnf)
 refine S_kSeals (n:=ns) (k:=ns) (S:=S) (T:=S) (aO.vsl fun i j _ _=>eT) (aO.vsl fun i j _ _=>eT) hns hns (fun _ _=> ?_) (fun h=>absurd ⟨rfl,fun _ _ _ _=>rfl⟩ h)
 conv=>whnf
 repeat (refine⟨⟨_,rfl⟩,?_⟩;conv=>whnf)
 refine S_kPoints (n:=nc) (I:=I) (X:=X) (Y:=Y) (aO.vsl fun i j _ _=>bR) (aO.vsl fun i j _ _=>bR) hX hY (by omega) ?_
 conv=>whnf
 repeat (refine⟨⟨_,rfl⟩,?_⟩;conv=>whnf)
 refine aS (Eq.trans (b:=((bd == bd) == true)) rfl (by simp)) ?_
 conv=>whnf
 repeat (refine⟨⟨_,rfl⟩,?_⟩;conv=>whnf)
 refine aS (Eq.trans (b:=((st == st) == true)) rfl (by simp)) ?_
 conv=>whnf
 repeat (refine⟨⟨_,rfl⟩,?_⟩;conv=>whnf)
 refine rK (i:=j) (x:=u) (y:=v) rfl rfl hu hv ?_
 conv=>whnf
 repeat (refine⟨⟨_,rfl⟩,?_⟩;conv=>whnf)
 exact⟨rfl,.bool _⟩
theorem S_kDealer {m:Mem} {K:AV->Mem->Prop} {v w:AV} {d:Dl} {c1 c2 e1 e2:Nat} (hv:v=dlA d c1 c2) (hw:w=dlA d e1 e2) (hd:OkD d) (h:K (.bool true) m):ACall Pg iB [v,w] m K:=by
 subst hv hw
 refine aC (S_kDealer0 d c1 c2 e1 e2 hd) (.cons _ _ _ _ (aI flat_dlA) (.cons _ _ _ _ (aI flat_dlA) .nil)) ?_
 rintro v rfl
 exact h
theorem S_kDealers0 (r cap cap2:Nat) (D:Nat->Dl) (c1 c2 e1 e2:Nat->Nat) (hr:r<=1000000) (hD:∀ k,k<r->OkD (D k)):ACall Pg gJ [.vsl 26 r cap (dlG D c1 c2),.vsl 26 r cap2 (dlG D e1 e2)] [] (fun v _=>v= .bool true/\Flat true v):=by
 refine tQ ⟨rfl,?_⟩
 conv=>whnf
 repeat (refine⟨⟨_,rfl⟩,?_⟩;conv=>whnf)
 refine fL (by simp) ?_
 conv=>whnf
 repeat (refine⟨⟨_,rfl⟩,?_⟩;conv=>whnf)
 refine aU aH (I:=fun q l m=>∃ (k:Nat),l= [(0,.vsl 26 r cap (dlG D c1 c2)),(1,.vsl 26 r cap2 (dlG D e1 e2)),(5,.int .i64 k)] /\ m= [] /\ q+k=r) r
  (l0:= [(0,.vsl 26 r cap (dlG D c1 c2)),(1,.vsl 26 r cap2 (dlG D e1 e2)),(5,.int .i64 (0:Nat))]) (m0:= []) [] ⟨0,rfl,rfl,rfl⟩ ?_ ?_
 · exact .mk0 ⟨.eq _ _ rfl bB,.eq _ _ rfl bB,Flat.i rfl,trivial⟩ trivial rfl rfl
 · rintro q l m ⟨k,rfl,rfl,hq⟩
   conv=>whnf
   repeat (refine⟨⟨_,rfl⟩,?_⟩;conv=>whnf)
   refine aE (fun hb=> ?_) (fun hb=> ?_)
   · have hb:k<r:=by simp at hb;omega
     conv=>whnf
     repeat (refine⟨⟨_,rfl⟩,?_⟩;conv=>whnf)
     refine aA (by simp;omega) ?_
     conv=>whnf
     repeat (refine⟨⟨_,rfl⟩,?_⟩;conv=>whnf)
     refine aA (by simp;omega) ?_
     conv=>whnf
     repeat (refine⟨⟨_,rfl⟩,?_⟩;conv=>whnf)
     refine S_kDealer (d:=D k) (c1:=c1 k) (c2:=c2 k) (e1:=e1 k) (e2:=e2 k) rfl rfl (hD k hb) ?_
     conv=>whnf
     repeat (refine⟨⟨_,rfl⟩,?_⟩;conv=>whnf)
     have e5:IntKind.i64.wrap ((k:Int)+1)=((k+1:Nat):Int):=by rw [w64 (by omega) (by omega)];omega
     refine⟨q - 1,[(0,.vsl 26 r cap (dlG D c1 c2)),(1,.vsl 26 r cap2 (dlG D e1 e2)),(5,.int .i64 ((k+1:Nat):Int))],[],[],by omega,⟨k+1,rfl,rfl,by omega⟩,?_⟩
     exact .mk0 ⟨.eq _ _ rfl bB,.eq _ _ rfl bB,Flat.i e5,trivial⟩ trivial rfl rfl
   · conv=>whnf
     repeat (refine⟨⟨_,rfl⟩,?_⟩;conv=>whnf)
     exact⟨rfl,.bool _⟩
theorem lO {m:Mem} {x y:AV} {K:AV->Mem->Prop} {r:Nat} {D:Nat->Dl} (hx:aT m x r D) (hy:aT m y r D) (hr:r<=1000000) (hD:∀ k,k<r->OkD (D k)) (h:K (.bool true) m):ACall Pg gJ [x,y] m K:=by
 obtain⟨cap,c1,c2,h1⟩:=hx
 obtain⟨cap2,e1,e2,h2⟩:=hy
 refine aC (S_kDealers0 r cap cap2 D c1 c2 e1 e2 hr hD) (.cons _ _ _ _ h1 (.cons _ _ _ _ h2 .nil)) ?_
 rintro v rfl
 exact h
end Go.Proofs.YtfolpdmbpbbimaaGreat
end

section
namespace Go.Proofs.YtfolpdmbpbbimaaGreat
open Go Go.Wit
end Go.Proofs.YtfolpdmbpbbimaaGreat
end

section
namespace Go.Proofs.YtfolpdmbpbbimaaGreat
open Go Go.Wit
theorem rv_act {nv:Bool} {σ:Nat->Option Nat} {k:Int} {i:Bool} {x y:Nat} {s:ByteArray} {sl co sl' co':AV} {ag:Int} {c r:Nat} (h1:RV nv σ sl sl') (h2:RV nv σ co co'):
 RV nv σ (actA k i x y s sl co ag c r) (actA k i x y s sl' co' ag c r):=by
 refine .agg _ _ ?_
 unfold actL
 refine .cons _ _ _ _ (.eq _ _ rfl (.int _ _)) (.cons _ _ _ _ (.eq _ _ rfl (.bool _)) ?_)
 iterate 8 refine .cons _ _ _ _ (.eq _ _ rfl (.int _ _)) ?_
 refine .cons _ _ _ _ (.eq _ _ rfl (.str _)) (.cons _ _ _ _ h1 (.cons _ _ _ _ h2 (.cons _ _ _ _ (.eq _ _ rfl (.int _ _)) ?_)))
 iterate 8 refine .cons _ _ _ _ (.eq _ _ rfl (.int _ _)) ?_
 exact .nil
theorem lift_act {P:Program} {fn:FuncId} {args args0:List AV} {m:Mem} {K:AV->Mem->Prop} {k:Int} {i:Bool} {x y:Nat} {s:ByteArray} {ag:Int} {c r:Nat} {n1 n2:Nat} {G1 G2:Nat->Nat->AV} {e:Int}
 (h:ACall P fn args0 [] (fun v m'=>∃ sl co,v= .tup [actA k i x y s sl co ag c r,.int .i64 e] /\ RetG 32 n1 G1 sl m'/\RetG 9 n2 G2 co m'))
 (hf1:∀ i j,i<n1->j<32->Flat true (G1 i j)) (hf2:∀ i j,i<n2->j<9->Flat true (G2 i j)) (ha:Lends (fun _=>none) (List.range m.length) m args args0)
 (hK:∀ c1 c2,K (.tup [actA k i x y s (.sl m.length 0 n1 c1) (.sl (m.length+1) 0 n2 c2) ag c r,.int .i64 e]) (m++ [some ⟨32,n1,G1⟩,some ⟨9,n2,G2⟩])):ACall P fn args m K:=by
 refine h.frame0 true (List.range m.length) (fun h=>by cases h) ha (fun v m' hv=> ?_)
 obtain⟨sl,co,rfl,h1,h2⟩:=hv
 obtain⟨c1,q1,r1,b1,d1⟩ :∃ c1 q1,RV true (dF m.length [q1,none]) sl (.sl m.length 0 n1 c1)/\(∀ q2,RV true (dF m.length [q1,q2]) sl (.sl m.length 0 n1 c1))/\((q1=none/\n1=0)\/∃ l N g,q1=some l/\m'[l]? = some (some ⟨32,N,g⟩)/\n1<=N/\∀ i j,i<n1->j<32->g i j=G1 i j):=by
  rcases h1 with⟨rfl,rfl⟩ | ⟨l,cap,N,g,rfl,g1,g2,g3⟩
  · exact⟨0,none,.nils _ _,fun _=> .nils _ _,.inl ⟨rfl,rfl⟩⟩
  · exact⟨cap,some l,.sl _ _ _ _ _ (by simp [dF]),fun _=> .sl _ _ _ _ _ (by simp [dF]),.inr ⟨l,N,g,rfl,g1,g2,g3⟩⟩
 obtain⟨c2,q2,r2,d2⟩ :∃ c2 q2,RV true (dF m.length [q1,q2]) co (.sl (m.length+1) 0 n2 c2)/\((q2=none/\n2=0)\/∃ l N g,q2=some l/\m'[l]? = some (some ⟨9,N,g⟩)/\n2<=N/\∀ i j,i<n2->j<9->g i j=G2 i j):=by
  rcases h2 with⟨rfl,rfl⟩ | ⟨l,cap,N,g,rfl,g1,g2,g3⟩
  · exact⟨0,none,.nils _ _,.inl ⟨rfl,rfl⟩⟩
  · exact⟨cap,some l,.sl _ _ _ _ _ (by simp [dF]),.inr ⟨l,N,g,rfl,g1,g2,g3⟩⟩
 refine⟨.tup [actA k i x y s (.sl m.length 0 n1 c1) (.sl (m.length+1) 0 n2 c2) ag c r,.int .i64 e],[some ⟨32,n1,G1⟩,some ⟨9,n2,G2⟩],[q1,q2],Nat.le_refl _,fun i j q hi hj=> ?_,.tup _ _ (.cons _ _ _ _ (rv_act (b1 q2) r2) (.cons _ _ _ _ (.eq _ _ rfl (.int _ _)) .nil)),⟨?_,?_,trivial⟩,hK c1 c2⟩
 · have key:q1=some q->q2=some q->False:=fun e1 e2=>by
    rcases d1 with⟨rfl,_⟩ | ⟨l,N,g,rfl,g1,_⟩
    · cases e1
    rcases d2 with⟨rfl,_⟩ | ⟨l',N',g',rfl,g1',_⟩
    · cases e2
    obtain rfl:=Option.some.inj e1
    obtain rfl:=Option.some.inj e2
    rw [g1]at g1'
    have:=congrArg (fun o:Option (Option Blk)=>match o with | some (some b)=>b.es | _=>0) g1'
    simp at this
   match i,j,hi,hj with
   | 0,0,_,_=>rfl
   | 1,1,_,_=>rfl
   | 0,1,hi,hj=>exact absurd (key (by simpa using hi) (by simpa using hj)) id
   | 1,0,hi,hj=>exact absurd (key (by simpa using hj) (by simpa using hi)) id
   | i+2,_,hi,_=>simp at hi
   | _,j+2,_,hj=>simp at hj
 · rcases d1 with⟨rfl,rfl⟩ | ⟨l,N,g,rfl,g1,g2,g3⟩
   · exact .ph _ _ _ (by simp [dF])
   · exact .old _ l _ _ (by simp [dF]) g1 ⟨rfl,g2,fun i j hi hj=> .eq _ _ (g3 i j hi hj) (by rw [show (Blk.mk 32 N g).get i j=g i j from rfl,g3 i j hi hj];exact hf1 i j hi hj)⟩
 · rcases d2 with⟨rfl,rfl⟩ | ⟨l,N,g,rfl,g1,g2,g3⟩
   · exact .ph _ _ _ (by simp [dF])
   · exact .old _ l _ _ (by simp [dF]) g1 ⟨rfl,g2,fun i j hi hj=> .eq _ _ (g3 i j hi hj) (by rw [show (Blk.mk 9 N g).get i j=g i j from rfl,g3 i j hi hj];exact hf2 i j hi hj)⟩
theorem S_Post {m:Mem} {x z:AV} {K:AV->Mem->Prop} {n t:Nat} {f:Nat->Int} {r:Nat} {D:Nat->Dl} {me:Nat} (hx:aM m x n f) (hz:aT m z r D) (hn:n<=16384) (ht:t<64) (hf:∀ i,i<n->0<=f i/\f i<=255) (hr:r<=8) (hm:1<=me/\me<=r) (hD:∀ k,k<r->On (ptOf (D k))/\rawA (D k).i (D k).x (D k).y=ptA (ptOf (D k))/\(D k).x<w256/\(D k).y<w256)
 (h:∀ S P c1 c2,S=sealN n f t D me->P=(fun i=>nmul (coN n f i) gG)->memK (m++ [some ⟨32,r - 1,fN S⟩,some ⟨9,t+1,ptsG P⟩]) (K (.tup [actA 2 false 0 0 nB (.sl m.length 0 (r - 1) c1) (.sl (m.length+1) 0 (t+1) c2) 0 0 0,.int .i64 0]))):ACall Pg gN [x,.int .i64 t,z,.int .i64 me] m K:=by
 simp only [cU]at h
 obtain⟨cap,hl⟩:=hx
 obtain⟨c1,d1,d2,hl2⟩:=hz
 exact lift_act (S_Post0 n cap t f r c1 d1 d2 D me hn ht hf hr hm hD) (fun i j _ _=> .int _ _) (fun i j _ _=>bN) (.cons _ _ _ _ hl (.cons _ _ _ _ aG (.cons _ _ _ _ hl2 (.cons _ _ _ _ aG .nil)))) (fun k1 k2=>h _ _ k1 k2 rfl rfl)
end Go.Proofs.YtfolpdmbpbbimaaGreat
end

section
namespace Go.Proofs.YtfolpdmbpbbimaaGreat
open Go Go.Wit
theorem S_Rpmul {m:Mem} {K:AV->Mem->Prop} {a b:Nat} (ha:a<w256) (hb:b<w256) (h:∀ r,r=a*b % nN->K (numA r) m):ACall Pg dP [numA a,numA b] m K:=by
 have h0:ACall Pg dP [numA a,numA b] [] (fun v _=>v=numA (a*b % nN)/\Flat true v):=by
  refine qG ⟨rfl,?_⟩
  conv=>whnf
  repeat (refine⟨⟨[],rfl⟩,?_⟩;conv=>whnf)
  refine S_RFMul_1 ha hb (fun r hr=> ?_)
  conv=>whnf
  repeat (refine⟨⟨[],rfl⟩,?_⟩;conv=>whnf)
  rw [<- hr]
  exact⟨rfl,aL⟩
 refine aC h0 (.cons _ _ _ _ aF (.cons _ _ _ _ aF .nil)) ?_
 rintro v rfl
 exact h _ rfl
theorem S_Rpadd {m:Mem} {K:AV->Mem->Prop} {a b:Nat} (ha:a<w256) (hb:b<w256) (h:∀ r,r=(a+b) % nN->K (numA r) m):ACall Pg jB [numA a,numA b] m K:=by
 have h0:ACall Pg jB [numA a,numA b] [] (fun v _=>v=numA ((a+b) % nN)/\Flat true v):=by
  refine zW ⟨rfl,?_⟩
  conv=>whnf
  repeat (refine⟨⟨[],rfl⟩,?_⟩;conv=>whnf)
  refine vF ha hb (fun r hr=> ?_)
  conv=>whnf
  repeat (refine⟨⟨[],rfl⟩,?_⟩;conv=>whnf)
  rw [<- hr]
  exact⟨rfl,aL⟩
 refine aC h0 (.cons _ _ _ _ aF (.cons _ _ _ _ aF .nil)) ?_
 rintro v rfl
 exact h _ rfl
theorem S_REval0 (n cap:Nat) (c:Nat->Nat) (x:Nat) (hx:x<w256) (hc:∀ i,i<n->c i<w256) (hn:n<=140737488355328):ACall Pg fT [.vsl 4 n cap (cV c),numA x] [] (fun v _=>v=numA (sumN c x n % nN)/\Flat true v):=by
 refine xS ⟨rfl,?_⟩
 conv=>whnf
 repeat (refine⟨⟨[],rfl⟩,?_⟩;conv=>whnf)
 have e10:IntKind.i64.wrap ((n:Int) - 1)=(n:Int) - 1:=w64 (by omega) (by omega)
 refine aU aH (I:=fun q l m=>∃ (v:Int) (t o:Nat),l= [(0,.vsl 4 n cap (cV c)),(3,.ptr 0 0 0),(4,.ptr 1 0 0),(5,.ptr 2 0 0),(6,.int .i64 v)] /\
  m= [some ⟨1,4,lstG 1 (numL x)⟩,some ⟨1,4,lstG 1 (numL 0)⟩,some ⟨1,4,lstG 1 (numL o)⟩] /\ q+t=n/\v=(q:Int) - 1/\o=horN c x n t % nN) n
  (l0:= [(0,.vsl 4 n cap (cV c)),(3,.ptr 0 0 0),(4,.ptr 1 0 0),(5,.ptr 2 0 0),(6,.int .i64 ((n:Int) - 1))])
  (m0:= [some ⟨1,4,lstG 1 (numL x)⟩,some ⟨1,4,lstG 1 (numL 0)⟩,some ⟨1,4,lstG 1 (numL 0)⟩]) [some 0,some 1,some 2] ⟨_,0,0,rfl,rfl,rfl,rfl,rfl⟩ ?_ ?_
 · refine .mk0 ⟨.eq _ _ rfl (.vsl _ _ _ _ rfl (fun _ _ _ _=>aV)),.ptr _ _ _ _ rfl,.ptr _ _ _ _ rfl,.ptr _ _ _ _ rfl,Flat.i e10,trivial⟩ ⟨.old 0 0 _ _ rfl rfl ⟨rfl,Nat.le_refl _,fun i j hi hj=> .eq _ _ rfl aJ⟩,
    .old 1 1 _ _ rfl rfl ⟨rfl,Nat.le_refl _,fun i j hi hj=> ?_⟩,.old 2 2 _ _ rfl rfl ⟨rfl,Nat.le_refl _,fun i j hi hj=> ?_⟩,trivial⟩ rfl rfl
   all_goals
    have hj:j<1:=hj
    have hi:i<4:=hi
    obtain rfl:j=0:=by omega
    have:i=0\/i=1\/i=2\/i=3:=by omega
    rcases this with rfl | rfl | rfl | rfl <;> exact .eq _ _ rfl (.int _ _)
 · rintro q l m ⟨v,t,o,rfl,rfl,hq,hv,ho⟩
   have ho1:o<w256:=by rw [ho];exact Nat.lt_trans (Nat.mod_lt _ (by decide)) (by decide)
   conv=>whnf
   repeat (refine⟨⟨[],rfl⟩,?_⟩;conv=>whnf)
   refine aE (fun hb=> ?_) (fun hb=> ?_)
   · have hb:v >= 0:=of_decide_eq_true hb
     obtain⟨k,rfl⟩ :∃ k,q=k+1:=⟨q - 1,by omega⟩
     obtain rfl:v=(k:Int):=by omega
     conv=>whnf
     repeat (refine⟨⟨[],rfl⟩,?_⟩;conv=>whnf)
     refine aA (by simp;omega) ?_
     conv=>whnf
     repeat (refine⟨⟨[],rfl⟩,?_⟩;conv=>whnf)
     refine S_Rpmul ho1 hx (fun r hr=> ?_)
     have hr1:r<w256:=by rw [hr];exact Nat.lt_trans (Nat.mod_lt _ (by decide)) (by decide)
     conv=>whnf
     repeat (refine⟨⟨[],rfl⟩,?_⟩;conv=>whnf)
     refine S_Rpadd (b:=c k) hr1 (hc k (by omega)) (fun s hs=> ?_)
     conv=>whnf
     repeat (refine⟨⟨[],rfl⟩,?_⟩;conv=>whnf)
     have hs2:s=horN c x n (t+1) % nN:=by rw [hs,hr,ho,mod_hor,horN_succ,show n - 1 - t=k by omega]
     have e5:IntKind.i64.wrap ((k:Int) - 1)=(k:Int) - 1:=w64 (by omega) (by omega)
     refine⟨k,_,_,[some 0,some 1,some 2],Nat.lt_succ_self _,⟨(k:Int) - 1,t+1,s,rfl,rfl,by omega,rfl,hs2⟩,?_⟩
     exact .mk0 ⟨.eq _ _ rfl (.vsl _ _ _ _ rfl (fun _ _ _ _=>aV)),.ptr _ _ _ _ rfl,.ptr _ _ _ _ rfl,.ptr _ _ _ _ rfl,Flat.i e5,trivial⟩ ⟨.old 0 0 _ _ rfl rfl ⟨rfl,Nat.le_refl _,fun i j hi hj=> .eq _ _ rfl iI⟩,
      .old 1 1 _ _ rfl rfl ⟨rfl,Nat.le_refl _,fun i j hi hj=> .eq _ _ rfl iI⟩,.old 2 2 _ _ rfl rfl ⟨rfl,Nat.le_refl _,fun i j hi hj=> .eq _ _ rfl iI⟩,trivial⟩ rfl rfl
   · have hb:¬ v >= 0:=of_decide_eq_false hb
     obtain rfl:q=0:=by omega
     obtain rfl:t=n:=by omega
     rw [horN_all]at ho
     conv=>whnf
     repeat (refine⟨⟨[],rfl⟩,?_⟩;conv=>whnf)
     rw [<- ho]
     exact⟨rfl,aL⟩
theorem S_REval {m:Mem} {a:AV} {K:AV->Mem->Prop} {n x:Nat} {c:Nat->Nat} (ha:aO m a 4 n (cV c)) (hx:x<w256) (hc:∀ i,i<n->c i<w256) (hn:n<=140737488355328) (h:∀ r,r=sumN c x n % nN->r<w256->K (numA r) m):ACall Pg fT [a,numA x] m K:=by
 obtain⟨cap,hl⟩:=ha
 refine aC (S_REval0 n cap c x hx hc hn) (.cons _ _ _ _ hl (.cons _ _ _ _ aF .nil)) ?_
 rintro v rfl
 exact h _ rfl (Nat.lt_trans (Nat.mod_lt _ (by decide)) (by decide))
theorem seal_row0 {nv:Bool} {σ:Nat->Option Nat} {A:AV} {S:Nat->Nat->Int} {i j:Nat} {s:Nat->Int} {g h:Nat->Nat->AV} (hi:i<0+1) (hj:j<32) (hs:∀ j,j<32->s j=S 0 j) (hA:A=catG 0 h g i j) (hg:∀ j,j<32->g 0 j= .int .u8 (s j)):RV nv σ A (fN S i j):=by
 obtain rfl:i=0:=by omega
 refine RV.of (hA.trans ?_) eT
 rw [bL (Nat.le_refl _),Nat.sub_self,hg j hj,hs j hj];rfl
set_option maxHeartbeats 4000000 in
theorem S_RPost0 (n cap t:Nat) (f:Nat->Int) (r c1:Nat) (d1 d2:Nat->Nat) (D:Nat->Dl) (me:Nat) (hn:n<=16384) (ht:t<64) (hf:∀ i,i<n->0<=f i/\f i<=255) (hr:r<=8) (hm:1<=me/\me<=r) (hD:∀ k,k<r->On (ptOf (D k))/\rawA (D k).i (D k).x (D k).y=ptA (ptOf (D k))/\(D k).x<w256/\(D k).y<w256):
 ACall Pg cR [.vsl 1 n cap (aB f),.int .i64 t,.vsl 26 r c1 (dlG D d1 d2),.int .i64 me] []
  (fun v m'=>∃ sl co,v= .tup [actA 2 false 0 0 nB sl co 0 0 0,.int .i64 0] /\ RetG 32 (r - 1) (fun q j=> .int .u8 (sealN n f t D me q j)) sl m'/\RetG 9 (t+1) (ptsG fun i=>nmul (coN n f i) gG) co m'):=by
 obtain⟨S,hS⟩ :∃ S:Nat->Nat->Int,S=sealN n f t D me:=⟨_,rfl⟩
 have hSq:∀ q,S q=tnF (nmul (secN n f) (ptOf (D (othN me q - 1)))) me (othN me q) (kJ (sumN (coN n f) (othN me q) (t+1) % nN)):=fun q=>by rw [hS];rfl
 rw [<- hS]
 clear hS
 obtain⟨xs,hxs⟩ :∃ s,s=secN n f:=⟨_,rfl⟩
 obtain⟨c,hc⟩ :∃ c,c=coN n f:=⟨_,rfl⟩
 rw [<- hc]
 rw [<- hc,<- hxs]at hSq
 refine kO ⟨rfl,?_⟩
 conv=>whnf
 repeat (refine⟨⟨_,rfl⟩,?_⟩;conv=>whnf)
 refine aS (by simp;omega) ?_
 conv=>whnf
 repeat (refine⟨⟨_,rfl⟩,?_⟩;conv=>whnf)
 refine aS (by simp;omega) ?_
 conv=>whnf
 repeat (refine⟨⟨_,rfl⟩,?_⟩;conv=>whnf)
 refine aS (by simp;omega) ?_
 conv=>whnf
 repeat (refine⟨⟨_,rfl⟩,?_⟩;conv=>whnf)
 refine fL (by simp;omega) ?_
 conv=>whnf
 repeat (refine⟨⟨_,rfl⟩,?_⟩;conv=>whnf)
 refine aU aH (I:=fun q l m=>∃ (k:Nat),l= [(0,.vsl 1 n cap (aB f)),(1,.int .i64 t),(2,.vsl 26 r c1 (dlG D d1 d2)),(3,.int .i64 me),(8,.ptr 0 0 0),(10,.int .i64 k)] /\ m= [some ⟨22,1,lstG 22 actZ⟩] /\ q+k=r) r
  (l0:= [(0,.vsl 1 n cap (aB f)),(1,.int .i64 t),(2,.vsl 26 r c1 (dlG D d1 d2)),(3,.int .i64 me),(8,.ptr 0 0 0),(10,.int .i64 (0:Nat))]) (m0:= [some ⟨22,1,lstG 22 actZ⟩]) [some 0] ⟨0,rfl,rfl,rfl⟩ ?_ ?_
 · exact .mk0 ⟨.eq _ _ rfl aW,Flat.i rfl,.eq _ _ rfl bB,Flat.i rfl,.ptr _ _ _ _ rfl,Flat.i rfl,trivial⟩ ⟨.old 0 0 _ _ rfl rfl ⟨rfl,Nat.le_refl _,fun i j hi hj=>aBy hi rfl⟩,trivial⟩ rfl rfl
 · rintro q l m ⟨k,rfl,rfl,hq⟩
   conv=>whnf
   repeat (refine⟨⟨_,rfl⟩,?_⟩;conv=>whnf)
   refine aE (fun hb=> ?_) (fun hb=> ?_)
   · have hb:k<r:=by simp at hb;omega
     have e5:IntKind.i64.wrap ((k:Int)+1)=((k+1:Nat):Int):=by rw [w64 (by omega) (by omega)];omega
     conv=>whnf
     repeat (refine⟨⟨_,rfl⟩,?_⟩;conv=>whnf)
     refine aA (by simp;omega) ?_
     conv=>whnf
     repeat (refine⟨⟨_,rfl⟩,?_⟩;conv=>whnf)
     refine S_rCheckD (i:=(D k).i) (x:=(D k).x) (y:=(D k).y) rfl (hD k hb).2.2.1 (hD k hb).2.2.2 (fun P oP eP=> ?_) (fun hbad=>absurd (hD k hb).2.1 (hbad _ (hD k hb).1))
     conv=>whnf
     repeat (refine⟨⟨_,rfl⟩,?_⟩;conv=>whnf)
     refine⟨q - 1,[(0,.vsl 1 n cap (aB f)),(1,.int .i64 t),(2,.vsl 26 r c1 (dlG D d1 d2)),(3,.int .i64 me),(8,.ptr 0 0 0),(10,.int .i64 ((k+1:Nat):Int))],[some ⟨22,1,lstG 22 actZ⟩],[some 0],by omega,⟨k+1,rfl,rfl,by omega⟩,?_⟩
     exact .mk0 ⟨.eq _ _ rfl aW,Flat.i rfl,.eq _ _ rfl bB,Flat.i rfl,.ptr _ _ _ _ rfl,Flat.i e5,trivial⟩ ⟨.old 0 0 _ _ rfl rfl ⟨rfl,Nat.le_refl _,fun i j hi hj=>lB hi hj rfl⟩,trivial⟩ rfl rfl
   · have hb:k=r:=by simp at hb;omega
     subst hb
     conv=>whnf
     repeat (refine⟨⟨_,rfl⟩,?_⟩;conv=>whnf)
     refine S_RPoly (n:=n) (t:=t) (f:=f) aM.vsl hn ht hf (fun c' cc hc' hcN _=> ?_)
     obtain rfl:c=c':=hc.trans hc'.symm
     conv=>whnf
     repeat (refine⟨⟨_,rfl⟩,?_⟩;conv=>whnf)
     refine S_RCommit (n:=t+1) (c:=c) (aO.sl rfl (by omega) (fun i j _ _=>⟨by rw [Nat.zero_add],aV⟩)) (fun i _=>Nat.lt_trans (hcN i) (by decide)) (by omega) (fun P cp hP=> ?_)
     conv=>whnf
     repeat (refine⟨⟨_,rfl⟩,?_⟩;conv=>whnf)
     have hsel0:∀ w,selN me w<=w:=fun w=>by unfold selN;split <;> omega
     refine aU aH (I:=fun q l m=>∃ w:Nat,q+w=k/\l= [(0,.vsl 1 n cap (aB f)),(2,.vsl 26 k c1 (dlG D d1 d2)),(3,.int .i64 me),(8,.ptr 0 0 0),(11,.sl 1 0 (t+1) cc),(12,.ptr 3 0 0),(13,.int .i64 ((w+1:Nat):Int))] /\
      ((selN me w=0/\m= [some ⟨22,1,lstG 22 actZ⟩,some ⟨4,t+1,cV c⟩,some ⟨9,t+1,ptsG P⟩,some ⟨22,1,lstG 22 (actL 2 false 0 0 nB .nils (.sl 2 0 (t+1) cp) 0 0 0)⟩,none])\/
       (∃ s ca,selN me w=s+1/\m= [some ⟨22,1,lstG 22 actZ⟩,some ⟨4,t+1,cV c⟩,some ⟨9,t+1,ptsG P⟩,some ⟨22,1,lstG 22 (actL 2 false 0 0 nB (.sl 4 0 (s+1) ca) (.sl 2 0 (t+1) cp) 0 0 0)⟩,some ⟨32,s+1,fN S⟩]))) k
      (l0:= [(0,.vsl 1 n cap (aB f)),(2,.vsl 26 k c1 (dlG D d1 d2)),(3,.int .i64 me),(8,.ptr 0 0 0),(11,.sl 1 0 (t+1) cc),(12,.ptr 3 0 0),(13,.int .i64 ((0+1:Nat):Int))]) (m0:= [some ⟨22,1,lstG 22 actZ⟩,some ⟨4,t+1,cV c⟩,some ⟨9,t+1,ptsG P⟩,some ⟨22,1,lstG 22 (actL 2 false 0 0 nB .nils (.sl 2 0 (t+1) cp) 0 0 0)⟩,none]) [some 0,some 1,some 2,some 3,none] ⟨0,rfl,rfl,.inl ⟨selN_0,rfl⟩⟩ ?_ ?_
     · refine .mk0 ⟨.eq _ _ rfl aW,.eq _ _ rfl bB,Flat.i rfl,.ptr _ _ _ _ rfl,.sl _ _ _ _ _ rfl,.ptr _ _ _ _ rfl,Flat.i rfl,trivial⟩ ⟨.old 0 0 _ _ rfl rfl ⟨rfl,Nat.le_refl _,fun i j hi hj=>lB hi hj rfl⟩,.old 1 1 _ _ rfl rfl ⟨rfl,Nat.le_refl _,fun i j hi hj=>RV.of rfl aV⟩,.old 2 2 _ _ rfl rfl ⟨rfl,Nat.le_refl _,fun i j hi hj=>RV.of rfl bN⟩,.old 3 3 _ _ rfl rfl ⟨rfl,Nat.le_refl _,fun i j hi hj=> ?_⟩,.dead _,trivial⟩ rfl rfl
       have hi:i<1:=hi
       have hj:j<22:=hj
       obtain rfl:i=0:=by omega
       have:j=0\/j=1\/j=2\/j=3\/j=4\/j=5\/j=6\/j=7\/j=8\/j=9\/j=10\/j=11\/j=12\/j=13\/j=14\/j=15\/j=16\/j=17\/j=18\/j=19\/j=20\/j=21:=by omega
       rcases this with rfl | rfl | rfl | rfl | rfl | rfl | rfl | rfl | rfl | rfl | rfl | rfl | rfl | rfl | rfl | rfl | rfl | rfl | rfl | rfl | rfl | rfl
       all_goals first
        | exact .eq _ _ rfl (.int _ _)
        | exact .eq _ _ rfl (.bool _)
        | exact .eq _ _ rfl (.str _)
        | exact .eq _ _ rfl .nils
        | exact .nils _ _
        | exact .sl _ _ _ _ _ rfl
     · rintro q l m ⟨w,hq,rfl,hm⟩
       rcases hm with⟨hs0,rfl⟩ | ⟨s,ca,hs0,rfl⟩
       · conv=>whnf
         repeat (refine⟨⟨_,rfl⟩,?_⟩;conv=>whnf)
         refine aE (fun hb=> ?_) (fun hb=> ?_)
         · have hb:w<k:=by simp at hb;omega
           have e5:IntKind.i64.wrap (((w+1:Nat):Int)+1)=((w+1+1:Nat):Int):=by rw [w64 (by omega) (by omega)];omega
           have e1:IntKind.i64.wrap (((w+1:Nat):Int) - 1)=((w:Nat):Int):=by rw [w64 (by omega) (by omega)];omega
           conv=>whnf
           repeat (refine⟨⟨_,rfl⟩,?_⟩;conv=>whnf)
           refine aE (fun hj=> ?_) (fun hj=> ?_)
           · have hj:¬ w+1=me:=by simp at hj;omega
             have es:selN me (w+1)=selN me w+1:=by unfold selN;split <;> split <;> omega
             have eo:othN me (selN me w)=w+1:=by unfold othN selN;split <;> split <;> omega
             conv=>whnf
             repeat (refine⟨⟨_,rfl⟩,?_⟩;conv=>whnf)
             rw [e1]
             refine aA (by simp;omega) ?_
             conv=>whnf
             repeat (refine⟨⟨_,rfl⟩,?_⟩;conv=>whnf)
             refine rO (n:=n) (f:=f) aM.vsl (by omega) hf (fun xs' hxs' hxs1 _=> ?_)
             obtain rfl:xs=xs':=hxs.trans hxs'.symm
             conv=>whnf
             repeat (refine⟨⟨_,rfl⟩,?_⟩;conv=>whnf)
             refine vA (n:=xs) (P:=ptOf (D w)) rfl (Eq.trans (b:=rawA (D w).i (D w).x (D w).y) rfl (hD w hb).2.1) (Nat.lt_trans hxs1 (by decide)) (hD w hb).1 (fun Q oQ hQ=> ?_)
             conv=>whnf
             repeat (refine⟨⟨_,rfl⟩,?_⟩;conv=>whnf)
             refine S_RInt (i:=w+1) (by omega) ?_
             conv=>whnf
             repeat (refine⟨⟨_,rfl⟩,?_⟩;conv=>whnf)
             refine S_REval (n:=t+1) (x:=w+1) (c:=c) (aO.sl rfl (by omega) (fun i j _ _=>⟨by rw [Nat.zero_add],aV⟩)) (Nat.lt_of_le_of_lt (m:=8) (by omega) (by decide)) (fun i _=>Nat.lt_trans (hcN i) (by decide)) (by omega) (fun z hz hz1=> ?_)
             conv=>whnf
             repeat (refine⟨⟨_,rfl⟩,?_⟩;conv=>whnf)
             refine S_RSeal (P:=Q) (a:=(me:Int)) (b:=((w+1:Nat):Int)) (n:=z) (xD (by omega) (by omega)) (xD (by omega) (by omega)) (fun s1 hs hs1=> ?_)
             have hsS:∀ j,s1 j=S (0) j:=fun j=>by
              rw [<- hs0,hSq,eo,show w+1 - 1=w by omega,<- hQ,<- hz,hs]
             clear hs
             rw [rowL]
             conv=>whnf
             repeat (refine⟨⟨_,rfl⟩,?_⟩;conv=>whnf)
             first
              | refine fun cap' hcap=> ?_
              | refine aA (cH (by first | rfl | simp) rfl rfl (by have:=hsel0 w;omega) (by have:=hsel0 w;omega)) (fun cap' hcap=> ?_)
             conv=>whnf
             repeat (refine⟨⟨_,rfl⟩,?_⟩;conv=>whnf)
             refine⟨q - 1,[(0,.vsl 1 n cap (aB f)),(2,.vsl 26 k c1 (dlG D d1 d2)),(3,.int .i64 me),(8,.ptr 0 0 0),(11,.sl 1 0 (t+1) cc),(12,.ptr 3 0 0),(13,.int .i64 ((w+1+1:Nat):Int))],[some ⟨22,1,lstG 22 actZ⟩,some ⟨4,t+1,cV c⟩,some ⟨9,t+1,ptsG P⟩,some ⟨22,1,lstG 22 (actL 2 false 0 0 nB (.sl 4 0 (0+1) cap') (.sl 2 0 (t+1) cp) 0 0 0)⟩,some ⟨32,0+1,fN S⟩],[some 0,some 1,some 2,some 3,some 6],by omega,⟨w+1,by omega,rfl,.inr ⟨0,cap',by rw [es,hs0],rfl⟩⟩,?_⟩
             refine .mk0 ⟨.eq _ _ rfl aW,.eq _ _ rfl bB,Flat.i rfl,.ptr _ _ _ _ rfl,.sl _ _ _ _ _ rfl,.ptr _ _ _ _ rfl,Flat.i e5,trivial⟩ ⟨.old 0 0 _ _ rfl rfl ⟨rfl,Nat.le_refl _,fun i j hi hj=>lB hi hj rfl⟩,.old 1 1 _ _ rfl rfl ⟨rfl,Nat.le_refl _,fun i j hi hj=>RV.of rfl aV⟩,.old 2 2 _ _ rfl rfl ⟨rfl,Nat.le_refl _,fun i j hi hj=>RV.of rfl bN⟩,.old 3 3 _ _ rfl rfl ⟨rfl,Nat.le_refl _,fun i j hi hj=> ?_⟩,.old 4 6 _ _ rfl rfl ⟨rfl,Nat.le_refl _,fun i j hi hj=> ?_⟩,trivial⟩ rfl rfl
             · have hi:i<1:=hi
               have hj:j<22:=hj
               obtain rfl:i=0:=by omega
               have:j=0\/j=1\/j=2\/j=3\/j=4\/j=5\/j=6\/j=7\/j=8\/j=9\/j=10\/j=11\/j=12\/j=13\/j=14\/j=15\/j=16\/j=17\/j=18\/j=19\/j=20\/j=21:=by omega
               rcases this with rfl | rfl | rfl | rfl | rfl | rfl | rfl | rfl | rfl | rfl | rfl | rfl | rfl | rfl | rfl | rfl | rfl | rfl | rfl | rfl | rfl | rfl
               all_goals first
                | exact .eq _ _ rfl (.int _ _)
                | exact .eq _ _ rfl (.bool _)
                | exact .eq _ _ rfl (.str _)
                | exact .eq _ _ rfl .nils
                | exact .nils _ _
                | exact .sl _ _ _ _ _ rfl
             · dsimp only at hi hj ⊢
               first
                | refine seal_row hi hj (fun j _=>hsS j) rfl ?_
                | refine seal_row0 hi hj (fun j _=>hsS j) rfl ?_
               exact all32 ⟨rfl,rfl,rfl,rfl,rfl,rfl,rfl,rfl,rfl,rfl,rfl,rfl,rfl,rfl,rfl,rfl,rfl,rfl,rfl,rfl,rfl,rfl,rfl,rfl,rfl,rfl,rfl,rfl,rfl,rfl,rfl,rfl⟩
           · have hj:w+1=me:=by simp at hj;omega
             have es:selN me (w+1)=selN me w:=by unfold selN;rw [if_neg (by omega),if_pos (by omega)];omega
             conv=>whnf
             repeat (refine⟨⟨_,rfl⟩,?_⟩;conv=>whnf)
             refine⟨q - 1,[(0,.vsl 1 n cap (aB f)),(2,.vsl 26 k c1 (dlG D d1 d2)),(3,.int .i64 me),(8,.ptr 0 0 0),(11,.sl 1 0 (t+1) cc),(12,.ptr 3 0 0),(13,.int .i64 ((w+1+1:Nat):Int))],[some ⟨22,1,lstG 22 actZ⟩,some ⟨4,t+1,cV c⟩,some ⟨9,t+1,ptsG P⟩,some ⟨22,1,lstG 22 (actL 2 false 0 0 nB (.nils) (.sl 2 0 (t+1) cp) 0 0 0)⟩,none],[some 0,some 1,some 2,some 3,none],by omega,⟨w+1,by omega,rfl,by first | exact .inl ⟨by rw [es,hs0],rfl⟩ | exact .inr ⟨_,_,by rw [es,hs0],rfl⟩⟩,?_⟩
             refine .mk0 ⟨.eq _ _ rfl aW,.eq _ _ rfl bB,Flat.i rfl,.ptr _ _ _ _ rfl,.sl _ _ _ _ _ rfl,.ptr _ _ _ _ rfl,Flat.i e5,trivial⟩ ⟨.old 0 0 _ _ rfl rfl ⟨rfl,Nat.le_refl _,fun i j hi hj=>lB hi hj rfl⟩,.old 1 1 _ _ rfl rfl ⟨rfl,Nat.le_refl _,fun i j hi hj=>RV.of rfl aV⟩,.old 2 2 _ _ rfl rfl ⟨rfl,Nat.le_refl _,fun i j hi hj=>RV.of rfl bN⟩,.old 3 3 _ _ rfl rfl ⟨rfl,Nat.le_refl _,fun i j hi hj=> ?_⟩,by first | exact .dead _ | exact .old 4 4 _ _ rfl rfl ⟨rfl,Nat.le_refl _,fun i j hi hj=>RV.of rfl eT⟩,trivial⟩ rfl rfl
             have hi:i<1:=hi
             have hj:j<22:=hj
             obtain rfl:i=0:=by omega
             have:j=0\/j=1\/j=2\/j=3\/j=4\/j=5\/j=6\/j=7\/j=8\/j=9\/j=10\/j=11\/j=12\/j=13\/j=14\/j=15\/j=16\/j=17\/j=18\/j=19\/j=20\/j=21:=by omega
             rcases this with rfl | rfl | rfl | rfl | rfl | rfl | rfl | rfl | rfl | rfl | rfl | rfl | rfl | rfl | rfl | rfl | rfl | rfl | rfl | rfl | rfl | rfl
             all_goals first
              | exact .eq _ _ rfl (.int _ _)
              | exact .eq _ _ rfl (.bool _)
              | exact .eq _ _ rfl (.str _)
              | exact .eq _ _ rfl .nils
              | exact .nils _ _
              | exact .sl _ _ _ _ _ rfl
         · have hb:w=k:=by simp at hb;omega
           subst hb
           conv=>whnf
           repeat (refine⟨⟨_,rfl⟩,?_⟩;conv=>whnf)
           have hsel:selN me w=w - 1:=by unfold selN;rw [if_neg (by omega)]
           have hw1:w - 1=0:=hsel.symm.trans hs0
           exact⟨.nils,.sl 2 0 (t+1) cp,rfl,by first | exact .inl ⟨rfl,hw1⟩ | exact .inr ⟨4,_,_,_,by rw [hw1],rfl,by omega,fun _ _ _ _=>rfl⟩,.inr ⟨_,cp,t+1,_,rfl,rfl,Nat.le_refl _,fun _ _ _ _=>by rw [hP]⟩⟩
       · conv=>whnf
         repeat (refine⟨⟨_,rfl⟩,?_⟩;conv=>whnf)
         refine aE (fun hb=> ?_) (fun hb=> ?_)
         · have hb:w<k:=by simp at hb;omega
           have e5:IntKind.i64.wrap (((w+1:Nat):Int)+1)=((w+1+1:Nat):Int):=by rw [w64 (by omega) (by omega)];omega
           have e1:IntKind.i64.wrap (((w+1:Nat):Int) - 1)=((w:Nat):Int):=by rw [w64 (by omega) (by omega)];omega
           conv=>whnf
           repeat (refine⟨⟨_,rfl⟩,?_⟩;conv=>whnf)
           refine aE (fun hj=> ?_) (fun hj=> ?_)
           · have hj:¬ w+1=me:=by simp at hj;omega
             have es:selN me (w+1)=selN me w+1:=by unfold selN;split <;> split <;> omega
             have eo:othN me (selN me w)=w+1:=by unfold othN selN;split <;> split <;> omega
             conv=>whnf
             repeat (refine⟨⟨_,rfl⟩,?_⟩;conv=>whnf)
             rw [e1]
             refine aA (by simp;omega) ?_
             conv=>whnf
             repeat (refine⟨⟨_,rfl⟩,?_⟩;conv=>whnf)
             refine rO (n:=n) (f:=f) aM.vsl (by omega) hf (fun xs' hxs' hxs1 _=> ?_)
             obtain rfl:xs=xs':=hxs.trans hxs'.symm
             conv=>whnf
             repeat (refine⟨⟨_,rfl⟩,?_⟩;conv=>whnf)
             refine vA (n:=xs) (P:=ptOf (D w)) rfl (Eq.trans (b:=rawA (D w).i (D w).x (D w).y) rfl (hD w hb).2.1) (Nat.lt_trans hxs1 (by decide)) (hD w hb).1 (fun Q oQ hQ=> ?_)
             conv=>whnf
             repeat (refine⟨⟨_,rfl⟩,?_⟩;conv=>whnf)
             refine S_RInt (i:=w+1) (by omega) ?_
             conv=>whnf
             repeat (refine⟨⟨_,rfl⟩,?_⟩;conv=>whnf)
             refine S_REval (n:=t+1) (x:=w+1) (c:=c) (aO.sl rfl (by omega) (fun i j _ _=>⟨by rw [Nat.zero_add],aV⟩)) (Nat.lt_of_le_of_lt (m:=8) (by omega) (by decide)) (fun i _=>Nat.lt_trans (hcN i) (by decide)) (by omega) (fun z hz hz1=> ?_)
             conv=>whnf
             repeat (refine⟨⟨_,rfl⟩,?_⟩;conv=>whnf)
             refine S_RSeal (P:=Q) (a:=(me:Int)) (b:=((w+1:Nat):Int)) (n:=z) (xD (by omega) (by omega)) (xD (by omega) (by omega)) (fun s1 hs hs1=> ?_)
             have hsS:∀ j,s1 j=S ((s+1)) j:=fun j=>by
              rw [<- hs0,hSq,eo,show w+1 - 1=w by omega,<- hQ,<- hz,hs]
             clear hs
             rw [rowL]
             conv=>whnf
             repeat (refine⟨⟨_,rfl⟩,?_⟩;conv=>whnf)
             first
              | refine fun cap' hcap=> ?_
              | refine aA (cH (by first | rfl | simp) rfl rfl (by have:=hsel0 w;omega) (by have:=hsel0 w;omega)) (fun cap' hcap=> ?_)
             conv=>whnf
             repeat (refine⟨⟨_,rfl⟩,?_⟩;conv=>whnf)
             refine⟨q - 1,[(0,.vsl 1 n cap (aB f)),(2,.vsl 26 k c1 (dlG D d1 d2)),(3,.int .i64 me),(8,.ptr 0 0 0),(11,.sl 1 0 (t+1) cc),(12,.ptr 3 0 0),(13,.int .i64 ((w+1+1:Nat):Int))],[some ⟨22,1,lstG 22 actZ⟩,some ⟨4,t+1,cV c⟩,some ⟨9,t+1,ptsG P⟩,some ⟨22,1,lstG 22 (actL 2 false 0 0 nB (.sl 4 0 ((s+1)+1) cap') (.sl 2 0 (t+1) cp) 0 0 0)⟩,some ⟨32,(s+1)+1,fN S⟩],[some 0,some 1,some 2,some 3,some 6],by omega,⟨w+1,by omega,rfl,.inr ⟨(s+1),cap',by rw [es,hs0],rfl⟩⟩,?_⟩
             refine .mk0 ⟨.eq _ _ rfl aW,.eq _ _ rfl bB,Flat.i rfl,.ptr _ _ _ _ rfl,.sl _ _ _ _ _ rfl,.ptr _ _ _ _ rfl,Flat.i e5,trivial⟩ ⟨.old 0 0 _ _ rfl rfl ⟨rfl,Nat.le_refl _,fun i j hi hj=>lB hi hj rfl⟩,.old 1 1 _ _ rfl rfl ⟨rfl,Nat.le_refl _,fun i j hi hj=>RV.of rfl aV⟩,.old 2 2 _ _ rfl rfl ⟨rfl,Nat.le_refl _,fun i j hi hj=>RV.of rfl bN⟩,.old 3 3 _ _ rfl rfl ⟨rfl,Nat.le_refl _,fun i j hi hj=> ?_⟩,.old 4 6 _ _ rfl rfl ⟨rfl,Nat.le_refl _,fun i j hi hj=> ?_⟩,trivial⟩ rfl rfl
             · have hi:i<1:=hi
               have hj:j<22:=hj
               obtain rfl:i=0:=by omega
               have:j=0\/j=1\/j=2\/j=3\/j=4\/j=5\/j=6\/j=7\/j=8\/j=9\/j=10\/j=11\/j=12\/j=13\/j=14\/j=15\/j=16\/j=17\/j=18\/j=19\/j=20\/j=21:=by omega
               rcases this with rfl | rfl | rfl | rfl | rfl | rfl | rfl | rfl | rfl | rfl | rfl | rfl | rfl | rfl | rfl | rfl | rfl | rfl | rfl | rfl | rfl | rfl
               all_goals first
                | exact .eq _ _ rfl (.int _ _)
                | exact .eq _ _ rfl (.bool _)
                | exact .eq _ _ rfl (.str _)
                | exact .eq _ _ rfl .nils
                | exact .nils _ _
                | exact .sl _ _ _ _ _ rfl
             · dsimp only at hi hj ⊢
               first
                | refine seal_row hi hj (fun j _=>hsS j) rfl ?_
                | refine seal_row0 hi hj (fun j _=>hsS j) rfl ?_
               exact all32 ⟨rfl,rfl,rfl,rfl,rfl,rfl,rfl,rfl,rfl,rfl,rfl,rfl,rfl,rfl,rfl,rfl,rfl,rfl,rfl,rfl,rfl,rfl,rfl,rfl,rfl,rfl,rfl,rfl,rfl,rfl,rfl,rfl⟩
           · have hj:w+1=me:=by simp at hj;omega
             have es:selN me (w+1)=selN me w:=by unfold selN;rw [if_neg (by omega),if_pos (by omega)];omega
             conv=>whnf
             repeat (refine⟨⟨_,rfl⟩,?_⟩;conv=>whnf)
             refine⟨q - 1,[(0,.vsl 1 n cap (aB f)),(2,.vsl 26 k c1 (dlG D d1 d2)),(3,.int .i64 me),(8,.ptr 0 0 0),(11,.sl 1 0 (t+1) cc),(12,.ptr 3 0 0),(13,.int .i64 ((w+1+1:Nat):Int))],[some ⟨22,1,lstG 22 actZ⟩,some ⟨4,t+1,cV c⟩,some ⟨9,t+1,ptsG P⟩,some ⟨22,1,lstG 22 (actL 2 false 0 0 nB (.sl 4 0 (s+1) ca) (.sl 2 0 (t+1) cp) 0 0 0)⟩,some ⟨32,s+1,fN S⟩],[some 0,some 1,some 2,some 3,some 4],by omega,⟨w+1,by omega,rfl,by first | exact .inl ⟨by rw [es,hs0],rfl⟩ | exact .inr ⟨_,_,by rw [es,hs0],rfl⟩⟩,?_⟩
             refine .mk0 ⟨.eq _ _ rfl aW,.eq _ _ rfl bB,Flat.i rfl,.ptr _ _ _ _ rfl,.sl _ _ _ _ _ rfl,.ptr _ _ _ _ rfl,Flat.i e5,trivial⟩ ⟨.old 0 0 _ _ rfl rfl ⟨rfl,Nat.le_refl _,fun i j hi hj=>lB hi hj rfl⟩,.old 1 1 _ _ rfl rfl ⟨rfl,Nat.le_refl _,fun i j hi hj=>RV.of rfl aV⟩,.old 2 2 _ _ rfl rfl ⟨rfl,Nat.le_refl _,fun i j hi hj=>RV.of rfl bN⟩,.old 3 3 _ _ rfl rfl ⟨rfl,Nat.le_refl _,fun i j hi hj=> ?_⟩,by first | exact .dead _ | exact .old 4 4 _ _ rfl rfl ⟨rfl,Nat.le_refl _,fun i j hi hj=>RV.of rfl eT⟩,trivial⟩ rfl rfl
             have hi:i<1:=hi
             have hj:j<22:=hj
             obtain rfl:i=0:=by omega
             have:j=0\/j=1\/j=2\/j=3\/j=4\/j=5\/j=6\/j=7\/j=8\/j=9\/j=10\/j=11\/j=12\/j=13\/j=14\/j=15\/j=16\/j=17\/j=18\/j=19\/j=20\/j=21:=by omega
             rcases this with rfl | rfl | rfl | rfl | rfl | rfl | rfl | rfl | rfl | rfl | rfl | rfl | rfl | rfl | rfl | rfl | rfl | rfl | rfl | rfl | rfl | rfl
             all_goals first
              | exact .eq _ _ rfl (.int _ _)
              | exact .eq _ _ rfl (.bool _)
              | exact .eq _ _ rfl (.str _)
              | exact .eq _ _ rfl .nils
              | exact .nils _ _
              | exact .sl _ _ _ _ _ rfl
         · have hb:w=k:=by simp at hb;omega
           subst hb
           conv=>whnf
           repeat (refine⟨⟨_,rfl⟩,?_⟩;conv=>whnf)
           have hsel:selN me w=w - 1:=by unfold selN;rw [if_neg (by omega)]
           have hw1:w - 1=(s+1):=hsel.symm.trans hs0
           exact⟨.sl 4 0 (s+1) ca,.sl 2 0 (t+1) cp,rfl,by first | exact .inl ⟨rfl,hw1⟩ | exact .inr ⟨4,_,_,_,by rw [hw1],rfl,by omega,fun _ _ _ _=>rfl⟩,.inr ⟨_,cp,t+1,_,rfl,rfl,Nat.le_refl _,fun _ _ _ _=>by rw [hP]⟩⟩
theorem S_RPost {m:Mem} {x z:AV} {K:AV->Mem->Prop} {n t:Nat} {f:Nat->Int} {r:Nat} {D:Nat->Dl} {me:Nat} (M:Nat) (hM:M+1=r) (hx:aM m x n f) (hz:aT m z r D) (hn:n<=16384) (ht:t<64) (hf:∀ i,i<n->0<=f i/\f i<=255) (hr:r<=8) (hm:1<=me/\me<=r) (hD:∀ k,k<r->On (ptOf (D k))/\rawA (D k).i (D k).x (D k).y=ptA (ptOf (D k))/\(D k).x<w256/\(D k).y<w256)
 (h:∀ S P c1 c2,S=sealN n f t D me->P=(fun i=>nmul (coN n f i) gG)->memK (m++ [some ⟨32,M,fN S⟩,some ⟨9,t+1,ptsG P⟩]) (K (.tup [actA 2 false 0 0 nB (.sl m.length 0 M c1) (.sl (m.length+1) 0 (t+1) c2) 0 0 0,.int .i64 0]))):ACall Pg cR [x,.int .i64 t,z,.int .i64 me] m K:=by
 simp only [cU]at h
 obtain rfl:M=r - 1:=by omega
 obtain⟨cap,hl⟩:=hx
 obtain⟨c1,d1,d2,hl2⟩:=hz
 exact lift_act (S_RPost0 n cap t f r c1 d1 d2 D me hn ht hf hr hm hD) (fun i j _ _=> .int _ _) (fun i j _ _=>bN) (.cons _ _ _ _ hl (.cons _ _ _ _ aG (.cons _ _ _ _ hl2 (.cons _ _ _ _ aG .nil)))) (fun k1 k2=>h _ _ k1 k2 rfl rfl)
end Go.Proofs.YtfolpdmbpbbimaaGreat
end

section
namespace Go.Proofs.YtfolpdmbpbbimaaGreat
open Go Go.Wit
theorem lim0 (i:Nat):lim 0 i=0:=by simp [lim]
end Go.Proofs.YtfolpdmbpbbimaaGreat
end

section
namespace Go.Proofs.YtfolpdmbpbbimaaGreat
open Go Go.Wit
end Go.Proofs.YtfolpdmbpbbimaaGreat
end

section
namespace Go.Proofs.YtfolpdmbpbbimaaGreat
open Go Go.Wit
def nO (d:Dl):Prop:= ∃ P,On P/\rawA d.i d.x d.y=ptA P
theorem nO.pt {d:Dl} (h:nO d):On (ptOf d)/\rawA d.i d.x d.y=ptA (ptOf d):=by
 obtain⟨P,oP,eP⟩:=h
 rw [ptOf_eq oP eP]
 exact⟨oP,eP⟩
theorem nO.bad {d:Dl} (h:¬ nO d):Bad d.i d.x d.y:=fun P oP eP=>h ⟨P,oP,eP⟩
theorem nO.not {d:Dl} (h:Bad d.i d.x d.y):¬ nO d:=fun ⟨P,oP,eP⟩=>h P oP eP
theorem iJ {e:Int}:Flat true (.tup [act0,.int .i64 e]):=pA
theorem S_Post_arg {m:Mem} {x z:AV} {K:AV->Mem->Prop} {n:Nat} {f:Nat->Int} {r:Nat} {D:Nat->Dl} {t me:Int} (hx:aM m x n f) (hz:aT m z r D) (hn:n<=16384) (hf:∀ i,i<n->0<=f i/\f i<=255) (ht:t<64) (hb:t<0\/¬ (1<=me/\me<=r)) (h:K (.tup [act0,.int .i64 1]) m):ACall Pg gN [x,.int .i64 t,z,.int .i64 me] m K:=by
 have h0:∀ cap c1 d1 d2,ACall Pg gN [.vsl 1 n cap (aB f),.int .i64 t,.vsl 26 r c1 (dlG D d1 d2),.int .i64 me] [] (fun v _=>v= .tup [act0,.int .i64 1] /\ Flat true v):=fun cap c1 d1 d2=>by
  refine tR ⟨rfl,?_⟩
  conv=>whnf
  repeat (refine⟨⟨_,rfl⟩,?_⟩;conv=>whnf)
  by_cases ht0:t<0
  · refine S_Poly_arg (n:=n) (f:=f) aM.vsl hn (.inl ht0) (fun cap g=> ?_)
    conv=>whnf
    repeat (refine⟨⟨_,rfl⟩,?_⟩;conv=>whnf)
    exact⟨rfl,iJ⟩
  · have hb3:¬ (1<=me/\me<=r):=by rcases hb with h | h;exact absurd h ht0;exact h
    obtain⟨t,rfl⟩ :∃ q:Nat,t=q:=⟨t.toNat,by omega⟩
    refine S_Poly (n:=n) (t:=t) (f:=f) aM.vsl hn (by omega) hf (fun c' cc hc' hcN _=> ?_)
    conv=>whnf
    repeat (refine⟨⟨_,rfl⟩,?_⟩;conv=>whnf)
    refine S_dnum (n:=r) (D:=D) (i:=me) aT.vsl (fun b hb2=> ?_)
    have hb2:b=false:=by
     rw [hb2]
     by_cases h1:1<=me
     · rw [decide_eq_true h1,decide_eq_false (fun h=>hb3 ⟨h1,h⟩)];rfl
     · rw [decide_eq_false h1];rfl
    subst hb2
    conv=>whnf
    repeat (refine⟨⟨_,rfl⟩,?_⟩;conv=>whnf)
    exact⟨rfl,iJ⟩
 obtain⟨cap,hl⟩:=hx
 obtain⟨c1,d1,d2,hl2⟩:=hz
 refine aC (h0 cap c1 d1 d2) (.cons _ _ _ _ hl (.cons _ _ _ _ aG (.cons _ _ _ _ hl2 (.cons _ _ _ _ aG .nil)))) ?_
 rintro v rfl
 exact h
theorem S_Post_bad {m:Mem} {x z:AV} {K:AV->Mem->Prop} {n t:Nat} {f:Nat->Int} {r:Nat} {D:Nat->Dl} {me:Int} (hx:aM m x n f) (hz:aT m z r D) (hn:n<=16384) (hf:∀ i,i<n->0<=f i/\f i<=255) (hr:r<=8) (ht:t<64) (hm:1<=me/\me<=r) (hD:∀ k,k<r->(D k).x<w256/\(D k).y<w256) (hb:∃ k,k<r/\¬ nO (D k)) (h:K (.tup [act0,.int .i64 3]) m):ACall Pg gN [x,.int .i64 t,z,.int .i64 me] m K:=by
 have h0:∀ cap c1 d1 d2,ACall Pg gN [.vsl 1 n cap (aB f),.int .i64 t,.vsl 26 r c1 (dlG D d1 d2),.int .i64 me] [] (fun v _=>v= .tup [act0,.int .i64 3] /\ Flat true v):=fun cap c1 d1 d2=>by
  refine tR ⟨rfl,?_⟩
  conv=>whnf
  repeat (refine⟨⟨_,rfl⟩,?_⟩;conv=>whnf)
  refine S_Poly (n:=n) (t:=t) (f:=f) aM.vsl hn ht hf (fun c cc hc hcN _=> ?_)
  clear hc
  conv=>whnf
  repeat (refine⟨⟨_,rfl⟩,?_⟩;conv=>whnf)
  refine S_dnum (n:=r) (D:=D) (i:=me) aT.vsl (fun b hb2=> ?_)
  have hb2:b=true:=by rw [hb2,decide_eq_true hm.1,decide_eq_true hm.2];rfl
  subst hb2
  conv=>whnf
  repeat (refine⟨⟨_,rfl⟩,?_⟩;conv=>whnf)
  refine fL (by simp;omega) ?_
  conv=>whnf
  repeat (refine⟨⟨_,rfl⟩,?_⟩;conv=>whnf)
  refine aU aH (I:=fun q l m=>∃ (k:Nat),l= [(0,.vsl 1 n cap (aB f)),(2,.vsl 26 r c1 (dlG D d1 d2)),(3,.int .i64 me),(8,.ptr 0 0 0),(10,.sl 1 0 (t+1) cc),(44,.vsl 26 r c1 (dlG D d1 d2)),(45,.int .i64 r),(46,.int .i64 k)] /\ m= [some ⟨22,1,lstG 22 actZ⟩,some ⟨4,t+1,cV c⟩] /\ q+k=r/\∀ j,j<k->nO (D j)) r
   (l0:= [(0,.vsl 1 n cap (aB f)),(2,.vsl 26 r c1 (dlG D d1 d2)),(3,.int .i64 me),(8,.ptr 0 0 0),(10,.sl 1 0 (t+1) cc),(44,.vsl 26 r c1 (dlG D d1 d2)),(45,.int .i64 r),(46,.int .i64 (0:Nat))]) (m0:= [some ⟨22,1,lstG 22 actZ⟩,some ⟨4,t+1,cV c⟩]) [some 0,some 1] ⟨0,rfl,rfl,rfl,fun j hj=>absurd hj (Nat.not_lt_zero _)⟩ ?_ ?_
  · exact .mk0 ⟨.eq _ _ rfl aW,.eq _ _ rfl bB,Flat.i rfl,.ptr _ _ _ _ rfl,.sl _ _ _ _ _ rfl,.eq _ _ rfl bB,Flat.i rfl,Flat.i rfl,trivial⟩ ⟨.old 0 0 _ _ rfl rfl ⟨rfl,Nat.le_refl _,fun i j hi hj=>aBy hi rfl⟩,.old 1 1 _ _ rfl rfl ⟨rfl,Nat.le_refl _,fun i j hi hj=>RV.of rfl aV⟩,trivial⟩ rfl rfl
  · rintro q l m ⟨k,rfl,rfl,hq,hg⟩
    conv=>whnf
    repeat (refine⟨⟨_,rfl⟩,?_⟩;conv=>whnf)
    refine aE (fun hk=> ?_) (fun hk=> ?_)
    · have hk:k<r:=by simp at hk;omega
      conv=>whnf
      repeat (refine⟨⟨_,rfl⟩,?_⟩;conv=>whnf)
      refine aA (by simp;omega) ?_
      conv=>whnf
      repeat (refine⟨⟨_,rfl⟩,?_⟩;conv=>whnf)
      refine S_CheckD (i:=(D k).i) (x:=(D k).x) (y:=(D k).y) rfl (hD k hk).1 (hD k hk).2 (fun P oP eP=> ?_) (fun hbad=> ?_)
      · conv=>whnf
        repeat (refine⟨⟨_,rfl⟩,?_⟩;conv=>whnf)
        have e5:IntKind.i64.wrap ((k:Int)+1)=((k+1:Nat):Int):=by rw [w64 (by omega) (by omega)];omega
        refine⟨q - 1,[(0,.vsl 1 n cap (aB f)),(2,.vsl 26 r c1 (dlG D d1 d2)),(3,.int .i64 me),(8,.ptr 0 0 0),(10,.sl 1 0 (t+1) cc),(44,.vsl 26 r c1 (dlG D d1 d2)),(45,.int .i64 r),(46,.int .i64 ((k+1:Nat):Int))],[some ⟨22,1,lstG 22 actZ⟩,some ⟨4,t+1,cV c⟩],[some 0,some 1],by omega,⟨k+1,rfl,rfl,by omega,fun j hj=> ?_⟩,?_⟩
        · by_cases h:j=k
          · subst h;exact⟨P,oP,eP⟩
          · exact hg j (by omega)
        · exact .mk0 ⟨.eq _ _ rfl aW,.eq _ _ rfl bB,Flat.i rfl,.ptr _ _ _ _ rfl,.sl _ _ _ _ _ rfl,.eq _ _ rfl bB,Flat.i rfl,Flat.i e5,trivial⟩ ⟨.old 0 0 _ _ rfl rfl ⟨rfl,Nat.le_refl _,fun i j hi hj=>lB hi hj rfl⟩,.old 1 1 _ _ rfl rfl ⟨rfl,Nat.le_refl _,fun i j hi hj=>RV.of rfl aV⟩,trivial⟩ rfl rfl
      · conv=>whnf
        repeat (refine⟨⟨_,rfl⟩,?_⟩;conv=>whnf)
        exact⟨rfl,iJ⟩
    · have hk:k=r:=by simp at hk;omega
      obtain⟨j,hj,hb⟩:=hb
      exact absurd (hg j (by omega)) hb
 obtain⟨cap,hl⟩:=hx
 obtain⟨c1,d1,d2,hl2⟩:=hz
 refine aC (h0 cap c1 d1 d2) (.cons _ _ _ _ hl (.cons _ _ _ _ aG (.cons _ _ _ _ hl2 (.cons _ _ _ _ aG .nil)))) ?_
 rintro v rfl
 exact h
theorem S_RPost_arg {m:Mem} {x z:AV} {K:AV->Mem->Prop} {n:Nat} {f:Nat->Int} {r:Nat} {D:Nat->Dl} {t me:Int} (hx:aM m x n f) (hz:aT m z r D) (ht:t<64) (hb:t<0\/¬ (1<=me/\me<=r)) (h:K (.tup [act0,.int .i64 1]) m):ACall Pg cR [x,.int .i64 t,z,.int .i64 me] m K:=by
 have h0:∀ cap c1 d1 d2,ACall Pg cR [.vsl 1 n cap (aB f),.int .i64 t,.vsl 26 r c1 (dlG D d1 d2),.int .i64 me] [] (fun v _=>v= .tup [act0,.int .i64 1] /\ Flat true v):=fun cap c1 d1 d2=>by
  refine kO ⟨rfl,?_⟩
  conv=>whnf
  repeat (refine⟨⟨_,rfl⟩,?_⟩;conv=>whnf)
  refine aE (fun h1=> ?_) (fun h1=> ?_)
  rotate_left
  · conv=>whnf
    repeat (refine⟨⟨_,rfl⟩,?_⟩;conv=>whnf)
    exact⟨rfl,iJ⟩
  have h1:0<=t:=by simp at h1;omega
  conv=>whnf
  repeat (refine⟨⟨_,rfl⟩,?_⟩;conv=>whnf)
  refine aS (by simp;omega) ?_
  conv=>whnf
  repeat (refine⟨⟨_,rfl⟩,?_⟩;conv=>whnf)
  refine aE (fun h2=> ?_) (fun h2=> ?_)
  rotate_left
  · conv=>whnf
    repeat (refine⟨⟨_,rfl⟩,?_⟩;conv=>whnf)
    exact⟨rfl,iJ⟩
  have h2:1<=me:=by simp at h2;omega
  conv=>whnf
  repeat (refine⟨⟨_,rfl⟩,?_⟩;conv=>whnf)
  refine fL (by simp;omega) ?_
  conv=>whnf
  repeat (refine⟨⟨_,rfl⟩,?_⟩;conv=>whnf)
  exact⟨rfl,iJ⟩
 obtain⟨cap,hl⟩:=hx
 obtain⟨c1,d1,d2,hl2⟩:=hz
 refine aC (h0 cap c1 d1 d2) (.cons _ _ _ _ hl (.cons _ _ _ _ aG (.cons _ _ _ _ hl2 (.cons _ _ _ _ aG .nil)))) ?_
 rintro v rfl
 exact h
theorem S_RPost_bad {m:Mem} {x z:AV} {K:AV->Mem->Prop} {n t:Nat} {f:Nat->Int} {r:Nat} {D:Nat->Dl} {me:Int} (hx:aM m x n f) (hz:aT m z r D) (hr:r<=8) (ht:t<64) (hm:1<=me/\me<=r) (hD:∀ k,k<r->(D k).x<w256/\(D k).y<w256) (hb:∃ k,k<r/\¬ nO (D k)) (h:K (.tup [act0,.int .i64 3]) m):ACall Pg cR [x,.int .i64 t,z,.int .i64 me] m K:=by
 have h0:∀ cap c1 d1 d2,ACall Pg cR [.vsl 1 n cap (aB f),.int .i64 t,.vsl 26 r c1 (dlG D d1 d2),.int .i64 me] [] (fun v _=>v= .tup [act0,.int .i64 3] /\ Flat true v):=fun cap c1 d1 d2=>by
  refine kO ⟨rfl,?_⟩
  conv=>whnf
  repeat (refine⟨⟨_,rfl⟩,?_⟩;conv=>whnf)
  refine aS (by simp;omega) ?_
  conv=>whnf
  repeat (refine⟨⟨_,rfl⟩,?_⟩;conv=>whnf)
  refine aS (by simp;omega) ?_
  conv=>whnf
  repeat (refine⟨⟨_,rfl⟩,?_⟩;conv=>whnf)
  refine aS (by simp;omega) ?_
  conv=>whnf
  repeat (refine⟨⟨_,rfl⟩,?_⟩;conv=>whnf)
  refine fL (by simp;omega) ?_
  conv=>whnf
  repeat (refine⟨⟨_,rfl⟩,?_⟩;conv=>whnf)
  refine aU aH (I:=fun q l m=>∃ (k:Nat),l= [(0,.vsl 1 n cap (aB f)),(1,.int .i64 t),(2,.vsl 26 r c1 (dlG D d1 d2)),(3,.int .i64 me),(8,.ptr 0 0 0),(10,.int .i64 k)] /\ m= [some ⟨22,1,lstG 22 actZ⟩] /\ q+k=r/\∀ j,j<k->nO (D j)) r
   (l0:= [(0,.vsl 1 n cap (aB f)),(1,.int .i64 t),(2,.vsl 26 r c1 (dlG D d1 d2)),(3,.int .i64 me),(8,.ptr 0 0 0),(10,.int .i64 (0:Nat))]) (m0:= [some ⟨22,1,lstG 22 actZ⟩]) [some 0] ⟨0,rfl,rfl,rfl,fun j hj=>absurd hj (Nat.not_lt_zero _)⟩ ?_ ?_
  · exact .mk0 ⟨.eq _ _ rfl aW,Flat.i rfl,.eq _ _ rfl bB,Flat.i rfl,.ptr _ _ _ _ rfl,Flat.i rfl,trivial⟩ ⟨.old 0 0 _ _ rfl rfl ⟨rfl,Nat.le_refl _,fun i j hi hj=>aBy hi rfl⟩,trivial⟩ rfl rfl
  · rintro q l m ⟨k,rfl,rfl,hq,hg⟩
    conv=>whnf
    repeat (refine⟨⟨_,rfl⟩,?_⟩;conv=>whnf)
    refine aE (fun hk=> ?_) (fun hk=> ?_)
    · have hk:k<r:=by simp at hk;omega
      have e5:IntKind.i64.wrap ((k:Int)+1)=((k+1:Nat):Int):=by rw [w64 (by omega) (by omega)];omega
      conv=>whnf
      repeat (refine⟨⟨_,rfl⟩,?_⟩;conv=>whnf)
      refine aA (by simp;omega) ?_
      conv=>whnf
      repeat (refine⟨⟨_,rfl⟩,?_⟩;conv=>whnf)
      refine S_rCheckD (i:=(D k).i) (x:=(D k).x) (y:=(D k).y) rfl (hD k hk).1 (hD k hk).2 (fun P oP eP=> ?_) (fun hbad=> ?_)
      · conv=>whnf
        repeat (refine⟨⟨_,rfl⟩,?_⟩;conv=>whnf)
        refine⟨q - 1,[(0,.vsl 1 n cap (aB f)),(1,.int .i64 t),(2,.vsl 26 r c1 (dlG D d1 d2)),(3,.int .i64 me),(8,.ptr 0 0 0),(10,.int .i64 ((k+1:Nat):Int))],[some ⟨22,1,lstG 22 actZ⟩],[some 0],by omega,⟨k+1,rfl,rfl,by omega,fun j hj=> ?_⟩,?_⟩
        · by_cases h:j=k
          · subst h;exact⟨P,oP,eP⟩
          · exact hg j (by omega)
        · exact .mk0 ⟨.eq _ _ rfl aW,Flat.i rfl,.eq _ _ rfl bB,Flat.i rfl,.ptr _ _ _ _ rfl,Flat.i e5,trivial⟩ ⟨.old 0 0 _ _ rfl rfl ⟨rfl,Nat.le_refl _,fun i j hi hj=>lB hi hj rfl⟩,trivial⟩ rfl rfl
      · conv=>whnf
        repeat (refine⟨⟨_,rfl⟩,?_⟩;conv=>whnf)
        exact⟨rfl,iJ⟩
    · have hk:k=r:=by simp at hk;omega
      obtain⟨j,hj,hb⟩:=hb
      exact absurd (hg j (by omega)) hb
 obtain⟨cap,hl⟩:=hx
 obtain⟨c1,d1,d2,hl2⟩:=hz
 refine aC (h0 cap c1 d1 d2) (.cons _ _ _ _ hl (.cons _ _ _ _ aG (.cons _ _ _ _ hl2 (.cons _ _ _ _ aG .nil)))) ?_
 rintro v rfl
 exact h
end Go.Proofs.YtfolpdmbpbbimaaGreat
end

section
namespace Go.Proofs.YtfolpdmbpbbimaaGreat
open Go Go.Wit
theorem first_bad {d:Dl} (h:¬ comP d):∃ b,b<d.nc/\Bad (d.I b) (d.X b) (d.Y b)/\∀ k,k<b->∃ P,On P/\rawA (d.I k) (d.X k) (d.Y k)=ptA P:=by
  obtain⟨b,hb,hbad⟩:=exBad h
  induction b using Nat.strongRecOn with
  | _ b ih =>
    by_cases hh:∃ k,k<b/\Bad (d.I k) (d.X k) (d.Y k)
    · obtain⟨k,hk,hkb⟩:=hh
      exact ih k hk (by omega) hkb
    · exact⟨b,hb,hbad,fun k hk=>Classical.byContradiction fun hn=>hh ⟨k,hk,fun P oP eP=>hn ⟨P,oP,eP⟩⟩⟩
theorem S_KeyE_bad {m:Mem} {K:AV->Mem->Prop} {v w:AV} {n:Nat} {i:Bool} {x y:Nat} (hv:v=numA n) (hw:w=rawA i x y) (hx:x<w256) (hy:y<w256) (hb:Bad i x y) (h:K (.tup [noPt,.int .i64 3]) m):ACall Pg kL [v,w] m K:=by
 subst hv hw
 have h0:ACall Pg kL [numA n,rawA i x y] [] (fun v _=>v= .tup [noPt,.int .i64 3] /\ Flat true v):=by
  refine B_pair_Key ⟨rfl,?_⟩
  conv=>whnf
  repeat (refine⟨⟨_,rfl⟩,?_⟩;conv=>whnf)
  refine S_Times_bad (n:=n) hx hy hb ?_
  conv=>whnf
  repeat (refine⟨⟨_,rfl⟩,?_⟩;conv=>whnf)
  exact⟨rfl,.tup _ (.cons _ _ (flat_no _) (.cons _ _ (.int _ _) .nil))⟩
 refine aC h0 (.cons _ _ _ _ aF (.cons _ _ _ _ (aI cX) .nil)) ?_
 rintro v rfl
 exact h
theorem S_FitsD_bad {m:Mem} {K:AV->Mem->Prop} {v w u:AV} {d:Dl} {c x y:Nat} (hv:v= .vsl 9 d.nc c (cW d.I d.X d.Y)) (hw:w=numA x) (hu:u=numA y) (hd:¬ comP d) (ok:OkD d) (hn:d.nc<=64) (h:K (.tup [.bool false,.int .i64 3]) m):ACall Pg iF [v,w,u] m K:=by
 subst hv hw hu
 obtain⟨b,hb,hbad,hg⟩:=first_bad hd
 exact S_Fits_bad (n:=d.nc) (I:=d.I) (X:=d.X) (Y:=d.Y) (.vsl fun i j _ _=>qZ) ok.2.2.2.2.1 ok.2.2.2.2.2.1 hb hbad hg hn h
def hasS (r:Nat) (D:Nat->Dl) (i j:Int):Prop:=i<=r/\j<=r/\(D (i.toNat - 1)).ps=true/\plN i j<(D (i.toNat - 1)).ns
noncomputable def shrQ (s:Nat) (D:Nat->Dl) (i:Int):Pt Fp:=nmul s (ptOf (D (i.toNat - 1)))
noncomputable def shrB (D:Nat->Dl) (i j:Int) (Q:Pt Fp):Bool:=by
 classical
 exact decide (fitV D i j Q<nN/\nmul (fitV D i j Q) gG=polyP (cmP (D (i.toNat - 1))) j.toNat (D (i.toNat - 1)).nc)
noncomputable def shrE (r:Nat) (D:Nat->Dl) (i j:Int):Int:=by
 classical
 exact if plOk i j=false then 1 else if hasS r D i j then (if nO (D (i.toNat - 1))/\comP (D (i.toNat - 1))then 0 else 3)else 5
noncomputable def shrY (s r:Nat) (D:Nat->Dl) (i j:Int):Nat:=if shrE r D i j=0 then fitV D i j (shrQ s D i)else 0
noncomputable def shrT (s r:Nat) (D:Nat->Dl) (i j:Int):Bool:=if shrE r D i j=0 then shrB D i j (shrQ s D i)else false
theorem shrE_arg {r:Nat} {D:Nat->Dl} {i j:Int} (h:plOk i j=false):shrE r D i j=1:=by unfold shrE;rw [if_pos h]
theorem jT {r:Nat} {D:Nat->Dl} {i j:Int} (h:plOk i j=true) (h2:¬ hasS r D i j):shrE r D i j=5:=by unfold shrE;rw [if_neg (by rw [h];simp),if_neg h2]
theorem wW {r:Nat} {D:Nat->Dl} {i j:Int} (h:plOk i j=true) (h2:hasS r D i j) (h3:¬ (nO (D (i.toNat - 1))/\comP (D (i.toNat - 1)))):shrE r D i j=3:=by unfold shrE;rw [if_neg (by rw [h];simp),if_pos h2,if_neg h3]
theorem shrE_ok {r:Nat} {D:Nat->Dl} {i j:Int} (h:plOk i j=true) (h2:hasS r D i j) (h3:nO (D (i.toNat - 1))) (h4:comP (D (i.toNat - 1))):shrE r D i j=0:=by unfold shrE;rw [if_neg (by rw [h];simp),if_pos h2,if_pos ⟨h3,h4⟩]
theorem shrE_zero {r:Nat} {D:Nat->Dl} {i j:Int} (h:shrE r D i j=0):plOk i j=true/\hasS r D i j/\nO (D (i.toNat - 1))/\comP (D (i.toNat - 1)):=by
  cases hp:plOk i j with
  | false=>rw [shrE_arg hp]at h;cases h
  | true =>
    by_cases h2:hasS r D i j
    · by_cases h3:nO (D (i.toNat - 1))/\comP (D (i.toNat - 1))
      · exact⟨rfl,h2,h3.1,h3.2⟩
      · rw [wW hp h2 h3]at h;cases h
    · rw [jT hp h2]at h;cases h
theorem shrY_ne {s r:Nat} {D:Nat->Dl} {i j:Int} (h:shrE r D i j ≠ 0):shrY s r D i j=0:=if_neg h
theorem shrT_ne {s r:Nat} {D:Nat->Dl} {i j:Int} (h:shrE r D i j ≠ 0):shrT s r D i j=false:=if_neg h
theorem uI {s r:Nat} {D:Nat->Dl} {i j:Int} (h:shrE r D i j=0):shrT s r D i j=true ↔ fitV D i j (shrQ s D i)<nN/\nmul (fitV D i j (shrQ s D i)) gG=polyP (cmP (D (i.toNat - 1))) j.toNat (D (i.toNat - 1)).nc:=by
 unfold shrT shrB
 rw [if_pos h]
 classical exact decide_eq_true_iff
def ShrR (s r:Nat) (D:Nat->Dl) (i j:Int) (v:AV):Prop:=(shrE r D i j ≠ 0/\v= .tup [noPt,numA 0,.bool false,.int .i64 (shrE r D i j)])\/(shrE r D i j=0/\v= .tup [ptA (shrQ s D i),numA (shrY s r D i j),.bool (shrT s r D i j),.int .i64 0])
theorem aBv {P:Pt Fp} {n:Nat} {b:Bool} {e:Int}:Flat true (.tup [ptA P,numA n,.bool b,.int .i64 e]):= .tup _ (.cons _ _ bK (.cons _ _ aL (.cons _ _ (.bool _) (.cons _ _ (.int _ _) .nil))))
theorem flat_shr0 {n:Nat} {b:Bool} {e:Int}:Flat true (.tup [noPt,numA n,.bool b,.int .i64 e]):= .tup _ (.cons _ _ cX (.cons _ _ aL (.cons _ _ (.bool _) (.cons _ _ (.int _ _) .nil))))
theorem ShrR.ne {s r:Nat} {D:Nat->Dl} {i j e:Int} (h:shrE r D i j=e) (he:e ≠ 0):ShrR s r D i j (.tup [noPt,numA 0,.bool false,.int .i64 e])/\Flat true (.tup [noPt,numA 0,.bool false,.int .i64 e]):=⟨.inl ⟨by rw [h];exact he,by rw [h]⟩,flat_shr0⟩
theorem rL {m:Mem} {K:AV->Mem->Prop} {e:Int} (h:K (.tup [noPt,numA 0,.bool false,.int .i64 e]) m):ACall Pg kQ [.int .i64 e] m K:=by
 have h0:ACall Pg kQ [.int .i64 e] [] (fun v _=>v= .tup [noPt,numA 0,.bool false,.int .i64 e] /\ Flat true v):=by
  refine B_deal_share_1 ⟨rfl,?_⟩
  conv=>whnf
  repeat (refine⟨⟨_,rfl⟩,?_⟩;conv=>whnf)
  refine⟨rfl,?_⟩
  show Flat true (.tup [noPt,numA 0,.bool false,.int .i64 e])
  exact flat_shr0
 refine aC h0 (.cons _ _ _ _ aG .nil) ?_
 rintro v rfl
 exact h
set_option maxHeartbeats 800000 in
theorem S_dshare0 (n cap:Nat) (f:Nat->Int) (r c1:Nat) (d1 d2:Nat->Nat) (D:Nat->Dl) (i j:Int) (hn:n<=16384) (hf:∀ i,i<n->0<=f i/\f i<=255) (hr:r<=1000000) (hD:∀ k,k<r->OkD (D k)/\(D k).nc<=64):
    ACall Pg kV [.vsl 1 n cap (aB f),.vsl 26 r c1 (dlG D d1 d2),.int .i64 i,.int .i64 j] [] (fun v _=>ShrR (secN n f) r D i j v/\Flat true v):=by
  obtain⟨s,hs⟩ :∃ s,s=secN n f:=⟨_,rfl⟩
  rw [<- hs]
  refine B_deal_share ⟨rfl,?_⟩
  conv=>whnf
  repeat (refine⟨⟨_,rfl⟩,?_⟩;conv=>whnf)
  refine aCd (n:=n) (f:=f) aM.vsl (by omega) hf (fun _ s' hs' hs1 hs0=> ?_) (fun h=>absurd h (by omega))
  obtain rfl:s=s':=hs.trans hs'.symm
  clear hs hs'
  conv=>whnf
  repeat (refine⟨⟨_,rfl⟩,?_⟩;conv=>whnf)
  refine S_Place (fun hok p hp=> ?_) (fun hok=> ?_)
  rotate_left
  · conv=>whnf
    repeat (refine⟨⟨_,rfl⟩,?_⟩;conv=>whnf)
    refine rL ?_
    conv=>whnf
    repeat (refine⟨⟨_,rfl⟩,?_⟩;conv=>whnf)
    exact ShrR.ne (shrE_arg hok) (by decide)
  obtain⟨hi1,hi8,hj1,hj8,hne,hp0,hp6⟩:=lW hok
  obtain⟨a,rfl⟩ :∃ a:Nat,i=a:=⟨i.toNat,by omega⟩
  obtain⟨c,rfl⟩ :∃ c:Nat,j=c:=⟨j.toNat,by omega⟩
  obtain⟨q,rfl⟩ :∃ q:Nat,p=q:=⟨p.toNat,by omega⟩
  have e1:IntKind.i64.wrap ((a:Int) - 1)=((a - 1:Nat):Int):=by rw [w64 (by omega) (by omega)];omega
  conv=>whnf
  repeat (refine⟨⟨_,rfl⟩,?_⟩;conv=>whnf)
  refine S_dnum (n:=r) (D:=D) (i:=(a:Int)) aT.vsl (fun b hb=> ?_)
  by_cases ha:a<=r
  rotate_left
  · obtain rfl:b=false:=by rw [hb,decide_eq_false (p:=(a:Int)<=(r:Int)) (by omega),Bool.and_false]
    conv=>whnf
    repeat (refine⟨⟨_,rfl⟩,?_⟩;conv=>whnf)
    refine rL ?_
    conv=>whnf
    repeat (refine⟨⟨_,rfl⟩,?_⟩;conv=>whnf)
    exact ShrR.ne (jT hok (fun h=>absurd h.1 (by omega))) (by decide)
  obtain rfl:b=true:=by rw [hb,decide_eq_true (by omega),decide_eq_true (by omega)];rfl
  conv=>whnf
  repeat (refine⟨⟨_,rfl⟩,?_⟩;conv=>whnf)
  refine S_dnum (n:=r) (D:=D) (i:=(c:Int)) aT.vsl (fun b hb=> ?_)
  by_cases hc:c<=r
  rotate_left
  · obtain rfl:b=false:=by rw [hb,decide_eq_false (p:=(c:Int)<=(r:Int)) (by omega),Bool.and_false]
    conv=>whnf
    repeat (refine⟨⟨_,rfl⟩,?_⟩;conv=>whnf)
    refine rL ?_
    conv=>whnf
    repeat (refine⟨⟨_,rfl⟩,?_⟩;conv=>whnf)
    exact ShrR.ne (jT hok (fun h=>absurd h.2.1 (by omega))) (by decide)
  obtain rfl:b=true:=by rw [hb,decide_eq_true (by omega),decide_eq_true (by omega)];rfl
  conv=>whnf
  repeat (refine⟨⟨_,rfl⟩,?_⟩;conv=>whnf)
  rw [e1]
  refine aA (by simp;omega) ?_
  conv=>whnf
  repeat (refine⟨⟨_,rfl⟩,?_⟩;conv=>whnf)
  have hd:=hD (a - 1) (by omega)
  have ed:(a:Int).toNat - 1=a - 1:=rfl
  refine aE (fun h3=> ?_) (fun h3=> ?_)
  rotate_left
  · have h3:(D (a - 1)).ps=false:=by simpa using h3
    conv=>whnf
    repeat (refine⟨⟨_,rfl⟩,?_⟩;conv=>whnf)
    refine rL ?_
    conv=>whnf
    repeat (refine⟨⟨_,rfl⟩,?_⟩;conv=>whnf)
    exact ShrR.ne (jT hok (fun h=>Bool.noConfusion (h3.symm.trans h.2.2.1))) (by decide)
  have h3:(D (a - 1)).ps=true:=by simpa using h3
  conv=>whnf
  repeat (refine⟨⟨_,rfl⟩,?_⟩;conv=>whnf)
  rw [e1]
  refine aA (by simp;omega) ?_
  conv=>whnf
  repeat (refine⟨⟨_,rfl⟩,?_⟩;conv=>whnf)
  refine aE (fun h4=> ?_) (fun h4=> ?_)
  · have h4:(q:Int) >= ((D (a - 1)).ns:Int):=of_decide_eq_true h4
    conv=>whnf
    repeat (refine⟨⟨_,rfl⟩,?_⟩;conv=>whnf)
    refine rL ?_
    conv=>whnf
    repeat (refine⟨⟨_,rfl⟩,?_⟩;conv=>whnf)
    exact ShrR.ne (jT hok (fun h=>by have:=h.2.2.2;rw [<- hp]at this;rw [ed]at this;omega)) (by decide)
  have h4:¬ (q:Int) >= ((D (a - 1)).ns:Int):=of_decide_eq_false h4
  have hhas:hasS r D a c:=⟨by omega,by omega,h3,by rw [<- hp];rw [ed];omega⟩
  have hqn:q<(D (a - 1)).ns:=by omega
  conv=>whnf
  repeat (refine⟨⟨_,rfl⟩,?_⟩;conv=>whnf)
  rw [e1]
  refine aA (by simp;omega) ?_
  conv=>whnf
  repeat (refine⟨⟨_,rfl⟩,?_⟩;conv=>whnf)
  by_cases hg:nO (D (a - 1))
  rotate_left
  · refine S_KeyE_bad (n:=s) (i:=(D (a - 1)).i) (x:=(D (a - 1)).x) (y:=(D (a - 1)).y) rfl rfl hd.1.1 hd.1.2.1 (nO.bad hg) ?_
    conv=>whnf
    repeat (refine⟨⟨_,rfl⟩,?_⟩;conv=>whnf)
    refine rL ?_
    conv=>whnf
    repeat (refine⟨⟨_,rfl⟩,?_⟩;conv=>whnf)
    exact ShrR.ne (wW hok hhas (fun h=>hg h.1)) (by decide)
  obtain⟨oA,eA⟩:=hg.pt
  refine S_KeyE (n:=s) (P:=ptOf (D (a - 1))) rfl (Eq.trans (b:=rawA (D (a - 1)).i (D (a - 1)).x (D (a - 1)).y) rfl eA) (Nat.lt_trans hs1 (by decide)) oA (fun Q oQ hQ=> ?_)
  conv=>whnf
  repeat (refine⟨⟨_,rfl⟩,?_⟩;conv=>whnf)
  refine aA (by simp;omega) ?_
  conv=>whnf
  repeat (refine⟨⟨_,rfl⟩,?_⟩;conv=>whnf)
  refine S_OpenPt (P:=Q) (a:=(a:Int)) (b:=(c:Int)) (f:=(D (a - 1)).S q) rfl rfl oQ (by unfold isD;simp;omega) (by unfold isD;simp;omega) (fun i hi=>hd.1.2.2.2.2.2.2.1 q hqn i hi) (fun n hn hnw=> ?_)
  conv=>whnf
  repeat (refine⟨⟨_,rfl⟩,?_⟩;conv=>whnf)
  have hfv:fitV D a c Q=n:=by unfold fitV;rw [<- hp];exact hn.symm
  have hQs:Q=shrQ s D a:=hQ
  refine⟨?_,?_⟩
  · conv=>whnf
    repeat (refine⟨⟨_,rfl⟩,?_⟩;conv=>whnf)
    refine S_place (i:=c) (by omega) ?_
    conv=>whnf
    repeat (refine⟨⟨_,rfl⟩,?_⟩;conv=>whnf)
    by_cases hcm:comP (D (a - 1))
    rotate_left
    · refine S_FitsD_bad (d:=D (a - 1)) (c:=d2 (a - 1)) (x:=c) (y:=n) rfl rfl rfl hcm hd.1 hd.2 ?_
      conv=>whnf
      repeat (refine⟨⟨_,rfl⟩,?_⟩;conv=>whnf)
      refine rL ?_
      conv=>whnf
      repeat (refine⟨⟨_,rfl⟩,?_⟩;conv=>whnf)
      exact ShrR.ne (wW hok hhas (fun h=>hcm h.2)) (by decide)
    have hE:shrE r D a c=0:=shrE_ok hok hhas hg hcm
    have hY:shrY s r D a c=n:=by unfold shrY;rw [if_pos hE,<- hQs,hfv]
    refine S_FitsD (d:=D (a - 1)) (c:=d2 (a - 1)) (x:=c) rfl rfl hcm hd.2 (by show c<2 ^ 256;omega) hnw (fun b hb=> ?_)
    conv=>whnf
    repeat (refine⟨⟨_,rfl⟩,?_⟩;conv=>whnf)
    cases b with
    | false =>
      conv=>whnf
      repeat (refine⟨⟨_,rfl⟩,?_⟩;conv=>whnf)
      have hT:shrT s r D a c=false:=Bool.eq_false_iff.2 fun h=>absurd (hb.2 (by rw [<- hfv,hQs];exact((uI hE).1 h).2)) (by decide)
      refine⟨.inr ⟨hE,?_⟩,?_⟩
      · rw [hY,<- hQs,hT];rfl
      · show Flat true (.tup [ptA Q,numA n,.bool false,.int .i64 0])
        exact aBv
    | true =>
      conv=>whnf
      repeat (refine⟨⟨_,rfl⟩,?_⟩;conv=>whnf)
      refine vG (fun p hp1=> ?_)
      conv=>whnf
      repeat (refine⟨⟨_,rfl⟩,?_⟩;conv=>whnf)
      refine S_LCmp hnw (by rw [hp1];decide) (fun z hz=> ?_)
      have hz':z<0 ↔ n<nN:=by
        rcases rF hz with⟨h,h'⟩ | ⟨h,h' | h'⟩ <;> rw [hp1]at h <;> rw [h'] <;> constructor <;> intro g <;> first | exact h | decide | omega
      have hT:shrT s r D a c=decide (z<0):=by
        rw [Bool.eq_iff_iff,uI hE,<- hQs,hfv,decide_eq_true_iff,hz']
        exact⟨fun h=>h.1,fun h=>⟨h,hb.1 rfl⟩⟩
      conv=>whnf
      repeat (refine⟨⟨_,rfl⟩,?_⟩;conv=>whnf)
      refine⟨.inr ⟨hE,?_⟩,?_⟩
      · rw [hY,<- hQs,hT];rfl
      · show Flat true (.tup [ptA Q,numA n,.bool (decide (z<0)),.int .i64 0])
        exact aBv
  · refine S_place (i:=c) (by omega) ?_
    conv=>whnf
    repeat (refine⟨⟨_,rfl⟩,?_⟩;conv=>whnf)
    conv=>whnf
    repeat (refine⟨⟨_,rfl⟩,?_⟩;conv=>whnf)
    by_cases hcm:comP (D (a - 1))
    rotate_left
    · refine S_FitsD_bad (d:=D (a - 1)) (c:=d2 (a - 1)) (x:=c) (y:=n) rfl rfl rfl hcm hd.1 hd.2 ?_
      conv=>whnf
      repeat (refine⟨⟨_,rfl⟩,?_⟩;conv=>whnf)
      refine rL ?_
      conv=>whnf
      repeat (refine⟨⟨_,rfl⟩,?_⟩;conv=>whnf)
      exact ShrR.ne (wW hok hhas (fun h=>hcm h.2)) (by decide)
    have hE:shrE r D a c=0:=shrE_ok hok hhas hg hcm
    have hY:shrY s r D a c=n:=by unfold shrY;rw [if_pos hE,<- hQs,hfv]
    refine S_FitsD (d:=D (a - 1)) (c:=d2 (a - 1)) (x:=c) rfl rfl hcm hd.2 (by show c<2 ^ 256;omega) hnw (fun b hb=> ?_)
    conv=>whnf
    repeat (refine⟨⟨_,rfl⟩,?_⟩;conv=>whnf)
    cases b with
    | false =>
      conv=>whnf
      repeat (refine⟨⟨_,rfl⟩,?_⟩;conv=>whnf)
      have hT:shrT s r D a c=false:=Bool.eq_false_iff.2 fun h=>absurd (hb.2 (by rw [<- hfv,hQs];exact((uI hE).1 h).2)) (by decide)
      refine⟨.inr ⟨hE,?_⟩,?_⟩
      · rw [hY,<- hQs,hT];rfl
      · show Flat true (.tup [ptA Q,numA n,.bool false,.int .i64 0])
        exact aBv
    | true =>
      conv=>whnf
      repeat (refine⟨⟨_,rfl⟩,?_⟩;conv=>whnf)
      refine vG (fun p hp1=> ?_)
      conv=>whnf
      repeat (refine⟨⟨_,rfl⟩,?_⟩;conv=>whnf)
      refine S_LCmp hnw (by rw [hp1];decide) (fun z hz=> ?_)
      have hz':z<0 ↔ n<nN:=by
        rcases rF hz with⟨h,h'⟩ | ⟨h,h' | h'⟩ <;> rw [hp1]at h <;> rw [h'] <;> constructor <;> intro g <;> first | exact h | decide | omega
      have hT:shrT s r D a c=decide (z<0):=by
        rw [Bool.eq_iff_iff,uI hE,<- hQs,hfv,decide_eq_true_iff,hz']
        exact⟨fun h=>h.1,fun h=>⟨h,hb.1 rfl⟩⟩
      conv=>whnf
      repeat (refine⟨⟨_,rfl⟩,?_⟩;conv=>whnf)
      refine⟨.inr ⟨hE,?_⟩,?_⟩
      · rw [hY,<- hQs,hT];rfl
      · show Flat true (.tup [ptA Q,numA n,.bool (decide (z<0)),.int .i64 0])
        exact aBv
theorem S_dshare {m:Mem} {x z:AV} {K:AV->Mem->Prop} {n:Nat} {f:Nat->Int} {r:Nat} {D:Nat->Dl} {i j:Int} (hx:aM m x n f) (hz:aT m z r D) (hn:n<=16384) (hf:∀ i,i<n->0<=f i/\f i<=255) (hr:r<=1000000) (hD:∀ k,k<r->OkD (D k)/\(D k).nc<=64)
 (h1:shrE r D i j=0->∀ Q y b,Q=shrQ (secN n f) D i->y=shrY (secN n f) r D i j->b=shrT (secN n f) r D i j->K (.tup [ptA Q,numA y,.bool b,.int .i64 0]) m)
 (h2:∀ e,e=shrE r D i j->e ≠ 0->K (.tup [noPt,numA 0,.bool false,.int .i64 e]) m):ACall Pg kV [x,z,.int .i64 i,.int .i64 j] m K:=by
 obtain⟨cap,hl⟩:=hx
 obtain⟨c1,d1,d2,hl2⟩:=hz
 refine aC (S_dshare0 n cap f r c1 d1 d2 D i j hn hf hr hD) (.cons _ _ _ _ hl (.cons _ _ _ _ hl2 (.cons _ _ _ _ aG (.cons _ _ _ _ aG .nil)))) ?_
 rintro v (⟨h,rfl⟩ | ⟨h,rfl⟩)
 · exact h2 _ rfl h
 · exact h1 h _ _ _ rfl rfl rfl
theorem shrY_lt {s r:Nat} {D:Nat->Dl} {i j:Int}:shrY s r D i j<w256:=by
 unfold shrY
 split
 · unfold fitV;exact ofZ_lt (fun i _=>jQ _ _)
 · decide
theorem aCb {m:Mem} {x z:AV} {K:AV->Mem->Prop} {n:Nat} {f:Nat->Int} {r:Nat} {D:Nat->Dl} {i j:Int} (hx:aM m x n f) (hz:aT m z r D) (hn:n<=16384) (hf:∀ i,i<n->0<=f i/\f i<=255) (hr:r<=1000000) (hD:∀ k,k<r->OkD (D k)/\(D k).nc<=64)
 (h:∀ y b e,y=shrY (secN n f) r D i j->b=shrT (secN n f) r D i j->e=shrE r D i j->y<w256->K (.tup [numA y,.bool b,.int .i64 e]) m):ACall Pg kW [x,z,.int .i64 i,.int .i64 j] m K:=by
 have h0:∀ cap c1 d1 d2,ACall Pg kW [.vsl 1 n cap (aB f),.vsl 26 r c1 (dlG D d1 d2),.int .i64 i,.int .i64 j] [] (fun v _=>v= .tup [numA (shrY (secN n f) r D i j),.bool (shrT (secN n f) r D i j),.int .i64 (shrE r D i j)] /\ Flat true v):=fun cap c1 d1 d2=>by
  refine B_deal_Share ⟨rfl,?_⟩
  conv=>whnf
  repeat (refine⟨⟨_,rfl⟩,?_⟩;conv=>whnf)
  refine S_dshare (n:=n) (f:=f) (r:=r) (D:=D) aM.vsl aT.vsl hn hf hr hD (fun he Q y b hQ hy hb=> ?_) (fun e he he0=> ?_)
  · rw [he,<- hy,<- hb]
    conv=>whnf
    repeat (refine⟨⟨_,rfl⟩,?_⟩;conv=>whnf)
    exact⟨rfl,.tup _ (.cons _ _ aL (.cons _ _ (.bool _) (.cons _ _ (.int _ _) .nil)))⟩
  · rw [shrY_ne (fun h=>he0 (he.trans h)),shrT_ne (fun h=>he0 (he.trans h)),<- he]
    conv=>whnf
    repeat (refine⟨⟨_,rfl⟩,?_⟩;conv=>whnf)
    exact⟨rfl,.tup _ (.cons _ _ aL (.cons _ _ (.bool _) (.cons _ _ (.int _ _) .nil)))⟩
 obtain⟨cap,hl⟩:=hx
 obtain⟨c1,d1,d2,hl2⟩:=hz
 refine aC (h0 cap c1 d1 d2) (.cons _ _ _ _ hl (.cons _ _ _ _ hl2 (.cons _ _ _ _ aG (.cons _ _ _ _ aG .nil)))) ?_
 rintro v rfl
 exact h _ _ _ rfl rfl rfl shrY_lt
theorem flat_nbe {n:Nat} {b:Bool} {e:Int}:Flat true (.tup [numA n,.bool b,.int .i64 e]):= .tup _ (.cons _ _ aL (.cons _ _ (.bool _) (.cons _ _ (.int _ _) .nil)))
theorem Shr3.ne {s r:Nat} {D:Nat->Dl} {i j e:Int} (h:shrE r D i j=e) (he:e ≠ 0):AV.tup [numA 0,.bool false,.int .i64 e] = .tup [numA (shrY s r D i j),.bool (shrT s r D i j),.int .i64 (shrE r D i j)] /\ Flat true (.tup [numA 0,.bool false,.int .i64 e]):=⟨by rw [shrY_ne (by rw [h];exact he),shrT_ne (by rw [h];exact he),h],flat_nbe⟩
theorem vD {m:Mem} {x z:AV} {K:AV->Mem->Prop} {n:Nat} {f:Nat->Int} {r:Nat} {D:Nat->Dl} {i j:Int} (hx:aM m x n f) (hz:aT m z r D) (hn:n<=16384) (hf:∀ i,i<n->0<=f i/\f i<=255) (hr:r<=1000000) (hD:∀ k,k<r->OkD (D k)/\(D k).nc<=64)
 (h:∀ y b e,y=shrY (secN n f) r D i j->b=shrT (secN n f) r D i j->e=shrE r D i j->y<w256->K (.tup [numA y,.bool b,.int .i64 e]) m):ACall Pg dL [x,z,.int .i64 i,.int .i64 j] m K:=by
 have h0:∀ cap c1 d1 d2,ACall Pg dL [.vsl 1 n cap (aB f),.vsl 26 r c1 (dlG D d1 d2),.int .i64 i,.int .i64 j] [] (fun v _=>v= .tup [numA (shrY (secN n f) r D i j),.bool (shrT (secN n f) r D i j),.int .i64 (shrE r D i j)] /\ Flat true v):=fun cap c1 d1 d2=>by
  obtain⟨s,hs⟩ :∃ s,s=secN n f:=⟨_,rfl⟩
  rw [<- hs]
  refine vL ⟨rfl,?_⟩
  conv=>whnf
  repeat (refine⟨⟨_,rfl⟩,?_⟩;conv=>whnf)
  refine S_RPlace (fun hok p hp=> ?_) (fun hok=> ?_)
  rotate_left
  · conv=>whnf
    repeat (refine⟨⟨_,rfl⟩,?_⟩;conv=>whnf)
    exact Shr3.ne (shrE_arg hok) (by decide)
  obtain⟨hi1,hi8,hj1,hj8,hne,hp0,hp6⟩:=lW hok
  obtain⟨a,rfl⟩ :∃ a:Nat,i=a:=⟨i.toNat,by omega⟩
  obtain⟨c,rfl⟩ :∃ c:Nat,j=c:=⟨j.toNat,by omega⟩
  obtain⟨q,rfl⟩ :∃ q:Nat,p=q:=⟨p.toNat,by omega⟩
  have e1:IntKind.i64.wrap ((a:Int) - 1)=((a - 1:Nat):Int):=by rw [w64 (by omega) (by omega)];omega
  have ed:(a:Int).toNat - 1=a - 1:=rfl
  conv=>whnf
  repeat (refine⟨⟨_,rfl⟩,?_⟩;conv=>whnf)
  refine aE (fun h1=> ?_) (fun h1=> ?_)
  rotate_left
  · have h1:=nL h1
    conv=>whnf
    repeat (refine⟨⟨_,rfl⟩,?_⟩;conv=>whnf)
    exact Shr3.ne (jT hok (fun h=>absurd h.1 (by omega))) (by decide)
  have h1:=mX h1
  conv=>whnf
  repeat (refine⟨⟨_,rfl⟩,?_⟩;conv=>whnf)
  refine aE (fun h2=> ?_) (fun h2=> ?_)
  rotate_left
  · have h2:=nL h2
    conv=>whnf
    repeat (refine⟨⟨_,rfl⟩,?_⟩;conv=>whnf)
    exact Shr3.ne (jT hok (fun h=>absurd h.2.1 (by omega))) (by decide)
  have h2:=mX h2
  have hd:=hD (a - 1) (by omega)
  conv=>whnf
  repeat (refine⟨⟨_,rfl⟩,?_⟩;conv=>whnf)
  rw [e1]
  refine aA (by simp;omega) ?_
  conv=>whnf
  repeat (refine⟨⟨_,rfl⟩,?_⟩;conv=>whnf)
  refine aE (fun h3=> ?_) (fun h3=> ?_)
  rotate_left
  · have h3:(D (a - 1)).ps=false:=by simpa using h3
    conv=>whnf
    repeat (refine⟨⟨_,rfl⟩,?_⟩;conv=>whnf)
    exact Shr3.ne (jT hok (fun h=>Bool.noConfusion (h3.symm.trans h.2.2.1))) (by decide)
  have h3:(D (a - 1)).ps=true:=by simpa using h3
  conv=>whnf
  repeat (refine⟨⟨_,rfl⟩,?_⟩;conv=>whnf)
  rw [e1]
  refine aA (by simp;omega) ?_
  conv=>whnf
  repeat (refine⟨⟨_,rfl⟩,?_⟩;conv=>whnf)
  refine aE (fun h4=> ?_) (fun h4=> ?_)
  · have h4:(q:Int) >= ((D (a - 1)).ns:Int):=of_decide_eq_true h4
    conv=>whnf
    repeat (refine⟨⟨_,rfl⟩,?_⟩;conv=>whnf)
    exact Shr3.ne (jT hok (fun h=>by have:=h.2.2.2;rw [<- hp]at this;rw [ed]at this;omega)) (by decide)
  have h4:¬ (q:Int) >= ((D (a - 1)).ns:Int):=of_decide_eq_false h4
  have hhas:hasS r D a c:=⟨by omega,by omega,h3,by rw [<- hp];rw [ed];omega⟩
  have hqn:q<(D (a - 1)).ns:=by omega
  conv=>whnf
  repeat (refine⟨⟨_,rfl⟩,?_⟩;conv=>whnf)
  rw [e1]
  refine aA (by simp;omega) ?_
  conv=>whnf
  repeat (refine⟨⟨_,rfl⟩,?_⟩;conv=>whnf)
  refine S_rCheckD (i:=(D (a - 1)).i) (x:=(D (a - 1)).x) (y:=(D (a - 1)).y) rfl hd.1.1 hd.1.2.1 (fun P oP eP=> ?_) (fun hbad=> ?_)
  rotate_left
  · conv=>whnf
    repeat (refine⟨⟨_,rfl⟩,?_⟩;conv=>whnf)
    exact Shr3.ne (wW hok hhas (fun h=>nO.not hbad h.1)) (by decide)
  have hg:nO (D (a - 1)):=⟨P,oP,eP⟩
  clear oP eP
  conv=>whnf
  repeat (refine⟨⟨_,rfl⟩,?_⟩;conv=>whnf)
  rw [e1]
  refine aA (by simp;omega) ?_
  conv=>whnf
  repeat (refine⟨⟨_,rfl⟩,?_⟩;conv=>whnf)
  refine fL (by have:=hd.2;simp;omega) ?_
  conv=>whnf
  repeat (refine⟨⟨_,rfl⟩,?_⟩;conv=>whnf)
  rw [e1]
  refine aA (by simp;omega) ?_
  conv=>whnf
  repeat (refine⟨⟨_,rfl⟩,?_⟩;conv=>whnf)
  refine S_RPtsD (d:=D (a - 1)) (c:=d2 (a - 1)) rfl hd.1 (fun hcm=> ?_) (fun hcm=> ?_)
  rotate_left
  · conv=>whnf
    repeat (refine⟨⟨_,rfl⟩,?_⟩;conv=>whnf)
    exact Shr3.ne (wW hok hhas (fun h=>hcm h.2)) (by decide)
  conv=>whnf
  repeat (refine⟨⟨_,rfl⟩,?_⟩;conv=>whnf)
  rw [e1]
  refine aA (by simp;omega) ?_
  conv=>whnf
  repeat (refine⟨⟨_,rfl⟩,?_⟩;conv=>whnf)
  refine rO (n:=n) (f:=f) aM.vsl hn hf (fun s' hs' hs1 hs0=> ?_)
  obtain rfl:s=s':=hs.trans hs'.symm
  conv=>whnf
  repeat (refine⟨⟨_,rfl⟩,?_⟩;conv=>whnf)
  obtain⟨oA,eA⟩:=hg.pt
  refine vA (n:=s) (P:=ptOf (D (a - 1))) rfl (Eq.trans (b:=rawA (D (a - 1)).i (D (a - 1)).x (D (a - 1)).y) rfl eA) (Nat.lt_trans hs1 (by decide)) oA (fun Q oQ hQ=> ?_)
  have hQs:Q=shrQ s D a:=hQ
  conv=>whnf
  repeat (refine⟨⟨_,rfl⟩,?_⟩;conv=>whnf)
  refine S_RJFits (r:=r) (D:=D) (i:=(a:Int)) (j:=(c:Int)) (ki:=isI Q) (kx:=xN Q) (ky:=yN Q) aT.vsl hr (fun k hk=>(hD k hk).1) (xN_w _) (yN_w _) (fun b e hf=> ?_)
  conv=>whnf
  repeat (refine⟨⟨_,rfl⟩,?_⟩;conv=>whnf)
  rw [e1]
  refine aA (by simp;omega) ?_
  conv=>whnf
  repeat (refine⟨⟨_,rfl⟩,?_⟩;conv=>whnf)
  refine aA (by simp;omega) ?_
  conv=>whnf
  repeat (refine⟨⟨_,rfl⟩,?_⟩;conv=>whnf)
  refine S_ROpenPt (P:=Q) (a:=(a:Int)) (b:=(c:Int)) (f:=(D (a - 1)).S q) rfl rfl oQ (by unfold isD;simp;omega) (by unfold isD;simp;omega) (fun i hi=>hd.1.2.2.2.2.2.2.1 q hqn i hi) (fun n hn hnw=> ?_)
  conv=>whnf
  repeat (refine⟨⟨_,rfl⟩,?_⟩;conv=>whnf)
  have hfv:fitV D a c Q=n:=by unfold fitV;rw [<- hp];exact hn.symm
  have hE:shrE r D a c=0:=shrE_ok hok hhas hg hcm
  have hY:shrY s r D a c=n:=by unfold shrY;rw [if_pos hE,<- hQs,hfv]
  have hhp:hasP r D a c:=⟨hhas.1,hhas.2.1,hhas.2.2.1,hhas.2.2.2,hd.2,hcm⟩
  have hT:shrT s r D a c=b:=by
   rcases hf with⟨g,_⟩ | ⟨_,g,_⟩ | ⟨_,_,g,_⟩ | ⟨_,_,Q',oQ',eQ',_,g⟩
   · rw [hok]at g;cases g
   · exact absurd hhp g
   · exact absurd rfl (g Q oQ)
   · obtain rfl:Q=Q':=lV eQ'
     rw [Bool.eq_iff_iff,g,uI hE,<- hQs]
  rw [hY,hT,hE]
  exact⟨rfl,flat_nbe⟩
 obtain⟨cap,hl⟩:=hx
 obtain⟨c1,d1,d2,hl2⟩:=hz
 refine aC (h0 cap c1 d1 d2) (.cons _ _ _ _ hl (.cons _ _ _ _ hl2 (.cons _ _ _ _ aG (.cons _ _ _ _ aG .nil)))) ?_
 rintro v rfl
 exact h _ _ _ rfl rfl rfl shrY_lt
end Go.Proofs.YtfolpdmbpbbimaaGreat
end

section
namespace Go.Proofs.YtfolpdmbpbbimaaGreat
open Go Go.Wit
def DisR (n:Nat) (f:Nat->Int) (r:Nat) (D:Nat->Dl) (i j:Int) (v:AV):Prop:=(shrE r D i j ≠ 0/\v= .tup [act0,.int .i64 (shrE r D i j)])\/
 (shrE r D i j=0/\∃ Q A c p,Q=shrQ (secN n f) D i/\A=ptOf (D (i.toNat - 1))/\c=prfC (secN n f) (drwN noB n f i.toNat) A/\p=prfR (secN n f) (drwN noB n f i.toNat) c/\v= .tup [actA 3 (isI Q) (xN Q) (yN Q) nB .nils .nils i c p,.int .i64 0])
theorem xJ {m:Mem} {x z:AV} {K:AV->Mem->Prop} {n:Nat} {f:Nat->Int} {r:Nat} {D:Nat->Dl} {i j:Int} (hx:aM m x n f) (hz:aT m z r D) (hn:n<=16384) (hf:∀ i,i<n->0<=f i/\f i<=255) (hr:r<=1000000) (hD:∀ k,k<r->OkD (D k)/\(D k).nc<=64)
 (h:∀ v,DisR n f r D i j v->K v m):ACall Pg kR [x,z,.int .i64 i,.int .i64 j] m K:=by
 have h0:∀ cap c1 d1 d2,ACall Pg kR [.vsl 1 n cap (aB f),.vsl 26 r c1 (dlG D d1 d2),.int .i64 i,.int .i64 j] [] (fun v _=>DisR n f r D i j v/\Flat true v):=fun cap c1 d1 d2=>by
  refine B_deal_Dispute ⟨rfl,?_⟩
  conv=>whnf
  repeat (refine⟨⟨_,rfl⟩,?_⟩;conv=>whnf)
  refine S_dshare (n:=n) (f:=f) (r:=r) (D:=D) aM.vsl aT.vsl hn hf hr hD (fun he Q y b hQ hy hb=> ?_) (fun e he he0=> ?_)
  rotate_left
  · conv=>whnf
    repeat (refine⟨⟨_,rfl⟩,?_⟩;conv=>whnf)
    refine aS (by simpa using he0) ?_
    conv=>whnf
    repeat (refine⟨⟨_,rfl⟩,?_⟩;conv=>whnf)
    exact⟨.inl ⟨by rw [<- he];exact he0,by rw [<- he];rfl⟩,iJ⟩
  obtain⟨hok,hhas,hg,hcm⟩:=shrE_zero he
  obtain⟨oA,eA⟩:=hg.pt
  obtain⟨hi1,hi8,hj1,hj8,hne,hp0,hp6⟩:=lW hok
  obtain⟨a,rfl⟩ :∃ a:Nat,i=a:=⟨i.toNat,by omega⟩
  have ha:a<=r:=by have:=hhas.1;omega
  have e1:IntKind.i64.wrap ((a:Int) - 1)=((a - 1:Nat):Int):=by rw [w64 (by omega) (by omega)];omega
  have hQo:On Q:=by rw [hQ];exact oA.nmul crvP _
  conv=>whnf
  repeat (refine⟨⟨_,rfl⟩,?_⟩;conv=>whnf)
  refine aCd (n:=n) (f:=f) aM.vsl (by omega) hf (fun _ s hs hs1 hs0=> ?_) (fun h=>absurd h (by omega))
  conv=>whnf
  repeat (refine⟨⟨_,rfl⟩,?_⟩;conv=>whnf)
  refine S_scalar (t:=noB) (by decide) (n:=n) (i:=a) (f:=f) aM.vsl hn hf (by omega) (fun k hk hk1=> ?_)
  conv=>whnf
  repeat (refine⟨⟨_,rfl⟩,?_⟩;conv=>whnf)
  rw [e1]
  refine aA (by simp;omega) ?_
  conv=>whnf
  repeat (refine⟨⟨_,rfl⟩,?_⟩;conv=>whnf)
  refine S_ProveE (s:=s) (k:=k) (b:=ptOf (D (a - 1))) rfl rfl (Eq.trans (b:=rawA (D (a - 1)).i (D (a - 1)).x (D (a - 1)).y) rfl eA) (Nat.lt_trans hs1 (by decide)) (Nat.lt_trans hk1 (by decide)) oA (fun c p hc hp hc1 hp1=> ?_)
  conv=>whnf
  repeat (refine⟨⟨_,rfl⟩,?_⟩;conv=>whnf)
  refine⟨.inr ⟨he,Q,_,c,p,hQ,rfl,by rw [hc,hs,hk];rfl,by rw [hp,hs,hk];rfl,rfl⟩,?_⟩
  show Flat true (.tup [actA 3 (isI Q) (xN Q) (yN Q) nB .nils .nils (a:Int) c p,.int .i64 0])
  exact pA
 obtain⟨cap,hl⟩:=hx
 obtain⟨c1,d1,d2,hl2⟩:=hz
 refine aC (h0 cap c1 d1 d2) (.cons _ _ _ _ hl (.cons _ _ _ _ hl2 (.cons _ _ _ _ aG (.cons _ _ _ _ aG .nil)))) ?_
 rintro v hv
 exact h _ hv
theorem lQ {m:Mem} {x z:AV} {K:AV->Mem->Prop} {n:Nat} {f:Nat->Int} {r:Nat} {D:Nat->Dl} {i j:Int} (hx:aM m x n f) (hz:aT m z r D) (hn:n<=16384) (hf:∀ i,i<n->0<=f i/\f i<=255) (hr:r<=1000000) (hD:∀ k,k<r->OkD (D k)/\(D k).nc<=64)
 (h:∀ v,DisR n f r D i j v->K v m):ACall Pg fM [x,z,.int .i64 i,.int .i64 j] m K:=by
 have h0:∀ cap c1 d1 d2,ACall Pg fM [.vsl 1 n cap (aB f),.vsl 26 r c1 (dlG D d1 d2),.int .i64 i,.int .i64 j] [] (fun v _=>DisR n f r D i j v/\Flat true v):=fun cap c1 d1 d2=>by
  refine sM ⟨rfl,?_⟩
  conv=>whnf
  repeat (refine⟨⟨_,rfl⟩,?_⟩;conv=>whnf)
  refine vD (n:=n) (f:=f) (r:=r) (D:=D) aM.vsl aT.vsl hn hf hr hD (fun y b e hy hb he hyw=> ?_)
  conv=>whnf
  repeat (refine⟨⟨_,rfl⟩,?_⟩;conv=>whnf)
  refine aE (fun he0=> ?_) (fun he0=> ?_)
  · have he0:e ≠ 0:=by simpa using he0
    conv=>whnf
    repeat (refine⟨⟨_,rfl⟩,?_⟩;conv=>whnf)
    exact⟨.inl ⟨by rw [<- he];exact he0,by rw [<- he];rfl⟩,iJ⟩
  have he:shrE r D i j=0:=by rw [<- he];simpa using he0
  obtain⟨hok,hhas,hg,hcm⟩:=shrE_zero he
  obtain⟨oA,eA⟩:=hg.pt
  obtain⟨hi1,hi8,hj1,hj8,hne,hp0,hp6⟩:=lW hok
  obtain⟨a,rfl⟩ :∃ a:Nat,i=a:=⟨i.toNat,by omega⟩
  have ha:a<=r:=by have:=hhas.1;omega
  have e1:IntKind.i64.wrap ((a:Int) - 1)=((a - 1:Nat):Int):=by rw [w64 (by omega) (by omega)];omega
  conv=>whnf
  repeat (refine⟨⟨_,rfl⟩,?_⟩;conv=>whnf)
  rw [e1]
  refine aA (by simp;omega) ?_
  conv=>whnf
  repeat (refine⟨⟨_,rfl⟩,?_⟩;conv=>whnf)
  refine rO (n:=n) (f:=f) aM.vsl hn hf (fun s hs hs1 _=> ?_)
  conv=>whnf
  repeat (refine⟨⟨_,rfl⟩,?_⟩;conv=>whnf)
  refine vA (n:=s) (P:=ptOf (D (a - 1))) rfl (Eq.trans (b:=rawA (D (a - 1)).i (D (a - 1)).x (D (a - 1)).y) rfl eA) (Nat.lt_trans hs1 (by decide)) oA (fun Q oQ hQ=> ?_)
  conv=>whnf
  repeat (refine⟨⟨_,rfl⟩,?_⟩;conv=>whnf)
  refine rO (n:=n) (f:=f) aM.vsl hn hf (fun s' hs' _ _=> ?_)
  obtain rfl:s=s':=hs.trans hs'.symm
  conv=>whnf
  repeat (refine⟨⟨_,rfl⟩,?_⟩;conv=>whnf)
  refine S_nonce (n:=n) (i:=a) (f:=f) aM.vsl hn hf (by omega) (fun k hk hk1=> ?_)
  conv=>whnf
  repeat (refine⟨⟨_,rfl⟩,?_⟩;conv=>whnf)
  refine S_RProveE (s:=s) (k:=k) (b:=ptOf (D (a - 1))) rfl rfl (Eq.trans (b:=rawA (D (a - 1)).i (D (a - 1)).x (D (a - 1)).y) rfl eA) (Nat.lt_trans hs1 (by decide)) (Nat.lt_trans hk1 (by decide)) oA (fun c p hc hp hc1 hp1=> ?_)
  conv=>whnf
  repeat (refine⟨⟨_,rfl⟩,?_⟩;conv=>whnf)
  refine⟨.inr ⟨he,Q,_,c,p,by rw [hQ,hs];rfl,rfl,by rw [hc,hs,hk];rfl,by rw [hp,hs,hk];rfl,rfl⟩,?_⟩
  show Flat true (.tup [actA 3 (isI Q) (xN Q) (yN Q) nB .nils .nils (a:Int) c p,.int .i64 0])
  exact pA
 obtain⟨cap,hl⟩:=hx
 obtain⟨c1,d1,d2,hl2⟩:=hz
 refine aC (h0 cap c1 d1 d2) (.cons _ _ _ _ hl (.cons _ _ _ _ hl2 (.cons _ _ _ _ aG (.cons _ _ _ _ aG .nil)))) ?_
 rintro v hv
 exact h _ hv
theorem DisR.same {n r:Nat} {f:Nat->Int} {D:Nat->Dl} {i j:Int} {v w:AV} (h:DisR n f r D i j v) (h':DisR n f r D i j w):v=w:=by
 rcases h with⟨h,rfl⟩ | ⟨h,Q,A,c,p,rfl,rfl,rfl,rfl,rfl⟩
 · rcases h' with⟨_,rfl⟩ | ⟨g,_⟩
   · rfl
   · exact absurd g h
 · rcases h' with⟨g,_⟩ | ⟨_,Q',A',c',p',rfl,rfl,rfl,rfl,rfl⟩
   · exact absurd h g
   · rfl
noncomputable def finY (s t:Nat) (c:Nat->Nat) (r:Nat) (D:Nat->Dl) (me k:Nat):Nat × Int:=if k+1=me then (sumN c me (t+1) % nN,0)else (shrY s r D (k+1:Nat) me,shrE r D (k+1:Nat) me)
noncomputable def finL (s t:Nat) (c:Nat->Nat) (r:Nat) (D:Nat->Dl) (me:Nat):Nat->Nat × Int:=
 Nat.rec (motive:=fun _=>Nat × Int) (0,0) (fun k ih=>if ih.2=0/\(D k).bd=false then (if (finY s t c r D me k).2=0 then ((ih.1+(finY s t c r D me k).1) % nN,0)else (0,(finY s t c r D me k).2))else ih)
theorem rB {s t r me k:Nat} {c:Nat->Nat} {D:Nat->Dl}:finL s t c r D me (k+1)=if (finL s t c r D me k).2=0/\(D k).bd=false then (if (finY s t c r D me k).2=0 then (((finL s t c r D me k).1+(finY s t c r D me k).1) % nN,0)else (0,(finY s t c r D me k).2))else finL s t c r D me k:=rfl
theorem finL_bad {s t r me k:Nat} {c:Nat->Nat} {D:Nat->Dl} (h:(D k).bd=true):finL s t c r D me (k+1)=finL s t c r D me k:=by
 rw [rB,if_neg (fun g=>by rw [h]at g;cases g.2)]
theorem finL_ok {s t r me k y a:Nat} {c:Nat->Nat} {D:Nat->Dl} (h:(D k).bd=false) (ha:finL s t c r D me k=(a,0)) (hy:finY s t c r D me k=(y,0)):finL s t c r D me (k+1)=((a+y) % nN,0):=by
 rw [rB,ha,hy,if_pos ⟨rfl,h⟩,if_pos rfl]
theorem finL_err {s t r me k y a:Nat} {e:Int} {c:Nat->Nat} {D:Nat->Dl} (h:(D k).bd=false) (ha:finL s t c r D me k=(a,0)) (hy:finY s t c r D me k=(y,e)) (he:e ≠ 0):finL s t c r D me (k+1)=(0,e):=by
 rw [rB,ha,hy,if_pos ⟨rfl,h⟩,if_neg he]
theorem finL_stuck {s t r me k:Nat} {c:Nat->Nat} {D:Nat->Dl} (h:(finL s t c r D me k).2 ≠ 0):∀ q,finL s t c r D me (k+q)=finL s t c r D me k
  | 0=>rfl
  | q + 1 => by
    have ih:=finL_stuck h q
    rw [show k+(q+1)=(k+q)+1 from rfl,rB,if_neg (fun g=>h (by rw [<- ih];exact g.1)),ih]
theorem finL_end {s t r me k:Nat} {e:Int} {c:Nat->Nat} {D:Nat->Dl} (h:finL s t c r D me (k+1)=(0,e)) (he:e ≠ 0) (hk:k<r):finL s t c r D me r=(0,e):=by
 have:=finL_stuck (s:=s) (t:=t) (r:=r) (me:=me) (k:=k+1) (c:=c) (D:=D) (by rw [h];exact he) (r - (k+1))
 rw [show k+1+(r - (k+1))=r by omega]at this
 rw [this,h]
theorem finL_lt {s t r me:Nat} {c:Nat->Nat} {D:Nat->Dl}:∀ k,(finL s t c r D me k).1<nN
  | 0=>by show 0<nN;decide
  | k + 1 => by
    rw [rB]
    split
    · split
      · exact Nat.mod_lt _ (by decide)
      · show 0<nN;decide
    · exact finL_lt k
theorem lE {n:Nat} {e:Int}:Flat true (.tup [numA n,.int .i64 e]):= .tup _ (.cons _ _ aL (.cons _ _ (.int _ _) .nil))
theorem rvnum0 {nv:Bool} {σ:Nat->Option Nat} {i j:Nat} {A:AV} (hi:i<4) (hj:j<1) (hA:A= [AV.int .u64 0].getD j .un):RV nv σ A (lstG 1 (numL 0) i j):=by
 refine RV.of ?_ (by unfold lstG;exact aJ)
 obtain rfl:j=0:=by omega
 rw [hA]
 rcases(show i=0\/i=1\/i=2\/i=3 by omega)with rfl | rfl | rfl | rfl
 all_goals exact congrArg (AV.int IntKind.u64) (lim0 _).symm
set_option maxHeartbeats 800000 in
theorem S_dFinal0 (n cap t:Nat) (f:Nat->Int) (r c1:Nat) (d1 d2:Nat->Nat) (D:Nat->Dl) (me:Nat) (hn:n<=16384) (ht:t<64) (hf:∀ i,i<n->0<=f i/\f i<=255) (hr:r<=1000) (hm:1<=me/\me<=r) (hD:∀ k,k<r->OkD (D k)/\(D k).nc<=64):
 ACall Pg jO [.vsl 1 n cap (aB f),.int .i64 t,.vsl 26 r c1 (dlG D d1 d2),.int .i64 me] [] (fun v _=>v= .tup [numA (finL (secN n f) t (coN n f) r D me r).1,.int .i64 (finL (secN n f) t (coN n f) r D me r).2] /\ Flat true v):=by
 obtain⟨s,hs⟩ :∃ s,s=secN n f:=⟨_,rfl⟩
 obtain⟨c,hc⟩ :∃ c,c=coN n f:=⟨_,rfl⟩
 rw [<- hs,<- hc]
 refine zQ ⟨rfl,?_⟩
 conv=>whnf
 repeat (refine⟨⟨_,rfl⟩,?_⟩;conv=>whnf)
 refine S_Poly (n:=n) (t:=t) (f:=f) aM.vsl hn ht hf (fun c' cc hc' hcN _=> ?_)
 obtain rfl:c=c':=hc.trans hc'.symm
 clear hc hc'
 conv=>whnf
 repeat (refine⟨⟨_,rfl⟩,?_⟩;conv=>whnf)
 refine S_dnum (n:=r) (D:=D) (i:=me) aT.vsl (fun b hb=> ?_)
 obtain rfl:b=true:=by rw [hb,decide_eq_true (by omega),decide_eq_true (by omega)];rfl
 conv=>whnf
 repeat (refine⟨⟨_,rfl⟩,?_⟩;conv=>whnf)
 refine aU aH (I:=fun q l m=>∃ (k a:Nat),finL s t c r D me k=(a,0)/\l= [(0,.vsl 1 n cap (aB f)),(2,.vsl 26 r c1 (dlG D d1 d2)),(3,.int .i64 me),(8,.ptr 0 0 0),(10,.sl 1 0 (t+1) cc),(12,.ptr 2 0 0),(33,.vsl 26 r c1 (dlG D d1 d2)),(34,.int .i64 r),(35,.int .i64 k)] /\ m= [some ⟨1,4,lstG 1 (numL 0)⟩,some ⟨4,t+1,cV c⟩,some ⟨1,4,lstG 1 (numL a)⟩] /\ q+k=r) r
  (l0:= [(0,.vsl 1 n cap (aB f)),(2,.vsl 26 r c1 (dlG D d1 d2)),(3,.int .i64 me),(8,.ptr 0 0 0),(10,.sl 1 0 (t+1) cc),(12,.ptr 2 0 0),(33,.vsl 26 r c1 (dlG D d1 d2)),(34,.int .i64 r),(35,.int .i64 (0:Nat))]) (m0:= [some ⟨1,4,lstG 1 (numL 0)⟩,some ⟨4,t+1,cV c⟩,some ⟨1,4,lstG 1 (numL 0)⟩]) [some 0,some 1,some 2] ⟨0,0,rfl,rfl,rfl,rfl⟩ ?_ ?_
 · exact .mk0 ⟨.eq _ _ rfl aW,.eq _ _ rfl bB,Flat.i rfl,.ptr _ _ _ _ rfl,.sl _ _ _ _ _ rfl,.ptr _ _ _ _ rfl,.eq _ _ rfl bB,Flat.i rfl,Flat.i rfl,trivial⟩ ⟨.old 0 0 _ _ rfl rfl ⟨rfl,Nat.le_refl _,fun i j hi hj=>rvnum0 hi hj rfl⟩,.old 1 1 _ _ rfl rfl ⟨rfl,Nat.le_refl _,fun i j hi hj=>RV.of rfl aV⟩,.old 2 2 _ _ rfl rfl ⟨rfl,Nat.le_refl _,fun i j hi hj=>rvnum0 hi hj rfl⟩,trivial⟩ rfl rfl
 · rintro q l m ⟨k,a,ha,rfl,rfl,hq⟩
   conv=>whnf
   repeat (refine⟨⟨_,rfl⟩,?_⟩;conv=>whnf)
   refine aE (fun hk=> ?_) (fun hk=> ?_)
   · have hk:k<r:=by simp at hk;omega
     have e5:IntKind.i64.wrap ((k:Int)+1)=((k+1:Nat):Int):=by rw [w64 (by omega) (by omega)];omega
     have haN:a<nN:=by have:=finL_lt (s:=s) (t:=t) (c:=c) (r:=r) (D:=D) (me:=me) k;rw [ha]at this;exact this
     conv=>whnf
     repeat (refine⟨⟨_,rfl⟩,?_⟩;conv=>whnf)
     refine aA (by simp;omega) ?_
     conv=>whnf
     repeat (refine⟨⟨_,rfl⟩,?_⟩;conv=>whnf)
     refine S_place (i:=me) (by omega) ?_
     conv=>whnf
     repeat (refine⟨⟨_,rfl⟩,?_⟩;conv=>whnf)
     refine S_Eval (n:=t+1) (x:=me) (c:=c) (aO.sl rfl (by omega) (fun i j _ _=>⟨by rw [Nat.zero_add],aV⟩)) (Nat.lt_of_le_of_lt (m:=1000) (by omega) (by decide)) (fun i _=>Nat.lt_trans (hcN i) (by decide)) (by omega) (fun z hz hz1=> ?_)
     conv=>whnf
     repeat (refine⟨⟨_,rfl⟩,?_⟩;conv=>whnf)
     refine aE (fun hbd=> ?_) (fun hbd=> ?_)
     · have hbd:(D k).bd=true:=by simpa using hbd
       conv=>whnf
       repeat (refine⟨⟨_,rfl⟩,?_⟩;conv=>whnf)
       refine⟨q - 1,[(0,.vsl 1 n cap (aB f)),(2,.vsl 26 r c1 (dlG D d1 d2)),(3,.int .i64 me),(8,.ptr 0 0 0),(10,.sl 1 0 (t+1) cc),(12,.ptr 2 0 0),(33,.vsl 26 r c1 (dlG D d1 d2)),(34,.int .i64 r),(35,.int .i64 ((k+1:Nat):Int))],[some ⟨1,4,lstG 1 (numL 0)⟩,some ⟨4,t+1,cV c⟩,some ⟨1,4,lstG 1 (numL a)⟩],[some 0,some 1,some 2],by omega,⟨k+1,a,(finL_bad hbd).trans ha,rfl,rfl,by omega⟩,?_⟩
       exact .mk0 ⟨.eq _ _ rfl aW,.eq _ _ rfl bB,Flat.i rfl,.ptr _ _ _ _ rfl,.sl _ _ _ _ _ rfl,.ptr _ _ _ _ rfl,.eq _ _ rfl bB,Flat.i rfl,Flat.i e5,trivial⟩ ⟨.old 0 0 _ _ rfl rfl ⟨rfl,Nat.le_refl _,fun i j hi hj=>jG hi hj rfl⟩,.old 1 1 _ _ rfl rfl ⟨rfl,Nat.le_refl _,fun i j hi hj=>RV.of rfl aV⟩,.old 2 2 _ _ rfl rfl ⟨rfl,Nat.le_refl _,fun i j hi hj=>jG hi hj rfl⟩,trivial⟩ rfl rfl
     · have hbd:(D k).bd=false:=by simpa using hbd
       conv=>whnf
       repeat (refine⟨⟨_,rfl⟩,?_⟩;conv=>whnf)
       rw [e5]
       refine aE (fun hme=> ?_) (fun hme=> ?_)
       · have hme:k+1 ≠ me:=by simp at hme;omega
         conv=>whnf
         repeat (refine⟨⟨_,rfl⟩,?_⟩;conv=>whnf)
         rw [e5]
         refine aCb (n:=n) (f:=f) (r:=r) (D:=D) (i:=(k+1:Nat)) (j:=me) aM.vsl aT.vsl hn hf (by omega) hD (fun y b e hy hb he hyw=> ?_)
         rw [<- hs]at hy
         conv=>whnf
         repeat (refine⟨⟨_,rfl⟩,?_⟩;conv=>whnf)
         refine aE (fun he0=> ?_) (fun he0=> ?_)
         · have he0:e ≠ 0:=by simpa using he0
           conv=>whnf
           repeat (refine⟨⟨_,rfl⟩,?_⟩;conv=>whnf)
           rw [finL_end (finL_err (y:=y) hbd ha (by unfold finY;rw [if_neg hme,<- hy,<- he]) he0) he0 hk]
           refine⟨show _=AV.tup [numA 0,.int .i64 e]from rfl,?_⟩
           show Flat true (.tup [numA 0,.int .i64 e])
           exact lE
         · have he0:e=0:=by simpa using he0
           conv=>whnf
           repeat (refine⟨⟨_,rfl⟩,?_⟩;conv=>whnf)
           refine aCg (a:=a) (b:=y) (Nat.lt_trans haN (by decide)) hyw (fun a2 ha2=> ?_)
           conv=>whnf
           repeat (refine⟨⟨_,rfl⟩,?_⟩;conv=>whnf)
           refine⟨q - 1,[(0,.vsl 1 n cap (aB f)),(2,.vsl 26 r c1 (dlG D d1 d2)),(3,.int .i64 me),(8,.ptr 0 0 0),(10,.sl 1 0 (t+1) cc),(12,.ptr 2 0 0),(33,.vsl 26 r c1 (dlG D d1 d2)),(34,.int .i64 r),(35,.int .i64 ((k+1:Nat):Int))],[some ⟨1,4,lstG 1 (numL 0)⟩,some ⟨4,t+1,cV c⟩,some ⟨1,4,lstG 1 (numL a2)⟩],[some 0,some 1,some 2],by omega,⟨k+1,a2,(finL_ok (y:=y) hbd ha (by unfold finY;rw [if_neg hme,<- hy,<- he,he0])).trans (by rw [ha2]),rfl,rfl,by omega⟩,?_⟩
           exact .mk0 ⟨.eq _ _ rfl aW,.eq _ _ rfl bB,Flat.i rfl,.ptr _ _ _ _ rfl,.sl _ _ _ _ _ rfl,.ptr _ _ _ _ rfl,.eq _ _ rfl bB,Flat.i rfl,Flat.i e5,trivial⟩ ⟨.old 0 0 _ _ rfl rfl ⟨rfl,Nat.le_refl _,fun i j hi hj=>jG hi hj rfl⟩,.old 1 1 _ _ rfl rfl ⟨rfl,Nat.le_refl _,fun i j hi hj=>RV.of rfl aV⟩,.old 2 2 _ _ rfl rfl ⟨rfl,Nat.le_refl _,fun i j hi hj=>jG hi hj rfl⟩,trivial⟩ rfl rfl
       · conv=>whnf
         repeat (refine⟨⟨_,rfl⟩,?_⟩;conv=>whnf)
         have hme:k+1=me:=by simp at hme;omega
         refine aCg (a:=a) (b:=z) (Nat.lt_trans haN (by decide)) hz1 (fun a2 ha2=> ?_)
         conv=>whnf
         repeat (refine⟨⟨_,rfl⟩,?_⟩;conv=>whnf)
         refine⟨q - 1,[(0,.vsl 1 n cap (aB f)),(2,.vsl 26 r c1 (dlG D d1 d2)),(3,.int .i64 me),(8,.ptr 0 0 0),(10,.sl 1 0 (t+1) cc),(12,.ptr 2 0 0),(33,.vsl 26 r c1 (dlG D d1 d2)),(34,.int .i64 r),(35,.int .i64 ((k+1:Nat):Int))],[some ⟨1,4,lstG 1 (numL 0)⟩,some ⟨4,t+1,cV c⟩,some ⟨1,4,lstG 1 (numL a2)⟩],[some 0,some 1,some 2],by omega,⟨k+1,a2,(finL_ok (y:=z) hbd ha (by unfold finY;rw [if_pos hme,<- hz])).trans (by rw [ha2]),rfl,rfl,by omega⟩,?_⟩
         exact .mk0 ⟨.eq _ _ rfl aW,.eq _ _ rfl bB,Flat.i rfl,.ptr _ _ _ _ rfl,.sl _ _ _ _ _ rfl,.ptr _ _ _ _ rfl,.eq _ _ rfl bB,Flat.i rfl,Flat.i e5,trivial⟩ ⟨.old 0 0 _ _ rfl rfl ⟨rfl,Nat.le_refl _,fun i j hi hj=>jG hi hj rfl⟩,.old 1 1 _ _ rfl rfl ⟨rfl,Nat.le_refl _,fun i j hi hj=>RV.of rfl aV⟩,.old 2 2 _ _ rfl rfl ⟨rfl,Nat.le_refl _,fun i j hi hj=>jG hi hj rfl⟩,trivial⟩ rfl rfl
   · have hk:k=r:=by simp at hk;omega
     subst hk
     conv=>whnf
     repeat (refine⟨⟨_,rfl⟩,?_⟩;conv=>whnf)
     rw [ha]
     refine⟨rfl,?_⟩
     show Flat true (.tup [numA a,.int .i64 0])
     exact lE
set_option maxHeartbeats 800000 in
theorem S_RFinal0 (n cap t:Nat) (f:Nat->Int) (r c1:Nat) (d1 d2:Nat->Nat) (D:Nat->Dl) (me:Nat) (hn:n<=16384) (ht:t<64) (hf:∀ i,i<n->0<=f i/\f i<=255) (hr:r<=1000) (hm:1<=me/\me<=r) (hD:∀ k,k<r->OkD (D k)/\(D k).nc<=64):
 ACall Pg dM [.vsl 1 n cap (aB f),.int .i64 t,.vsl 26 r c1 (dlG D d1 d2),.int .i64 me] [] (fun v _=>v= .tup [numA (finL (secN n f) t (coN n f) r D me r).1,.int .i64 (finL (secN n f) t (coN n f) r D me r).2] /\ Flat true v):=by
 obtain⟨s,hs⟩ :∃ s,s=secN n f:=⟨_,rfl⟩
 obtain⟨c,hc⟩ :∃ c,c=coN n f:=⟨_,rfl⟩
 rw [<- hs,<- hc]
 refine nH ⟨rfl,?_⟩
 conv=>whnf
 repeat (refine⟨⟨_,rfl⟩,?_⟩;conv=>whnf)
 refine aS (by simp;omega) ?_
 conv=>whnf
 repeat (refine⟨⟨_,rfl⟩,?_⟩;conv=>whnf)
 refine aS (by simp;omega) ?_
 conv=>whnf
 repeat (refine⟨⟨_,rfl⟩,?_⟩;conv=>whnf)
 refine fL (by simp;omega) ?_
 conv=>whnf
 repeat (refine⟨⟨_,rfl⟩,?_⟩;conv=>whnf)
 refine aU aH (I:=fun q l m=>∃ (k a:Nat),finL s t c r D me k=(a,0)/\l= [(0,.vsl 1 n cap (aB f)),(1,.int .i64 t),(2,.vsl 26 r c1 (dlG D d1 d2)),(3,.int .i64 me),(8,.ptr 0 0 0),(10,.ptr 1 0 0),(11,.int .i64 (k+1:Nat))] /\ m= [some ⟨1,4,lstG 1 (numL 0)⟩,some ⟨1,4,lstG 1 (numL a)⟩] /\ q+k=r) r
  (l0:= [(0,.vsl 1 n cap (aB f)),(1,.int .i64 t),(2,.vsl 26 r c1 (dlG D d1 d2)),(3,.int .i64 me),(8,.ptr 0 0 0),(10,.ptr 1 0 0),(11,.int .i64 (0+1:Nat))]) (m0:= [some ⟨1,4,lstG 1 (numL 0)⟩,some ⟨1,4,lstG 1 (numL 0)⟩]) [some 0,some 1] ⟨0,0,rfl,rfl,rfl,rfl⟩ ?_ ?_
 · exact .mk0 ⟨.eq _ _ rfl aW,Flat.i rfl,.eq _ _ rfl bB,Flat.i rfl,.ptr _ _ _ _ rfl,.ptr _ _ _ _ rfl,Flat.i rfl,trivial⟩ ⟨.old 0 0 _ _ rfl rfl ⟨rfl,Nat.le_refl _,fun i j hi hj=>rvnum0 hi hj rfl⟩,.old 1 1 _ _ rfl rfl ⟨rfl,Nat.le_refl _,fun i j hi hj=>rvnum0 hi hj rfl⟩,trivial⟩ rfl rfl
 · rintro q l m ⟨k,a,ha,rfl,rfl,hq⟩
   conv=>whnf
   repeat (refine⟨⟨_,rfl⟩,?_⟩;conv=>whnf)
   refine aE (fun hk=> ?_) (fun hk=> ?_)
   · have hk:k<r:=by simp at hk;omega
     have e5:IntKind.i64.wrap (((k+1:Nat):Int)+1)=((k+1+1:Nat):Int):=by rw [w64 (by omega) (by omega)];omega
     have e1:IntKind.i64.wrap (((k+1:Nat):Int) - 1)=(k:Int):=by rw [w64 (by omega) (by omega)];omega
     have haN:a<nN:=by have:=finL_lt (s:=s) (t:=t) (c:=c) (r:=r) (D:=D) (me:=me) k;rw [ha]at this;exact this
     conv=>whnf
     repeat (refine⟨⟨_,rfl⟩,?_⟩;conv=>whnf)
     refine S_RPoly (n:=n) (t:=t) (f:=f) aM.vsl hn ht hf (fun c' cc hc' hcN _=> ?_)
     obtain rfl:c=c':=hc.trans hc'.symm
     conv=>whnf
     repeat (refine⟨⟨_,rfl⟩,?_⟩;conv=>whnf)
     refine S_RInt (i:=me) (by omega) ?_
     conv=>whnf
     repeat (refine⟨⟨_,rfl⟩,?_⟩;conv=>whnf)
     refine S_REval (n:=t+1) (x:=me) (c:=c) (aO.sl rfl (by omega) (fun i j _ _=>⟨by rw [Nat.zero_add],aV⟩)) (Nat.lt_of_le_of_lt (m:=1000) (by omega) (by decide)) (fun i _=>Nat.lt_trans (hcN i) (by decide)) (by omega) (fun z hz hz1=> ?_)
     conv=>whnf
     repeat (refine⟨⟨_,rfl⟩,?_⟩;conv=>whnf)
     rw [e1]
     refine aA (by simp;omega) ?_
     conv=>whnf
     repeat (refine⟨⟨_,rfl⟩,?_⟩;conv=>whnf)
     refine aE (fun hbd=> ?_) (fun hbd=> ?_)
     · have hbd:(D k).bd=true:=by simpa using hbd
       conv=>whnf
       repeat (refine⟨⟨_,rfl⟩,?_⟩;conv=>whnf)
       refine⟨q - 1,[(0,.vsl 1 n cap (aB f)),(1,.int .i64 t),(2,.vsl 26 r c1 (dlG D d1 d2)),(3,.int .i64 me),(8,.ptr 0 0 0),(10,.ptr 1 0 0),(11,.int .i64 (k+1+1:Nat))],[some ⟨1,4,lstG 1 (numL 0)⟩,some ⟨1,4,lstG 1 (numL a)⟩],[some 0,some 1],by omega,⟨k+1,a,(finL_bad hbd).trans ha,rfl,rfl,by omega⟩,?_⟩
       exact .mk0 ⟨.eq _ _ rfl aW,Flat.i rfl,.eq _ _ rfl bB,Flat.i rfl,.ptr _ _ _ _ rfl,.ptr _ _ _ _ rfl,Flat.i e5,trivial⟩ ⟨.old 0 0 _ _ rfl rfl ⟨rfl,Nat.le_refl _,fun i j hi hj=>jG hi hj rfl⟩,.old 1 1 _ _ rfl rfl ⟨rfl,Nat.le_refl _,fun i j hi hj=>jG hi hj rfl⟩,trivial⟩ rfl rfl
     · have hbd:(D k).bd=false:=by simpa using hbd
       conv=>whnf
       repeat (refine⟨⟨_,rfl⟩,?_⟩;conv=>whnf)
       refine aE (fun hme=> ?_) (fun hme=> ?_)
       · have hme:k+1 ≠ me:=by simp at hme;omega
         conv=>whnf
         repeat (refine⟨⟨_,rfl⟩,?_⟩;conv=>whnf)
         refine vD (n:=n) (f:=f) (r:=r) (D:=D) (i:=(k+1:Nat)) (j:=me) aM.vsl aT.vsl hn hf (by omega) hD (fun y b e hy hb he hyw=> ?_)
         rw [<- hs]at hy
         conv=>whnf
         repeat (refine⟨⟨_,rfl⟩,?_⟩;conv=>whnf)
         refine aE (fun he0=> ?_) (fun he0=> ?_)
         · have he0:e ≠ 0:=by simpa using he0
           conv=>whnf
           repeat (refine⟨⟨_,rfl⟩,?_⟩;conv=>whnf)
           rw [finL_end (finL_err (y:=y) hbd ha (by unfold finY;rw [if_neg hme,<- hy,<- he]) he0) he0 hk]
           refine⟨show _=AV.tup [numA 0,.int .i64 e]from rfl,?_⟩
           show Flat true (.tup [numA 0,.int .i64 e])
           exact lE
         · have he0:e=0:=by simpa using he0
           conv=>whnf
           repeat (refine⟨⟨_,rfl⟩,?_⟩;conv=>whnf)
           refine vF (a:=a) (b:=y) (Nat.lt_trans haN (by decide)) hyw (fun a2 ha2=> ?_)
           conv=>whnf
           repeat (refine⟨⟨_,rfl⟩,?_⟩;conv=>whnf)
           refine⟨q - 1,[(0,.vsl 1 n cap (aB f)),(1,.int .i64 t),(2,.vsl 26 r c1 (dlG D d1 d2)),(3,.int .i64 me),(8,.ptr 0 0 0),(10,.ptr 1 0 0),(11,.int .i64 (k+1+1:Nat))],[some ⟨1,4,lstG 1 (numL 0)⟩,some ⟨1,4,lstG 1 (numL a2)⟩],[some 0,some 1],by omega,⟨k+1,a2,(finL_ok (y:=y) hbd ha (by unfold finY;rw [if_neg hme,<- hy,<- he,he0])).trans (by rw [ha2]),rfl,rfl,by omega⟩,?_⟩
           exact .mk0 ⟨.eq _ _ rfl aW,Flat.i rfl,.eq _ _ rfl bB,Flat.i rfl,.ptr _ _ _ _ rfl,.ptr _ _ _ _ rfl,Flat.i e5,trivial⟩ ⟨.old 0 0 _ _ rfl rfl ⟨rfl,Nat.le_refl _,fun i j hi hj=>jG hi hj rfl⟩,.old 1 1 _ _ rfl rfl ⟨rfl,Nat.le_refl _,fun i j hi hj=>jG hi hj rfl⟩,trivial⟩ rfl rfl
       · conv=>whnf
         repeat (refine⟨⟨_,rfl⟩,?_⟩;conv=>whnf)
         have hme:k+1=me:=by simp at hme;omega
         refine vF (a:=a) (b:=z) (Nat.lt_trans haN (by decide)) hz1 (fun a2 ha2=> ?_)
         conv=>whnf
         repeat (refine⟨⟨_,rfl⟩,?_⟩;conv=>whnf)
         refine⟨q - 1,[(0,.vsl 1 n cap (aB f)),(1,.int .i64 t),(2,.vsl 26 r c1 (dlG D d1 d2)),(3,.int .i64 me),(8,.ptr 0 0 0),(10,.ptr 1 0 0),(11,.int .i64 (k+1+1:Nat))],[some ⟨1,4,lstG 1 (numL 0)⟩,some ⟨1,4,lstG 1 (numL a2)⟩],[some 0,some 1],by omega,⟨k+1,a2,(finL_ok (y:=z) hbd ha (by unfold finY;rw [if_pos hme,<- hz])).trans (by rw [ha2]),rfl,rfl,by omega⟩,?_⟩
         exact .mk0 ⟨.eq _ _ rfl aW,Flat.i rfl,.eq _ _ rfl bB,Flat.i rfl,.ptr _ _ _ _ rfl,.ptr _ _ _ _ rfl,Flat.i e5,trivial⟩ ⟨.old 0 0 _ _ rfl rfl ⟨rfl,Nat.le_refl _,fun i j hi hj=>jG hi hj rfl⟩,.old 1 1 _ _ rfl rfl ⟨rfl,Nat.le_refl _,fun i j hi hj=>jG hi hj rfl⟩,trivial⟩ rfl rfl
   · have hk:k=r:=by simp at hk;omega
     subst hk
     conv=>whnf
     repeat (refine⟨⟨_,rfl⟩,?_⟩;conv=>whnf)
     rw [ha]
     refine⟨rfl,?_⟩
     show Flat true (.tup [numA a,.int .i64 0])
     exact lE
end Go.Proofs.YtfolpdmbpbbimaaGreat
end

