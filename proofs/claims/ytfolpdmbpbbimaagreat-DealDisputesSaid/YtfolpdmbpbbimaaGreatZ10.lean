/- Texts of a proof, one behind the other; the last of these: A seal that is turned, in the caller's memory; no condition. -/
import Derived.Test.YtfolpdmbpbbimaaGreatZ9
set_option linter.unusedVariables false
set_option linter.unusedSimpArgs false
set_option maxRecDepth 100000
section
namespace Go.Proofs.YtfolpdmbpbbimaaGreat
open Go Go.Wit
theorem S_RInt {m:Mem} {K:AV->Mem->Prop} {i:Nat} (hi:i<1000000) (h:K (numA i) m):ACall Pg iF [.int .i64 (i:Int)] m K:=by
 have h0:ACall Pg iF [.int .i64 (i:Int)] [] (fun v _=>v=numA i/\Flat true v):=by
  refine xS ⟨rfl,?_⟩
  conv=>whnf
  repeat (refine⟨⟨[],rfl⟩,?_⟩;conv=>whnf)
  have e:IntKind.u64.wrap (i:Int)=((i:Nat):Int):=by rw [wu64];omega
  have g:AV.agg [.int .u64 (IntKind.u64.wrap (i:Int)),.int .u64 0,.int .u64 0,.int .u64 0] = numA i:=by
   rw [e]
   have:=aR (a:=i) (b:=0) (c:=0) (d:=0) (by omega) (by decide) (by decide) (by decide)
   rw [show comb i 0 0 0=i by unfold comb;omega]at this
   rw [this];rfl
  refine⟨g,?_⟩
  exact Eq.mpr (congrArg (Flat true) g) aL
 refine aD h0 (.cons _ _ _ _ aK .nil) ?_
 rintro v rfl
 exact h
theorem S_rCheckD {m:Mem} {K:AV->Mem->Prop} {v:AV} {i:Bool} {x y:Nat} (hv:v=rawA i x y) (hx:x<w256) (hy:y<w256) (h1:∀ P,On P->rawA i x y=ptA P->K (.bool true) m) (h2:Bad i x y->K (.bool false) m):ACall Pg eD [v] m K:=by
 subst hv;exact S_rCheck hx hy h1 h2
end Go.Proofs.YtfolpdmbpbbimaaGreat
end

section
namespace Go.Proofs.YtfolpdmbpbbimaaGreat
open Go Go.Wit
theorem S_Rpmul {m:Mem} {K:AV->Mem->Prop} {a b:Nat} (ha:a<w256) (hb:b<w256) (h:∀ r,r=a*b % nN->K (numA r) m):ACall Pg iD [numA a,numA b] m K:=by
 have h0:ACall Pg iD [numA a,numA b] [] (fun v _=>v=numA (a*b % nN)/\Flat true v):=by
  refine xQ ⟨rfl,?_⟩
  conv=>whnf
  repeat (refine⟨⟨[],rfl⟩,?_⟩;conv=>whnf)
  refine S_RFMul_1 ha hb (fun r hr=> ?_)
  conv=>whnf
  repeat (refine⟨⟨[],rfl⟩,?_⟩;conv=>whnf)
  rw [<- hr]
  exact⟨rfl,aL⟩
 refine aD h0 (.cons _ _ _ _ aF (.cons _ _ _ _ aF .nil)) ?_
 rintro v rfl
 exact h _ rfl
theorem S_Rpadd {m:Mem} {K:AV->Mem->Prop} {a b:Nat} (ha:a<w256) (hb:b<w256) (h:∀ r,r=(a+b) % nN->K (numA r) m):ACall Pg iE [numA a,numA b] m K:=by
 have h0:ACall Pg iE [numA a,numA b] [] (fun v _=>v=numA ((a+b) % nN)/\Flat true v):=by
  refine xR ⟨rfl,?_⟩
  conv=>whnf
  repeat (refine⟨⟨[],rfl⟩,?_⟩;conv=>whnf)
  refine S_RFAdd_1 ha hb (fun r hr=> ?_)
  conv=>whnf
  repeat (refine⟨⟨[],rfl⟩,?_⟩;conv=>whnf)
  rw [<- hr]
  exact⟨rfl,aL⟩
 refine aD h0 (.cons _ _ _ _ aF (.cons _ _ _ _ aF .nil)) ?_
 rintro v rfl
 exact h _ rfl
theorem S_REval0 (n cap:Nat) (c:Nat->Nat) (x:Nat) (hx:x<w256) (hc:∀ i,i<n->c i<w256) (hn:n<=140737488355328):ACall Pg gM [.vsl 4 n cap (jF c),numA x] [] (fun v _=>v=numA (sumN c x n % nN)/\Flat true v):=by
 refine vU ⟨rfl,?_⟩
 conv=>whnf
 repeat (refine⟨⟨[],rfl⟩,?_⟩;conv=>whnf)
 have e10:IntKind.i64.wrap ((n:Int) - 1)=(n:Int) - 1:=w64 (by omega) (by omega)
 refine aT aJ (I:=fun q l m=>∃ (v:Int) (t o:Nat),l= [(0,.vsl 4 n cap (jF c)),(3,.ptr 0 0 0),(4,.ptr 1 0 0),(5,.ptr 2 0 0),(6,.int .i64 v)] /\
  m= [some ⟨1,4,lstG 1 (numL x)⟩,some ⟨1,4,lstG 1 (numL 0)⟩,some ⟨1,4,lstG 1 (numL o)⟩] /\ q+t=n/\v=(q:Int) - 1/\o=horN c x n t % nN) n
  (l0:= [(0,.vsl 4 n cap (jF c)),(3,.ptr 0 0 0),(4,.ptr 1 0 0),(5,.ptr 2 0 0),(6,.int .i64 ((n:Int) - 1))])
  (m0:= [some ⟨1,4,lstG 1 (numL x)⟩,some ⟨1,4,lstG 1 (numL 0)⟩,some ⟨1,4,lstG 1 (numL 0)⟩]) [some 0,some 1,some 2] ⟨_,0,0,rfl,rfl,rfl,rfl,rfl⟩ ?_ ?_
 · refine .mk0 ⟨.eq _ _ rfl (.vsl _ _ _ _ rfl (fun _ _ _ _=>cR)),.ptr _ _ _ _ rfl,.ptr _ _ _ _ rfl,.ptr _ _ _ _ rfl,Flat.i e10,trivial⟩ ⟨.old 0 0 _ _ rfl rfl ⟨rfl,Nat.le_refl _,fun i j hi hj=> .eq _ _ rfl aI⟩,
    .old 1 1 _ _ rfl rfl ⟨rfl,Nat.le_refl _,fun i j hi hj=> ?_⟩,.old 2 2 _ _ rfl rfl ⟨rfl,Nat.le_refl _,fun i j hi hj=> ?_⟩,trivial⟩ rfl rfl
   all_goals
    have hj:j<1:=hj
    have hi:i<4:=hi
    obtain rfl:j=0:=by omega
    have:i=0\/i=1\/i=2\/i=3:=by omega
    rcases this with rfl | rfl | rfl | rfl <;> exact .eq _ _ rfl (.int _ _)
 · rintro q l m ⟨v,t,o,rfl,rfl,hq,hv,ho⟩
   have ho1:o<w256:=by rw [ho];exact Nat.lt_trans (Nat.mod_lt _ (by decide)) (by decide)
   conv=>whnf
   repeat (refine⟨⟨[],rfl⟩,?_⟩;conv=>whnf)
   refine aE (fun hb=> ?_) (fun hb=> ?_)
   · have hb:v >= 0:=of_decide_eq_true hb
     obtain⟨k,rfl⟩ :∃ k,q=k+1:=⟨q - 1,by omega⟩
     obtain rfl:v=(k:Int):=by omega
     conv=>whnf
     repeat (refine⟨⟨[],rfl⟩,?_⟩;conv=>whnf)
     refine aA (by simp;omega) ?_
     conv=>whnf
     repeat (refine⟨⟨[],rfl⟩,?_⟩;conv=>whnf)
     refine S_Rpmul ho1 hx (fun r hr=> ?_)
     have hr1:r<w256:=by rw [hr];exact Nat.lt_trans (Nat.mod_lt _ (by decide)) (by decide)
     conv=>whnf
     repeat (refine⟨⟨[],rfl⟩,?_⟩;conv=>whnf)
     refine S_Rpadd (b:=c k) hr1 (hc k (by omega)) (fun s hs=> ?_)
     conv=>whnf
     repeat (refine⟨⟨[],rfl⟩,?_⟩;conv=>whnf)
     have hs2:s=horN c x n (t+1) % nN:=by rw [hs,hr,ho,mod_hor,horN_succ,show n - 1 - t=k by omega]
     have e5:IntKind.i64.wrap ((k:Int) - 1)=(k:Int) - 1:=w64 (by omega) (by omega)
     refine⟨k,_,_,[some 0,some 1,some 2],Nat.lt_succ_self _,⟨(k:Int) - 1,t+1,s,rfl,rfl,by omega,rfl,hs2⟩,?_⟩
     exact .mk0 ⟨.eq _ _ rfl (.vsl _ _ _ _ rfl (fun _ _ _ _=>cR)),.ptr _ _ _ _ rfl,.ptr _ _ _ _ rfl,.ptr _ _ _ _ rfl,Flat.i e5,trivial⟩ ⟨.old 0 0 _ _ rfl rfl ⟨rfl,Nat.le_refl _,fun i j hi hj=> .eq _ _ rfl mW⟩,
      .old 1 1 _ _ rfl rfl ⟨rfl,Nat.le_refl _,fun i j hi hj=> .eq _ _ rfl mW⟩,.old 2 2 _ _ rfl rfl ⟨rfl,Nat.le_refl _,fun i j hi hj=> .eq _ _ rfl mW⟩,trivial⟩ rfl rfl
   · have hb:¬ v >= 0:=of_decide_eq_false hb
     obtain rfl:q=0:=by omega
     obtain rfl:t=n:=by omega
     rw [horN_all]at ho
     conv=>whnf
     repeat (refine⟨⟨[],rfl⟩,?_⟩;conv=>whnf)
     rw [<- ho]
     exact⟨rfl,aL⟩
theorem S_REval {m:Mem} {a:AV} {K:AV->Mem->Prop} {n x:Nat} {c:Nat->Nat} (ha:bW m a 4 n (jF c)) (hx:x<w256) (hc:∀ i,i<n->c i<w256) (hn:n<=140737488355328) (h:∀ r,r=sumN c x n % nN->r<w256->K (numA r) m):ACall Pg gM [a,numA x] m K:=by
 obtain⟨cap,hl⟩:=ha
 refine aD (S_REval0 n cap c x hx hc hn) (.cons _ _ _ _ hl (.cons _ _ _ _ aF .nil)) ?_
 rintro v rfl
 exact h _ rfl (Nat.lt_trans (Nat.mod_lt _ (by decide)) (by decide))
theorem seal_row0 {nv:Bool} {σ:Nat->Option Nat} {A:AV} {S:Nat->Nat->Int} {i j:Nat} {s:Nat->Int} {g h:Nat->Nat->AV} (hi:i<0+1) (hj:j<32) (hs:∀ j,j<32->s j=S 0 j) (hA:A=catG 0 h g i j) (hg:∀ j,j<32->g 0 j= .int .u8 (s j)):RV nv σ A (cI S i j):=by
 obtain rfl:i=0:=by omega
 refine RV.of (hA.trans ?_) dF
 rw [bK (Nat.le_refl _),Nat.sub_self,hg j hj,hs j hj];rfl
set_option maxHeartbeats 4000000 in
theorem S_RPost0 (n cap t:Nat) (f:Nat->Int) (r c1:Nat) (d1 d2:Nat->Nat) (D:Nat->Dl) (me:Nat) (hn:n<=16384) (ht:t<64) (hf:∀ i,i<n->0<=f i/\f i<=255) (hr:r<=8) (hm:1<=me/\me<=r) (hD:∀ k,k<r->On (ptOf (D k))/\rawA (D k).i (D k).x (D k).y=ptA (ptOf (D k))/\(D k).x<w256/\(D k).y<w256):
 ACall Pg gJ [.vsl 1 n cap (aB f),.int .i64 t,.vsl 26 r c1 (dlG D d1 d2),.int .i64 me] []
  (fun v m'=>∃ sl co,v= .tup [actA 2 false 0 0 nB sl co 0 0 0,.int .i64 0] /\ RetG 32 (r - 1) (fun q j=> .int .u8 (sealN n f t D me q j)) sl m'/\RetG 9 (t+1) (ptsG fun i=>nmul (coN n f i) gG) co m'):=by
 obtain⟨S,hS⟩ :∃ S:Nat->Nat->Int,S=sealN n f t D me:=⟨_,rfl⟩
 have hSq:∀ q,S q=tnF (nmul (secN n f) (ptOf (D (othN me q - 1)))) me (othN me q) (iZ (sumN (coN n f) (othN me q) (t+1) % nN)):=fun q=>by rw [hS];rfl
 rw [<- hS]
 clear hS
 obtain⟨xs,hxs⟩ :∃ s,s=secN n f:=⟨_,rfl⟩
 obtain⟨c,hc⟩ :∃ c,c=coN n f:=⟨_,rfl⟩
 rw [<- hc]
 rw [<- hc,<- hxs]at hSq
 refine vR ⟨rfl,?_⟩
 conv=>whnf
 repeat (refine⟨⟨_,rfl⟩,?_⟩;conv=>whnf)
 refine cH (by simp;omega) ?_
 conv=>whnf
 repeat (refine⟨⟨_,rfl⟩,?_⟩;conv=>whnf)
 refine cH (by simp;omega) ?_
 conv=>whnf
 repeat (refine⟨⟨_,rfl⟩,?_⟩;conv=>whnf)
 refine cH (by simp;omega) ?_
 conv=>whnf
 repeat (refine⟨⟨_,rfl⟩,?_⟩;conv=>whnf)
 refine jN (by simp;omega) ?_
 conv=>whnf
 repeat (refine⟨⟨_,rfl⟩,?_⟩;conv=>whnf)
 refine aT aJ (I:=fun q l m=>∃ (k:Nat),l= [(0,.vsl 1 n cap (aB f)),(1,.int .i64 t),(2,.vsl 26 r c1 (dlG D d1 d2)),(3,.int .i64 me),(8,.ptr 0 0 0),(10,.int .i64 k)] /\ m= [some ⟨22,1,lstG 22 actZ⟩] /\ q+k=r) r
  (l0:= [(0,.vsl 1 n cap (aB f)),(1,.int .i64 t),(2,.vsl 26 r c1 (dlG D d1 d2)),(3,.int .i64 me),(8,.ptr 0 0 0),(10,.int .i64 (0:Nat))]) (m0:= [some ⟨22,1,lstG 22 actZ⟩]) [some 0] ⟨0,rfl,rfl,rfl⟩ ?_ ?_
 · exact .mk0 ⟨.eq _ _ rfl bF,Flat.i rfl,.eq _ _ rfl lQ,Flat.i rfl,.ptr _ _ _ _ rfl,Flat.i rfl,trivial⟩ ⟨.old 0 0 _ _ rfl rfl ⟨rfl,Nat.le_refl _,fun i j hi hj=>act_blk0 hi rfl⟩,trivial⟩ rfl rfl
 · rintro q l m ⟨k,rfl,rfl,hq⟩
   conv=>whnf
   repeat (refine⟨⟨_,rfl⟩,?_⟩;conv=>whnf)
   refine aE (fun hb=> ?_) (fun hb=> ?_)
   · have hb:k<r:=by simp at hb;omega
     have e5:IntKind.i64.wrap ((k:Int)+1)=((k+1:Nat):Int):=by rw [w64 (by omega) (by omega)];omega
     conv=>whnf
     repeat (refine⟨⟨_,rfl⟩,?_⟩;conv=>whnf)
     refine aA (by simp;omega) ?_
     conv=>whnf
     repeat (refine⟨⟨_,rfl⟩,?_⟩;conv=>whnf)
     refine S_rCheckD (i:=(D k).i) (x:=(D k).x) (y:=(D k).y) rfl (hD k hb).2.2.1 (hD k hb).2.2.2 (fun P oP eP=> ?_) (fun hbad=>absurd (hD k hb).2.1 (hbad _ (hD k hb).1))
     conv=>whnf
     repeat (refine⟨⟨_,rfl⟩,?_⟩;conv=>whnf)
     refine⟨q - 1,[(0,.vsl 1 n cap (aB f)),(1,.int .i64 t),(2,.vsl 26 r c1 (dlG D d1 d2)),(3,.int .i64 me),(8,.ptr 0 0 0),(10,.int .i64 ((k+1:Nat):Int))],[some ⟨22,1,lstG 22 actZ⟩],[some 0],by omega,⟨k+1,rfl,rfl,by omega⟩,?_⟩
     exact .mk0 ⟨.eq _ _ rfl bF,Flat.i rfl,.eq _ _ rfl lQ,Flat.i rfl,.ptr _ _ _ _ rfl,Flat.i e5,trivial⟩ ⟨.old 0 0 _ _ rfl rfl ⟨rfl,Nat.le_refl _,fun i j hi hj=>vN hi hj rfl⟩,trivial⟩ rfl rfl
   · have hb:k=r:=by simp at hb;omega
     subst hb
     conv=>whnf
     repeat (refine⟨⟨_,rfl⟩,?_⟩;conv=>whnf)
     refine S_RPoly (n:=n) (t:=t) (f:=f) aQ.vsl hn ht hf (fun c' cc hc' hcN _=> ?_)
     obtain rfl:c=c':=hc.trans hc'.symm
     conv=>whnf
     repeat (refine⟨⟨_,rfl⟩,?_⟩;conv=>whnf)
     refine S_RCommit (n:=t+1) (c:=c) (bW.sl rfl (by omega) (fun i j _ _=>⟨by rw [Nat.zero_add],cR⟩)) (fun i _=>Nat.lt_trans (hcN i) (by decide)) (by omega) (fun P cp hP=> ?_)
     conv=>whnf
     repeat (refine⟨⟨_,rfl⟩,?_⟩;conv=>whnf)
     have hsel0:∀ w,selN me w<=w:=fun w=>by unfold selN;split <;> omega
     refine aT aJ (I:=fun q l m=>∃ w:Nat,q+w=k/\l= [(0,.vsl 1 n cap (aB f)),(2,.vsl 26 k c1 (dlG D d1 d2)),(3,.int .i64 me),(8,.ptr 0 0 0),(11,.sl 1 0 (t+1) cc),(12,.ptr 3 0 0),(13,.int .i64 ((w+1:Nat):Int))] /\
      ((selN me w=0/\m= [some ⟨22,1,lstG 22 actZ⟩,some ⟨4,t+1,jF c⟩,some ⟨9,t+1,ptsG P⟩,some ⟨22,1,lstG 22 (actL 2 false 0 0 nB .nils (.sl 2 0 (t+1) cp) 0 0 0)⟩,none])\/
       (∃ s ca,selN me w=s+1/\m= [some ⟨22,1,lstG 22 actZ⟩,some ⟨4,t+1,jF c⟩,some ⟨9,t+1,ptsG P⟩,some ⟨22,1,lstG 22 (actL 2 false 0 0 nB (.sl 4 0 (s+1) ca) (.sl 2 0 (t+1) cp) 0 0 0)⟩,some ⟨32,s+1,cI S⟩]))) k
      (l0:= [(0,.vsl 1 n cap (aB f)),(2,.vsl 26 k c1 (dlG D d1 d2)),(3,.int .i64 me),(8,.ptr 0 0 0),(11,.sl 1 0 (t+1) cc),(12,.ptr 3 0 0),(13,.int .i64 ((0+1:Nat):Int))]) (m0:= [some ⟨22,1,lstG 22 actZ⟩,some ⟨4,t+1,jF c⟩,some ⟨9,t+1,ptsG P⟩,some ⟨22,1,lstG 22 (actL 2 false 0 0 nB .nils (.sl 2 0 (t+1) cp) 0 0 0)⟩,none]) [some 0,some 1,some 2,some 3,none] ⟨0,rfl,rfl,.inl ⟨selN_0,rfl⟩⟩ ?_ ?_
     · refine .mk0 ⟨.eq _ _ rfl bF,.eq _ _ rfl lQ,Flat.i rfl,.ptr _ _ _ _ rfl,.sl _ _ _ _ _ rfl,.ptr _ _ _ _ rfl,Flat.i rfl,trivial⟩ ⟨.old 0 0 _ _ rfl rfl ⟨rfl,Nat.le_refl _,fun i j hi hj=>vN hi hj rfl⟩,.old 1 1 _ _ rfl rfl ⟨rfl,Nat.le_refl _,fun i j hi hj=>RV.of rfl cR⟩,.old 2 2 _ _ rfl rfl ⟨rfl,Nat.le_refl _,fun i j hi hj=>RV.of rfl bZ⟩,.old 3 3 _ _ rfl rfl ⟨rfl,Nat.le_refl _,fun i j hi hj=> ?_⟩,.dead _,trivial⟩ rfl rfl
       have hi:i<1:=hi
       have hj:j<22:=hj
       obtain rfl:i=0:=by omega
       have:j=0\/j=1\/j=2\/j=3\/j=4\/j=5\/j=6\/j=7\/j=8\/j=9\/j=10\/j=11\/j=12\/j=13\/j=14\/j=15\/j=16\/j=17\/j=18\/j=19\/j=20\/j=21:=by omega
       rcases this with rfl | rfl | rfl | rfl | rfl | rfl | rfl | rfl | rfl | rfl | rfl | rfl | rfl | rfl | rfl | rfl | rfl | rfl | rfl | rfl | rfl | rfl
       all_goals first
        | exact .eq _ _ rfl (.int _ _)
        | exact .eq _ _ rfl (.bool _)
        | exact .eq _ _ rfl (.str _)
        | exact .eq _ _ rfl .nils
        | exact .nils _ _
        | exact .sl _ _ _ _ _ rfl
     · rintro q l m ⟨w,hq,rfl,hm⟩
       rcases hm with⟨hs0,rfl⟩ | ⟨s,ca,hs0,rfl⟩
       · conv=>whnf
         repeat (refine⟨⟨_,rfl⟩,?_⟩;conv=>whnf)
         refine aE (fun hb=> ?_) (fun hb=> ?_)
         · have hb:w<k:=by simp at hb;omega
           have e5:IntKind.i64.wrap (((w+1:Nat):Int)+1)=((w+1+1:Nat):Int):=by rw [w64 (by omega) (by omega)];omega
           have e1:IntKind.i64.wrap (((w+1:Nat):Int) - 1)=((w:Nat):Int):=by rw [w64 (by omega) (by omega)];omega
           conv=>whnf
           repeat (refine⟨⟨_,rfl⟩,?_⟩;conv=>whnf)
           refine aE (fun hj=> ?_) (fun hj=> ?_)
           · have hj:¬ w+1=me:=by simp at hj;omega
             have es:selN me (w+1)=selN me w+1:=by unfold selN;split <;> split <;> omega
             have eo:othN me (selN me w)=w+1:=by unfold othN selN;split <;> split <;> omega
             conv=>whnf
             repeat (refine⟨⟨_,rfl⟩,?_⟩;conv=>whnf)
             rw [e1]
             refine aA (by simp;omega) ?_
             conv=>whnf
             repeat (refine⟨⟨_,rfl⟩,?_⟩;conv=>whnf)
             refine S_RSecret (n:=n) (f:=f) aQ.vsl (by omega) hf (fun xs' hxs' hxs1 _=> ?_)
             obtain rfl:xs=xs':=hxs.trans hxs'.symm
             conv=>whnf
             repeat (refine⟨⟨_,rfl⟩,?_⟩;conv=>whnf)
             refine T_rTimesE (n:=xs) (P:=ptOf (D w)) rfl (Eq.trans (b:=rawA (D w).i (D w).x (D w).y) rfl (hD w hb).2.1) (Nat.lt_trans hxs1 (by decide)) (hD w hb).1 (fun Q oQ hQ=> ?_)
             conv=>whnf
             repeat (refine⟨⟨_,rfl⟩,?_⟩;conv=>whnf)
             refine S_RInt (i:=w+1) (by omega) ?_
             conv=>whnf
             repeat (refine⟨⟨_,rfl⟩,?_⟩;conv=>whnf)
             refine S_REval (n:=t+1) (x:=w+1) (c:=c) (bW.sl rfl (by omega) (fun i j _ _=>⟨by rw [Nat.zero_add],cR⟩)) (Nat.lt_of_le_of_lt (m:=8) (by omega) (by decide)) (fun i _=>Nat.lt_trans (hcN i) (by decide)) (by omega) (fun z hz hz1=> ?_)
             conv=>whnf
             repeat (refine⟨⟨_,rfl⟩,?_⟩;conv=>whnf)
             refine S_RSeal (P:=Q) (a:=(me:Int)) (b:=((w+1:Nat):Int)) (n:=z) (isD_nat (by omega) (by omega)) (isD_nat (by omega) (by omega)) (fun s1 hs hs1=> ?_)
             have hsS:∀ j,s1 j=S (0) j:=fun j=>by
              rw [<- hs0,hSq,eo,show w+1 - 1=w by omega,<- hQ,<- hz,hs]
             clear hs
             rw [rowL]
             conv=>whnf
             repeat (refine⟨⟨_,rfl⟩,?_⟩;conv=>whnf)
             first
              | refine fun cap' hcap=> ?_
              | refine aA (bQ (by first | rfl | simp) rfl rfl (by have:=hsel0 w;omega) (by have:=hsel0 w;omega)) (fun cap' hcap=> ?_)
             conv=>whnf
             repeat (refine⟨⟨_,rfl⟩,?_⟩;conv=>whnf)
             refine⟨q - 1,[(0,.vsl 1 n cap (aB f)),(2,.vsl 26 k c1 (dlG D d1 d2)),(3,.int .i64 me),(8,.ptr 0 0 0),(11,.sl 1 0 (t+1) cc),(12,.ptr 3 0 0),(13,.int .i64 ((w+1+1:Nat):Int))],[some ⟨22,1,lstG 22 actZ⟩,some ⟨4,t+1,jF c⟩,some ⟨9,t+1,ptsG P⟩,some ⟨22,1,lstG 22 (actL 2 false 0 0 nB (.sl 4 0 (0+1) cap') (.sl 2 0 (t+1) cp) 0 0 0)⟩,some ⟨32,0+1,cI S⟩],[some 0,some 1,some 2,some 3,some 6],by omega,⟨w+1,by omega,rfl,.inr ⟨0,cap',by rw [es,hs0],rfl⟩⟩,?_⟩
             refine .mk0 ⟨.eq _ _ rfl bF,.eq _ _ rfl lQ,Flat.i rfl,.ptr _ _ _ _ rfl,.sl _ _ _ _ _ rfl,.ptr _ _ _ _ rfl,Flat.i e5,trivial⟩ ⟨.old 0 0 _ _ rfl rfl ⟨rfl,Nat.le_refl _,fun i j hi hj=>vN hi hj rfl⟩,.old 1 1 _ _ rfl rfl ⟨rfl,Nat.le_refl _,fun i j hi hj=>RV.of rfl cR⟩,.old 2 2 _ _ rfl rfl ⟨rfl,Nat.le_refl _,fun i j hi hj=>RV.of rfl bZ⟩,.old 3 3 _ _ rfl rfl ⟨rfl,Nat.le_refl _,fun i j hi hj=> ?_⟩,.old 4 6 _ _ rfl rfl ⟨rfl,Nat.le_refl _,fun i j hi hj=> ?_⟩,trivial⟩ rfl rfl
             · have hi:i<1:=hi
               have hj:j<22:=hj
               obtain rfl:i=0:=by omega
               have:j=0\/j=1\/j=2\/j=3\/j=4\/j=5\/j=6\/j=7\/j=8\/j=9\/j=10\/j=11\/j=12\/j=13\/j=14\/j=15\/j=16\/j=17\/j=18\/j=19\/j=20\/j=21:=by omega
               rcases this with rfl | rfl | rfl | rfl | rfl | rfl | rfl | rfl | rfl | rfl | rfl | rfl | rfl | rfl | rfl | rfl | rfl | rfl | rfl | rfl | rfl | rfl
               all_goals first
                | exact .eq _ _ rfl (.int _ _)
                | exact .eq _ _ rfl (.bool _)
                | exact .eq _ _ rfl (.str _)
                | exact .eq _ _ rfl .nils
                | exact .nils _ _
                | exact .sl _ _ _ _ _ rfl
             · dsimp only at hi hj ⊢
               first
                | refine seal_row hi hj (fun j _=>hsS j) rfl ?_
                | refine seal_row0 hi hj (fun j _=>hsS j) rfl ?_
               exact all32 ⟨rfl,rfl,rfl,rfl,rfl,rfl,rfl,rfl,rfl,rfl,rfl,rfl,rfl,rfl,rfl,rfl,rfl,rfl,rfl,rfl,rfl,rfl,rfl,rfl,rfl,rfl,rfl,rfl,rfl,rfl,rfl,rfl⟩
           · have hj:w+1=me:=by simp at hj;omega
             have es:selN me (w+1)=selN me w:=by unfold selN;rw [if_neg (by omega),if_pos (by omega)];omega
             conv=>whnf
             repeat (refine⟨⟨_,rfl⟩,?_⟩;conv=>whnf)
             refine⟨q - 1,[(0,.vsl 1 n cap (aB f)),(2,.vsl 26 k c1 (dlG D d1 d2)),(3,.int .i64 me),(8,.ptr 0 0 0),(11,.sl 1 0 (t+1) cc),(12,.ptr 3 0 0),(13,.int .i64 ((w+1+1:Nat):Int))],[some ⟨22,1,lstG 22 actZ⟩,some ⟨4,t+1,jF c⟩,some ⟨9,t+1,ptsG P⟩,some ⟨22,1,lstG 22 (actL 2 false 0 0 nB (.nils) (.sl 2 0 (t+1) cp) 0 0 0)⟩,none],[some 0,some 1,some 2,some 3,none],by omega,⟨w+1,by omega,rfl,by first | exact .inl ⟨by rw [es,hs0],rfl⟩ | exact .inr ⟨_,_,by rw [es,hs0],rfl⟩⟩,?_⟩
             refine .mk0 ⟨.eq _ _ rfl bF,.eq _ _ rfl lQ,Flat.i rfl,.ptr _ _ _ _ rfl,.sl _ _ _ _ _ rfl,.ptr _ _ _ _ rfl,Flat.i e5,trivial⟩ ⟨.old 0 0 _ _ rfl rfl ⟨rfl,Nat.le_refl _,fun i j hi hj=>vN hi hj rfl⟩,.old 1 1 _ _ rfl rfl ⟨rfl,Nat.le_refl _,fun i j hi hj=>RV.of rfl cR⟩,.old 2 2 _ _ rfl rfl ⟨rfl,Nat.le_refl _,fun i j hi hj=>RV.of rfl bZ⟩,.old 3 3 _ _ rfl rfl ⟨rfl,Nat.le_refl _,fun i j hi hj=> ?_⟩,by first | exact .dead _ | exact .old 4 4 _ _ rfl rfl ⟨rfl,Nat.le_refl _,fun i j hi hj=>RV.of rfl dF⟩,trivial⟩ rfl rfl
             have hi:i<1:=hi
             have hj:j<22:=hj
             obtain rfl:i=0:=by omega
             have:j=0\/j=1\/j=2\/j=3\/j=4\/j=5\/j=6\/j=7\/j=8\/j=9\/j=10\/j=11\/j=12\/j=13\/j=14\/j=15\/j=16\/j=17\/j=18\/j=19\/j=20\/j=21:=by omega
             rcases this with rfl | rfl | rfl | rfl | rfl | rfl | rfl | rfl | rfl | rfl | rfl | rfl | rfl | rfl | rfl | rfl | rfl | rfl | rfl | rfl | rfl | rfl
             all_goals first
              | exact .eq _ _ rfl (.int _ _)
              | exact .eq _ _ rfl (.bool _)
              | exact .eq _ _ rfl (.str _)
              | exact .eq _ _ rfl .nils
              | exact .nils _ _
              | exact .sl _ _ _ _ _ rfl
         · have hb:w=k:=by simp at hb;omega
           subst hb
           conv=>whnf
           repeat (refine⟨⟨_,rfl⟩,?_⟩;conv=>whnf)
           have hsel:selN me w=w - 1:=by unfold selN;rw [if_neg (by omega)]
           have hw1:w - 1=0:=hsel.symm.trans hs0
           exact⟨.nils,.sl 2 0 (t+1) cp,rfl,by first | exact .inl ⟨rfl,hw1⟩ | exact .inr ⟨4,_,_,_,by rw [hw1],rfl,by omega,fun _ _ _ _=>rfl⟩,.inr ⟨_,cp,t+1,_,rfl,rfl,Nat.le_refl _,fun _ _ _ _=>by rw [hP]⟩⟩
       · conv=>whnf
         repeat (refine⟨⟨_,rfl⟩,?_⟩;conv=>whnf)
         refine aE (fun hb=> ?_) (fun hb=> ?_)
         · have hb:w<k:=by simp at hb;omega
           have e5:IntKind.i64.wrap (((w+1:Nat):Int)+1)=((w+1+1:Nat):Int):=by rw [w64 (by omega) (by omega)];omega
           have e1:IntKind.i64.wrap (((w+1:Nat):Int) - 1)=((w:Nat):Int):=by rw [w64 (by omega) (by omega)];omega
           conv=>whnf
           repeat (refine⟨⟨_,rfl⟩,?_⟩;conv=>whnf)
           refine aE (fun hj=> ?_) (fun hj=> ?_)
           · have hj:¬ w+1=me:=by simp at hj;omega
             have es:selN me (w+1)=selN me w+1:=by unfold selN;split <;> split <;> omega
             have eo:othN me (selN me w)=w+1:=by unfold othN selN;split <;> split <;> omega
             conv=>whnf
             repeat (refine⟨⟨_,rfl⟩,?_⟩;conv=>whnf)
             rw [e1]
             refine aA (by simp;omega) ?_
             conv=>whnf
             repeat (refine⟨⟨_,rfl⟩,?_⟩;conv=>whnf)
             refine S_RSecret (n:=n) (f:=f) aQ.vsl (by omega) hf (fun xs' hxs' hxs1 _=> ?_)
             obtain rfl:xs=xs':=hxs.trans hxs'.symm
             conv=>whnf
             repeat (refine⟨⟨_,rfl⟩,?_⟩;conv=>whnf)
             refine T_rTimesE (n:=xs) (P:=ptOf (D w)) rfl (Eq.trans (b:=rawA (D w).i (D w).x (D w).y) rfl (hD w hb).2.1) (Nat.lt_trans hxs1 (by decide)) (hD w hb).1 (fun Q oQ hQ=> ?_)
             conv=>whnf
             repeat (refine⟨⟨_,rfl⟩,?_⟩;conv=>whnf)
             refine S_RInt (i:=w+1) (by omega) ?_
             conv=>whnf
             repeat (refine⟨⟨_,rfl⟩,?_⟩;conv=>whnf)
             refine S_REval (n:=t+1) (x:=w+1) (c:=c) (bW.sl rfl (by omega) (fun i j _ _=>⟨by rw [Nat.zero_add],cR⟩)) (Nat.lt_of_le_of_lt (m:=8) (by omega) (by decide)) (fun i _=>Nat.lt_trans (hcN i) (by decide)) (by omega) (fun z hz hz1=> ?_)
             conv=>whnf
             repeat (refine⟨⟨_,rfl⟩,?_⟩;conv=>whnf)
             refine S_RSeal (P:=Q) (a:=(me:Int)) (b:=((w+1:Nat):Int)) (n:=z) (isD_nat (by omega) (by omega)) (isD_nat (by omega) (by omega)) (fun s1 hs hs1=> ?_)
             have hsS:∀ j,s1 j=S ((s+1)) j:=fun j=>by
              rw [<- hs0,hSq,eo,show w+1 - 1=w by omega,<- hQ,<- hz,hs]
             clear hs
             rw [rowL]
             conv=>whnf
             repeat (refine⟨⟨_,rfl⟩,?_⟩;conv=>whnf)
             first
              | refine fun cap' hcap=> ?_
              | refine aA (bQ (by first | rfl | simp) rfl rfl (by have:=hsel0 w;omega) (by have:=hsel0 w;omega)) (fun cap' hcap=> ?_)
             conv=>whnf
             repeat (refine⟨⟨_,rfl⟩,?_⟩;conv=>whnf)
             refine⟨q - 1,[(0,.vsl 1 n cap (aB f)),(2,.vsl 26 k c1 (dlG D d1 d2)),(3,.int .i64 me),(8,.ptr 0 0 0),(11,.sl 1 0 (t+1) cc),(12,.ptr 3 0 0),(13,.int .i64 ((w+1+1:Nat):Int))],[some ⟨22,1,lstG 22 actZ⟩,some ⟨4,t+1,jF c⟩,some ⟨9,t+1,ptsG P⟩,some ⟨22,1,lstG 22 (actL 2 false 0 0 nB (.sl 4 0 ((s+1)+1) cap') (.sl 2 0 (t+1) cp) 0 0 0)⟩,some ⟨32,(s+1)+1,cI S⟩],[some 0,some 1,some 2,some 3,some 6],by omega,⟨w+1,by omega,rfl,.inr ⟨(s+1),cap',by rw [es,hs0],rfl⟩⟩,?_⟩
             refine .mk0 ⟨.eq _ _ rfl bF,.eq _ _ rfl lQ,Flat.i rfl,.ptr _ _ _ _ rfl,.sl _ _ _ _ _ rfl,.ptr _ _ _ _ rfl,Flat.i e5,trivial⟩ ⟨.old 0 0 _ _ rfl rfl ⟨rfl,Nat.le_refl _,fun i j hi hj=>vN hi hj rfl⟩,.old 1 1 _ _ rfl rfl ⟨rfl,Nat.le_refl _,fun i j hi hj=>RV.of rfl cR⟩,.old 2 2 _ _ rfl rfl ⟨rfl,Nat.le_refl _,fun i j hi hj=>RV.of rfl bZ⟩,.old 3 3 _ _ rfl rfl ⟨rfl,Nat.le_refl _,fun i j hi hj=> ?_⟩,.old 4 6 _ _ rfl rfl ⟨rfl,Nat.le_refl _,fun i j hi hj=> ?_⟩,trivial⟩ rfl rfl
             · have hi:i<1:=hi
               have hj:j<22:=hj
               obtain rfl:i=0:=by omega
               have:j=0\/j=1\/j=2\/j=3\/j=4\/j=5\/j=6\/j=7\/j=8\/j=9\/j=10\/j=11\/j=12\/j=13\/j=14\/j=15\/j=16\/j=17\/j=18\/j=19\/j=20\/j=21:=by omega
               rcases this with rfl | rfl | rfl | rfl | rfl | rfl | rfl | rfl | rfl | rfl | rfl | rfl | rfl | rfl | rfl | rfl | rfl | rfl | rfl | rfl | rfl | rfl
               all_goals first
                | exact .eq _ _ rfl (.int _ _)
                | exact .eq _ _ rfl (.bool _)
                | exact .eq _ _ rfl (.str _)
                | exact .eq _ _ rfl .nils
                | exact .nils _ _
                | exact .sl _ _ _ _ _ rfl
             · dsimp only at hi hj ⊢
               first
                | refine seal_row hi hj (fun j _=>hsS j) rfl ?_
                | refine seal_row0 hi hj (fun j _=>hsS j) rfl ?_
               exact all32 ⟨rfl,rfl,rfl,rfl,rfl,rfl,rfl,rfl,rfl,rfl,rfl,rfl,rfl,rfl,rfl,rfl,rfl,rfl,rfl,rfl,rfl,rfl,rfl,rfl,rfl,rfl,rfl,rfl,rfl,rfl,rfl,rfl⟩
           · have hj:w+1=me:=by simp at hj;omega
             have es:selN me (w+1)=selN me w:=by unfold selN;rw [if_neg (by omega),if_pos (by omega)];omega
             conv=>whnf
             repeat (refine⟨⟨_,rfl⟩,?_⟩;conv=>whnf)
             refine⟨q - 1,[(0,.vsl 1 n cap (aB f)),(2,.vsl 26 k c1 (dlG D d1 d2)),(3,.int .i64 me),(8,.ptr 0 0 0),(11,.sl 1 0 (t+1) cc),(12,.ptr 3 0 0),(13,.int .i64 ((w+1+1:Nat):Int))],[some ⟨22,1,lstG 22 actZ⟩,some ⟨4,t+1,jF c⟩,some ⟨9,t+1,ptsG P⟩,some ⟨22,1,lstG 22 (actL 2 false 0 0 nB (.sl 4 0 (s+1) ca) (.sl 2 0 (t+1) cp) 0 0 0)⟩,some ⟨32,s+1,cI S⟩],[some 0,some 1,some 2,some 3,some 4],by omega,⟨w+1,by omega,rfl,by first | exact .inl ⟨by rw [es,hs0],rfl⟩ | exact .inr ⟨_,_,by rw [es,hs0],rfl⟩⟩,?_⟩
             refine .mk0 ⟨.eq _ _ rfl bF,.eq _ _ rfl lQ,Flat.i rfl,.ptr _ _ _ _ rfl,.sl _ _ _ _ _ rfl,.ptr _ _ _ _ rfl,Flat.i e5,trivial⟩ ⟨.old 0 0 _ _ rfl rfl ⟨rfl,Nat.le_refl _,fun i j hi hj=>vN hi hj rfl⟩,.old 1 1 _ _ rfl rfl ⟨rfl,Nat.le_refl _,fun i j hi hj=>RV.of rfl cR⟩,.old 2 2 _ _ rfl rfl ⟨rfl,Nat.le_refl _,fun i j hi hj=>RV.of rfl bZ⟩,.old 3 3 _ _ rfl rfl ⟨rfl,Nat.le_refl _,fun i j hi hj=> ?_⟩,by first | exact .dead _ | exact .old 4 4 _ _ rfl rfl ⟨rfl,Nat.le_refl _,fun i j hi hj=>RV.of rfl dF⟩,trivial⟩ rfl rfl
             have hi:i<1:=hi
             have hj:j<22:=hj
             obtain rfl:i=0:=by omega
             have:j=0\/j=1\/j=2\/j=3\/j=4\/j=5\/j=6\/j=7\/j=8\/j=9\/j=10\/j=11\/j=12\/j=13\/j=14\/j=15\/j=16\/j=17\/j=18\/j=19\/j=20\/j=21:=by omega
             rcases this with rfl | rfl | rfl | rfl | rfl | rfl | rfl | rfl | rfl | rfl | rfl | rfl | rfl | rfl | rfl | rfl | rfl | rfl | rfl | rfl | rfl | rfl
             all_goals first
              | exact .eq _ _ rfl (.int _ _)
              | exact .eq _ _ rfl (.bool _)
              | exact .eq _ _ rfl (.str _)
              | exact .eq _ _ rfl .nils
              | exact .nils _ _
              | exact .sl _ _ _ _ _ rfl
         · have hb:w=k:=by simp at hb;omega
           subst hb
           conv=>whnf
           repeat (refine⟨⟨_,rfl⟩,?_⟩;conv=>whnf)
           have hsel:selN me w=w - 1:=by unfold selN;rw [if_neg (by omega)]
           have hw1:w - 1=(s+1):=hsel.symm.trans hs0
           exact⟨.sl 4 0 (s+1) ca,.sl 2 0 (t+1) cp,rfl,by first | exact .inl ⟨rfl,hw1⟩ | exact .inr ⟨4,_,_,_,by rw [hw1],rfl,by omega,fun _ _ _ _=>rfl⟩,.inr ⟨_,cp,t+1,_,rfl,rfl,Nat.le_refl _,fun _ _ _ _=>by rw [hP]⟩⟩
theorem S_RPost {m:Mem} {x z:AV} {K:AV->Mem->Prop} {n t:Nat} {f:Nat->Int} {r:Nat} {D:Nat->Dl} {me:Nat} (M:Nat) (hM:M+1=r) (hx:aQ m x n f) (hz:iP m z r D) (hn:n<=16384) (ht:t<64) (hf:∀ i,i<n->0<=f i/\f i<=255) (hr:r<=8) (hm:1<=me/\me<=r) (hD:∀ k,k<r->On (ptOf (D k))/\rawA (D k).i (D k).x (D k).y=ptA (ptOf (D k))/\(D k).x<w256/\(D k).y<w256)
 (h:∀ S P c1 c2,S=sealN n f t D me->P=(fun i=>nmul (coN n f i) gG)->memK (m++ [some ⟨32,M,cI S⟩,some ⟨9,t+1,ptsG P⟩]) (K (.tup [actA 2 false 0 0 nB (.sl m.length 0 M c1) (.sl (m.length+1) 0 (t+1) c2) 0 0 0,.int .i64 0]))):ACall Pg gJ [x,.int .i64 t,z,.int .i64 me] m K:=by
 simp only [cO]at h
 obtain rfl:M=r - 1:=by omega
 obtain⟨cap,hl⟩:=hx
 obtain⟨c1,d1,d2,hl2⟩:=hz
 exact lift_act (S_RPost0 n cap t f r c1 d1 d2 D me hn ht hf hr hm hD) (fun i j _ _=> .int _ _) (fun i j _ _=>bZ) (.cons _ _ _ _ hl (.cons _ _ _ _ aK (.cons _ _ _ _ hl2 (.cons _ _ _ _ aK .nil)))) (fun k1 k2=>h _ _ k1 k2 rfl rfl)
end Go.Proofs.YtfolpdmbpbbimaaGreat
end

section
namespace Go.Proofs.YtfolpdmbpbbimaaGreat
open Go Go.Wit
def t32:Ty:= .arr 32 (.int .u8)
end Go.Proofs.YtfolpdmbpbbimaaGreat
end

section
namespace Go.Proofs.YtfolpdmbpbbimaaGreat
open Go Go.Wit
def OkZ (d:Dl):Prop:=d.x<w256/\d.y<w256/\d.u<w256/\d.v<w256/\(∀ k,k<d.nc->d.X k<w256)/\(∀ k,k<d.nc->d.Y k<w256)/\(∀ k,k<d.ns->∀ b,b<32->0<=d.S k b/\d.S k b<=255)/\d.ns<=Go.maxLen/\d.nc<=Go.maxLen/\d.lb.size<=Go.maxLen
theorem OkZ.ok {d:Dl} (h:OkZ d) (h1:d.ns<=1000000) (h2:d.nc<=1000000):OkD d:=⟨h.1,h.2.1,h.2.2.1,h.2.2.2.1,h.2.2.2.2.1,h.2.2.2.2.2.1,h.2.2.2.2.2.2.1,h1,h2⟩
instance:Nonempty Dl:=⟨⟨0,false,0,0,.empty,0,false,0,fun _ _=>0,0,fun _=>false,fun _=>0,fun _=>0,false,false,false,0,0⟩⟩
end Go.Proofs.YtfolpdmbpbbimaaGreat
end

section
namespace Go.Wit
def FzV (l:Nat) (blk:Blk) (v v':AV):Prop:=v'=v\/v'= .un\/∃ o n c get,v= .sl l o n c/\v'= .vsl blk.es n c get/\o+n<=blk.n/\∀ i j,i<n->j<blk.es->get i j=blk.get (o+i) j
def FzB (l:Nat) (blk:Blk) (k:Nat) (b b':Option Blk):Prop:=b'=none\/(k ≠ l/\∃ x y,b=some x/\b'=some y/\y.es=x.es/\y.n<=x.n/\∀ i j,i<y.n->j<y.es->FzV l blk (x.get i j) (y.get i j))
def FzL (l:Nat) (blk:Blk):Nat->Mem->Mem->Prop
 | _,[],[] =>True
 | k,b::r,b'::r'=>FzB l blk k b b'/\FzL l blk (k+1) r r'
 | _,_,_=>False
theorem FzL.n {l k:Nat} {blk:Blk}:FzL l blk k [] [] :=trivial
theorem FzL.c {l k:Nat} {blk:Blk} {b b':Option Blk} {r r':Mem} (h1:FzB l blk k b b') (h2:FzL l blk (k+1) r r'):FzL l blk k (b::r) (b'::r'):=⟨h1,h2⟩
theorem FzL.len {l:Nat} {blk:Blk}:∀ {k:Nat} {m m1:Mem},FzL l blk k m m1->m1.length=m.length
 | _,[],[],_=>rfl
 | k,b::r,b'::r',h=>by simp [FzL.len h.2]
 | _,[],b'::r',h=>h.elim
 | _,b::r,[],h=>h.elim
theorem FzL.get {l:Nat} {blk:Blk}:∀ {k:Nat} {m m1:Mem},FzL l blk k m m1->∀ i b',m1[i]? = some b'->∃ b,m[i]? = some b/\FzB l blk (k+i) b b'
  | _,[],[],_,i,b',h=>by simp at h
  | k, b :: r, c :: r', h, 0, b', hb => by
    simp at hb;subst hb
    exact⟨b,rfl,h.1⟩
  | k, b :: r, c :: r', h, i + 1, b', hb => by
    obtain⟨x,h1,h2⟩:=FzL.get h.2 i b' (by simpa using hb)
    exact⟨x,by simpa using h1,by rw [show k+(i+1)=k+1+i by omega];exact h2⟩
  | _,[],b'::r',h,_,_,_=>h.elim
  | _,b::r,[],h,_,_,_=>h.elim
theorem MRel.frz {C:Ctx} {m m1:Mem} {w:World} {L:Lay} (hR:MRel C m w L) {l:Nat} {blk:Blk} (hl:m[l]? = some (some blk)) (hm:FzL l blk 0 m m1):
    MRel C m1 w L/\Ext w.heap L (OO C m L) w.heap L (OO C m1 L):=by
  have hlen:=hm.len
  have hget:∀ {i:Nat} {y:Blk},m1[i]? = some (some y)->i ≠ l/\∃ x,m[i]? = some (some x)/\y.es=x.es/\y.n<=x.n/\∀ a b,a<y.n->b<y.es->FzV l blk (x.get a b) (y.get a b):=by
    intro i y hi
    obtain⟨b,h1,h2⟩:=hm.get i _ hi
    rcases h2 with h2 | ⟨h3,x,y',rfl,h5,h6,h7,h8⟩
    · cases h2
    · obtain rfl:=Option.some.inj h5
      rw [Nat.zero_add]at h3
      exact⟨h3,x,h1,h6,h7,h8⟩
  have hown:∀ b,own m1 L b->own m L b:=by
    rintro b ⟨i,y,e,h1,h2,h3,h4⟩
    obtain⟨_,x,h5,_⟩:=hget h1
    exact⟨i,x,e,h5,h2,h3,h4⟩
  have hext:Ext w.heap L (OO C m L) w.heap L (OO C m1 L):=
    ⟨fun l e h=>h,fun b _ _=>rfl,fun b _ hO hO'=>hO (hO'.elim .inl fun h=> .inr (hown b h))⟩
  refine⟨⟨hR.os,hR.tape,hR.output,hR.size,hR.frame,fun i hi=>hR.lay i (by omega),fun i y hi=> ?_,fun i i' b b' e e' h1 h2 h3 h4 t1 t2 h5=> ?_,fun i hi=>⟨by rw [hlen];exact(hR.base i hi).1,(hR.base i hi).2⟩,hR.xlt,fun b hb=>hR.notX b (hown b hb)⟩,hext⟩
  · obtain⟨hne,x,g1,g2,g3,g4⟩:=hget hi
    obtain⟨e,k1,k2,k3,k0⟩:=hR.blk i x g1
    refine⟨e,k1,by rw [k2,g2],by omega,fun ht=> ?_⟩
    obtain⟨c,T,k4,k5,k6,k7⟩:=k0 ht
    refine⟨c,T,k4,k5,k6,fun a b ha hb=> ?_⟩
    obtain⟨v,r1,r2,r3⟩:=k7 a b (by omega) (by rw [<- g2];exact hb)
    refine⟨v,by rw [g2];exact r1,?_,r3⟩
    rcases g4 a b ha hb with h | h | ⟨o,n,cp,get,h1,h2,h3,h4⟩
    · rw [h];exact r2.ext hext
    · rw [h];exact .un _
    · rw [h1]at r2
      rw [h2]
      cases r2 with
      | sl0 _ _ ad=>exact .vsl0 _ _ _
      | sl0n _ _=>exact .vsl0 _ _ _
      | sl _ _ _ _ le q1 q2 q3 =>
        obtain⟨e2,p1,p2,p3,p0⟩:=hR.blk l blk hl
        rw [q1]at p1;obtain rfl:=Option.some.inj p1
        by_cases hc0:cp=0
        · subst hc0
          obtain rfl:n=0:=by omega
          exact .vsl0 _ _ _
        have ht2:0<le.tot:=by omega
        obtain⟨c2,T2,p4,p5,p6,p7⟩:=p0 ht2
        have key:∀ a b,a<n->b<blk.es->∃ v,eL w.heap le.b (o*le.es+(a*blk.es+b))=some v/\VR w.heap L (OO C m L) (blk.get (o+a) b) v/\v.oneCell'=true:=by
          intro a b ha hb
          obtain⟨v,s1,s2,s3⟩:=p7 (o+a) b (by omega) hb
          refine⟨v,?_,s2,s3⟩
          simp only [eL,p4]
          rw [<- s1,p2];congr 1
          rw [Nat.add_mul];omega
        have hnO:¬ OO C m1 L le.b:=by
          rintro(hX | ⟨i2,y2,e3,s1,s2,s3,s4⟩)
          · exact hR.notX le.b ⟨l,blk,le,hl,q1,ht2,rfl⟩ hX
          · obtain⟨hne2,x2,s5,_⟩:=hget s1
            exact hne2 (hR.inj i2 l x2 blk e3 le s5 hl s2 q1 s3 ht2 s4)
        classical
        refine .vsl _ _ _ _ le.b (o*le.es) (fun a b=>if hij:a<n/\b<blk.es then (key a b hij.1 hij.2).choose else undef) q2 (fun a b ha hb=> ?_) (fun a b ha hb=> ?_)
        · have hk:=(key a b ha hb).choose_spec
          rw [dif_pos ⟨ha,hb⟩]
          exact⟨hnO,hk.1,hk.2.2⟩
        · have hk:=(key a b ha hb).choose_spec
          rw [dif_pos ⟨ha,hb⟩,h4 a b ha hb]
          exact hk.2.1.ext hext
  · obtain⟨_,x,g1,_⟩:=hget h1
    obtain⟨_,x',g2,_⟩:=hget h2
    exact hR.inj i i' x x' e e' g1 g2 h3 h4 t1 t2 h5
inductive FzM:Mem->Mem->Prop where
 | refl (m:Mem):FzM m m
 | step (l:Nat) (blk:Blk) (m m1 m2:Mem):m[l]? = some (some blk)->FzL l blk 0 m m1->FzM m1 m2->FzM m m2
theorem FzM.rel {C:Ctx} {n:Nat} {e:Env} {m m1:Mem} {a:Act} {w:World} {L:Lay} (h:FzM m m1) (hr:Rel C n e m a w L):Rel C n e m1 a w L:=by
  induction h with
  | refl=>exact hr
  | step l blk m m1 m2 hl hm _ ih =>
    obtain⟨h1,h2⟩:=hr.mem.frz hl hm
    exact ih ⟨hr.size,hr.defers,h1,fun t=>(hr.env t).ext h2⟩
section
variable {D:DrawKit} {P:Program} {n k:Nat}
theorem AWp.fz {c:Code} {e:Env} {m m1:Mem} {Q:vO} (hf:FzM m m1) (h:AWp P n k c e m1 Q):AWp P n k c e m Q:=fun C a w L hk hr=>h C a w L hk (hf.rel hr)
theorem loop_fz (hm:P.follows .mixedOrders=true) {c:ACode} {e:Env} {m:Mem} {Q:vO} (I:Nat->List (Nat × AV)->Mem->Prop) (k0:Nat) {l0:List (Nat × AV)} {m0:Mem} (src:List (Option Nat)) (hi:I k0 l0 m0) (hw:Wk k e m l0 m0 src)
    (hstep:∀ q l m,I q l m->mkEnvK l .nil fun e=>vcCode D P n k c e m fun x e' m'=>match x with
      | .normal=>∃ q' l' m1 m2 src,q'<q/\I q' l' m2/\FzM m' m1/\Wk k e' m1 l' m2 src
      | .exit i=>Q (.exit i) e' m'
      | .ret=>Q .ret e' m'
      | _=>False):ALoop D P n k c e m Q:=by
  refine loop_sem (fun q e m=>∃ l m1 m2 src,I q l m2/\FzM m m1/\Wk k e m1 l m2 src) k0 ⟨l0,m,m0,src,hi,.refl _,hw⟩ (fun q e1 m1 hI b hb=> ?_)
  obtain⟨l,m2,m3,s2,hI,hf,hw2⟩:=hI
  refine AWp.fz hf (AWp.wk hw2 ?_)
  have:=hstep q l m3 hI
  rw [mkEnvK_eq]at this
  refine AWp.mono ?_ (lH hm b c hb this)
  intro x e' m' h
  cases x with
  | normal =>
    obtain⟨q',l',m4,m5,s3,h1,h2,h3,h4⟩:=h
    exact⟨q',h1,l',m4,m5,s3,h2,h3,h4⟩
  | exit i=>exact h
  | ret=>exact h
  | _=>exact h.elim
end
end Go.Wit
end

section
namespace Go.Proofs.YtfolpdmbpbbimaaGreat
open Go Go.Wit
end Go.Proofs.YtfolpdmbpbbimaaGreat
end

section
namespace Go.Proofs.YtfolpdmbpbbimaaGreat
open Go Go.Wit
theorem lT {m:Mem} {K:AV->Mem->Prop} {v w:AV} {i:Bool} {x y:Nat} (hv:v=rawA i x y) (hw:w=rawA i x y) (hx:x<w256) (hy:y<w256) (h:K (.bool true) m):ACall Pg dG [v,w] m K:=by
 subst hv hw;exact S_kPoint_eq hx hy h
end Go.Proofs.YtfolpdmbpbbimaaGreat
end

section
namespace Go.Proofs.YtfolpdmbpbbimaaGreat
open Go Go.Wit
theorem lt26 {P:Nat->Prop} (h0:P 0) (h1:P 1) (h2:P 2) (h3:P 3) (h4:P 4) (h5:P 5) (h6:P 6) (h7:P 7) (h8:P 8) (h9:P 9) (h10:P 10) (h11:P 11) (h12:P 12) (h13:P 13) (h14:P 14) (h15:P 15) (h16:P 16) (h17:P 17) (h18:P 18) (h19:P 19) (h20:P 20) (h21:P 21) (h22:P 22) (h23:P 23) (h24:P 24) (h25:P 25):∀ j,j<26->P j:=by
 intro j hj
 have:j=0\/j=1\/j=2\/j=3\/j=4\/j=5\/j=6\/j=7\/j=8\/j=9\/j=10\/j=11\/j=12\/j=13\/j=14\/j=15\/j=16\/j=17\/j=18\/j=19\/j=20\/j=21\/j=22\/j=23\/j=24\/j=25:=by omega
 rcases this with rfl | rfl | rfl | rfl | rfl | rfl | rfl | rfl | rfl | rfl | rfl | rfl | rfl | rfl | rfl | rfl | rfl | rfl | rfl | rfl | rfl | rfl | rfl | rfl | rfl | rfl <;> assumption
theorem iP.own {m:Mem} {l n cap N:Nat} {D:Nat->Dl} {c1 c2:Nat->Nat} (h:m[l]? = some (some ⟨26,N,dlG D c1 c2⟩)) (hn:n<=N):iP m (.sl l 0 n cap) n D:=by
 obtain⟨cap',hl⟩:=bW.own h hn (fun i j=>lR)
 exact⟨cap',c1,c2,hl⟩
end Go.Proofs.YtfolpdmbpbbimaaGreat
end

section
namespace Go.Proofs.YtfolpdmbpbbimaaGreat
open Go Go.Wit
theorem eM {es n p q i j:Nat} {g:Nat->Nat->AV} {v:AV} (hq:q<es):updG ⟨es,n,g⟩ p q 1 [v] i j=if i=p/\j=q then v else g i j:=by
 unfold updG
 have h1:Nat.ble (q+1) es=true:=by rw [Nat.ble_eq];omega
 simp only [h1,cond_true,gH]
 by_cases hp:i=p
 · by_cases hj:j=q
   · subst hp hj
     have h2:(Nat.ble j j && Nat.blt j (j+1))=true:=by simp only [Bool.and_eq_true,Nat.ble_eq,Nat.blt_eq];omega
     rw [h2];simp
   · have h2:(Nat.ble q j && Nat.blt j (q+1))=false:=by
      cases h:(Nat.ble q j && Nat.blt j (q+1))with
      | false=>rfl
      | true=>simp only [Bool.and_eq_true,Nat.ble_eq,Nat.blt_eq]at h;omega
     rw [h2,if_neg (fun h=>hj h.2)]
     simp
 · have h2:(i == p)=false:=by simpa using hp
   rw [h2,if_neg (fun h=>hp h.1)]
   simp
theorem lim0 (i:Nat):lim 0 i=0:=by simp [lim]
def sdF (n:Nat) (f:Nat->Int) (i:Nat):Nat->Int:=fun j=>if j<n then f j else (i:Int)
noncomputable def PK (n:Nat) (f:Nat->Int) (i:Nat):Pt Fp:=nmul (secN (n+1) (sdF n f i)) gG
noncomputable def D0 (n:Nat) (f:Nat->Int) (i:Nat):Dl:=⟨i,isI (PK n f i),xN (PK n f i),yN (PK n f i),nB,0,false,0,fun _ _=>0,0,fun _=>false,fun _=>0,fun _=>0,false,false,false,0,0⟩
noncomputable def D1 (n:Nat) (f:Nat->Int) (r t:Nat) (S:Nat->Nat->Int) (P:Nat->Pt Fp) (i:Nat):Dl:=⟨i,isI (PK n f i),xN (PK n f i),yN (PK n f i),nB,0,true,r - 1,S,t+1,fun k=>isI (P k),fun k=>xN (P k),fun k=>yN (P k),false,false,false,0,0⟩
noncomputable def dI (n:Nat) (f:Nat->Int) (t i:Nat):Nat->Nat->Int:=fun q=>tnF (nmul (secN (n+1) (sdF n f i)) (PK n f (othN (i+1) q - 1))) ((i+1:Nat):Int) (othN (i+1) q) (iZ (sumN (coN (n+1) (sdF n f i)) (othN (i+1) q) (t+1) % nN))
noncomputable def comC (n:Nat) (f:Nat->Int) (i:Nat):Nat->Pt Fp:=fun k=>nmul (coN (n+1) (sdF n f i) k) gG
def parB (sp:Nat->Int) (i:Nat):Nat->Bool
 | 0=>false
 | c+1=>parB sp i c != (sp c == (i:Int))
def spS (S:Nat->Nat->Int) (w:Nat) (b:Bool):Nat->Nat->Int:=fun q j=>if b=true/\q=w/\j=31 then xorB (S q j) 1 else S q j
theorem spS_no {S:Nat->Nat->Int} {w:Nat}:spS S w false=S:=by funext q j;simp [spS]
theorem tW {n:Nat} {f:Nat->Int} {i:Nat}:On (PK n f i):=on_G.nmul crvP _
theorem ptOf_D0 {n:Nat} {f:Nat->Int} {i:Nat}:ptOf (D0 n f i)=PK n f i:=ptOf_eq tW rfl
theorem ptOf_D1 {n:Nat} {f:Nat->Int} {r t i:Nat} {S:Nat->Nat->Int} {P:Nat->Pt Fp}:ptOf (D1 n f r t S P i)=PK n f i:=ptOf_eq tW rfl
theorem kO {n:Nat} {f:Nat->Int} {i:Nat} (hf:∀ j,j<n->0<=f j/\f j<=255) (hi:i<=255):∀ j,j<n+1->0<=sdF n f i j/\sdF n f i j<=255:=fun j hj=>by
 unfold sdF
 by_cases h:j<n
 · rw [if_pos h];exact hf j h
 · rw [if_neg h];omega
noncomputable def dq0 (n:Nat) (f:Nat->Int):Nat->Nat->AV:=fun k j=>(dlL (D0 n f k) .nils .nils).getD j .un
theorem flat_dq0 {nv:Bool} {n k j:Nat} {f:Nat->Int}:Flat nv (dq0 n f k j):=flat_dlL .nils .nils j
theorem iJ {n k i:Nat} {f:Nat->Int} {v:AV} {g:Nat->Nat->AV} (hk:k<=255) (hi:i<n+1) (hv:v=catG n (aB f) g i 0) (hg:g 0 0= .int .u8 (IntKind.u8.wrap (k:Int))):v= .int .u8 (sdF n f k i):=by
 subst hv
 unfold sdF
 by_cases h:i<n
 · rw [cU h,if_pos h];rfl
 · rw [bK (by omega),if_neg h,show i - n=0 by omega,hg,IntKind.wrap_u8]
   congr 1;omega
noncomputable def Dm (n:Nat) (f:Nat->Int) (E:Nat->Dl) (k i:Nat):Dl:=if i<k then E i else D0 n f i
noncomputable def dqG (n:Nat) (f:Nat->Int) (E:Nat->Dl) (k:Nat) (C1 C2:Nat->Nat):Nat->Nat->AV:=fun i j=>if i<k then dlG E C1 C2 i j else dq0 n f i j
theorem flat_dqG {n k i j:Nat} {f:Nat->Int} {E:Nat->Dl} {C1 C2:Nat->Nat}:Flat false (dqG n f E k C1 C2 i j):=by
 unfold dqG;split
 · exact lR
 · exact flat_dq0
noncomputable def dqI (n:Nat) (f:Nat->Int) (E:Nat->Dl) (k R t a1 a2:Nat) (C1 C2:Nat->Nat):Nat->Nat->AV:=fun i j=>if i=k then (dlL {D0 n f k with ps:=true} (.sl 2 0 (R+1) a1) (.sl 3 0 (t+1) a2)).getD j .un else dqG n f E k C1 C2 i j
theorem dqG_zero {n i j:Nat} {f:Nat->Int} {E:Nat->Dl} {C1 C2:Nat->Nat}:dqG n f E 0 C1 C2 i j=dq0 n f i j:=if_neg (Nat.not_lt_zero _)
theorem shows_dq {m:Mem} {l r c n k N:Nat} {f:Nat->Int} {E:Nat->Dl} {C1 C2:Nat->Nat} (h:m[l]? = some (some ⟨26,N,dqG n f E k C1 C2⟩)) (hr:r<=N):iP m (.sl l 0 r c) r (Dm n f E k):=by
 refine⟨c,fun i=>if i<k then C1 i else 0,fun i=>if i<k then C2 i else 0,?_⟩
 refine Lend.slR l 0 r c ⟨26,N,dqG n f E k C1 C2⟩ _ (List.mem_range.2 (bB h)) h (by show 0+r<=N;omega) (fun i j hi hj=> ?_)
 rw [Nat.zero_add]
 show Lend _ _ _ (dqG n f E k C1 C2 i j) _
 unfold dqG
 by_cases hik:i<k
 · rw [if_pos hik]
   have e:dlG (Dm n f E k) (fun i=>if i<k then C1 i else 0) (fun i=>if i<k then C2 i else 0) i j=dlG E C1 C2 i j:=by
    unfold dlG Dm;simp only [if_pos hik]
   rw [e]
   exact aG lR
 · rw [if_neg hik]
   have e:dlG (Dm n f E k) (fun i=>if i<k then C1 i else 0) (fun i=>if i<k then C2 i else 0) i j=(dlL (D0 n f i) (.vsl 32 0 0 (cI (D0 n f i).S)) (.vsl 9 0 0 (fY (D0 n f i).I (D0 n f i).X (D0 n f i).Y))).getD j .un:=by
    unfold dlG Dm;simp only [if_neg hik];rfl
   rw [e]
   replace hj:j<26:=hj
   clear e
   revert j
   refine lt26 ?_ ?_ ?_ ?_ ?_ ?_ ?_ ?_ ?_ ?_ ?_ ?_ ?_ ?_ ?_ ?_ ?_ ?_ ?_ ?_ ?_ ?_ ?_ ?_ ?_ ?_
   all_goals first
    | exact .nils _ _
    | exact .rv _ _ (.eq _ _ rfl (.int _ _))
    | exact .rv _ _ (.eq _ _ rfl (.bool _))
    | exact .rv _ _ (.eq _ _ rfl (.str _))
theorem Dm_pt {n k i:Nat} {f:Nat->Int} {E:Nat->Dl} (hE:∀ i,ptOf (E i)=PK n f i/\rawA (E i).i (E i).x (E i).y=ptA (PK n f i)/\(E i).x<w256/\(E i).y<w256):ptOf (Dm n f E k i)=PK n f i/\rawA (Dm n f E k i).i (Dm n f E k i).x (Dm n f E k i).y=ptA (PK n f i)/\(Dm n f E k i).x<w256/\(Dm n f E k i).y<w256:=by
 unfold Dm
 by_cases h:i<k
 · rw [if_pos h];exact hE i
 · rw [if_neg h];exact⟨ptOf_D0,rfl,xN_w _,yN_w _⟩
noncomputable def DP (n:Nat) (f:Nat->Int) (r t w ns:Nat) (sp:Nat->Int) (i:Nat):Dl:=D1 n f r t (spS (dI n f t i) w (parB sp i ns)) (comC n f i) i
theorem DP_pt {n r t w ns:Nat} {f sp:Nat->Int} (i:Nat):ptOf (DP n f r t w ns sp i)=PK n f i/\rawA (DP n f r t w ns sp i).i (DP n f r t w ns sp i).x (DP n f r t w ns sp i).y=ptA (PK n f i)/\(DP n f r t w ns sp i).x<w256/\(DP n f r t w ns sp i).y<w256:=⟨ptOf_D1,rfl,xN_w _,yN_w _⟩
theorem seal_Dm {n t k:Nat} {f:Nat->Int} {E:Nat->Dl} (hE:∀ i,ptOf (E i)=PK n f i):sealN (n+1) (sdF n f k) t (Dm n f E k) (k+1)=dI n f t k:=by
 funext q
 unfold sealN dI
 have:ptOf (Dm n f E k (othN (k+1) q - 1))=PK n f (othN (k+1) q - 1):=by
  unfold Dm
  by_cases h:othN (k+1) q - 1<k
  · rw [if_pos h];exact hE _
  · rw [if_neg h];exact ptOf_D0
 rw [this]
theorem dqI_rv {n k R t a1 a2 i j:Nat} {f:Nat->Int} {E:Nat->Dl} {C1 C2:Nat->Nat} (hj:j<26):
 RV false (fun l=> [some 0,some 1,some 5,some 6].getD l none) (updG ⟨26,R+2,updG ⟨26,R+2,updG ⟨26,R+2,dqG n f E k C1 C2⟩ (0+k) 12 1 [.bool true]⟩ (0+k) 13 1 [.sl 5 0 (R+1) a1]⟩ (0+k) 14 1 [.sl 6 0 (t+1) a2] i j) (dqI n f E k R t a1 a2 C1 C2 i j):=by
 rw [eM (by decide),eM (by decide),eM (by decide),Nat.zero_add]
 unfold dqI
 by_cases hik:i=k
 · subst hik
   simp only [true_and,if_true]
   by_cases h14:j=14
   · subst h14;rw [if_pos rfl];exact .sl _ _ _ _ _ rfl
   by_cases h13:j=13
   · subst h13;rw [if_neg h14,if_pos rfl];exact .sl _ _ _ _ _ rfl
   by_cases h12:j=12
   · subst h12;rw [if_neg h14,if_neg h13,if_pos rfl];exact .eq _ _ rfl (.bool _)
   rw [if_neg h14,if_neg h13,if_neg h12]
   unfold dqG dq0
   rw [if_neg (Nat.lt_irrefl _)]
   revert h12 h13 h14
   revert j
   intro j hj
   refine lt26 (P:=fun j=>j ≠ 14->j ≠ 13->j ≠ 12->RV false (fun l=> [some 0,some 1,some 5,some 6].getD l none) ((dlL (D0 n f i) .nils .nils).getD j .un) ((dlL {D0 n f i with ps:=true} (.sl 2 0 (R+1) a1) (.sl 3 0 (t+1) a2)).getD j .un)) ?_ ?_ ?_ ?_ ?_ ?_ ?_ ?_ ?_ ?_ ?_ ?_ ?_ ?_ ?_ ?_ ?_ ?_ ?_ ?_ ?_ ?_ ?_ ?_ ?_ ?_ j hj
   all_goals (intro a b c;first | exact absurd rfl a | exact absurd rfl b | exact absurd rfl c | exact .eq _ _ rfl (.int _ _) | exact .eq _ _ rfl (.bool _) | exact .eq _ _ rfl (.str _))
 · simp only [hik,false_and,if_false]
   exact RV.of rfl flat_dqG
theorem jY {A C:Nat} (h1:A<256) (h2:C<256):xorB (A:Int) (C:Int)=((A ^^^ C:Nat):Int):=by
 have e:(BitVec.ofInt 8 (A:Int) ^^^ BitVec.ofInt 8 (C:Int)).toNat=A ^^^ C:=by
  rw [BitVec.toNat_xor,BitVec.toNat_ofInt,BitVec.toNat_ofInt]
  have g1:((A:Int) % ((2 ^ 8:Nat):Int)).toNat=A:=by omega
  have g2:((C:Int) % ((2 ^ 8:Nat):Int)).toNat=C:=by omega
  rw [g1,g2]
 show IntKind.u8.wrap ((BitVec.ofInt 8 (A:Int) ^^^ BitVec.ofInt 8 (C:Int)).toNat:Int)=_
 rw [e,IntKind.wrap_u8]
 have:A ^^^ C<2 ^ 8:=Nat.xor_lt_two_pow h1 h2
 omega
theorem nX {a:Int} (ha:0<=a/\a<=255):∃ A:Nat,a=A/\A<256:=⟨a.toNat,by omega,by omega⟩
theorem xorB_xorB1 {a c:Int} (ha:0<=a/\a<=255) (hc:0<=c/\c<=255):xorB (xorB a c) c=a:=by
 obtain⟨A,rfl,hA⟩:=nX ha
 obtain⟨C,rfl,hC⟩:=nX hc
 have h1:A ^^^ C<2 ^ 8:=Nat.xor_lt_two_pow hA hC
 rw [jY hA hC,jY h1 hC,Nat.xor_assoc,Nat.xor_self,Nat.xor_zero]
theorem xorB_swap {a c d:Int} (ha:0<=a/\a<=255) (hc:0<=c/\c<=255) (hd:0<=d/\d<=255):xorB (xorB (xorB a c) d) c=xorB a d:=by
 obtain⟨A,rfl,hA⟩:=nX ha
 obtain⟨C,rfl,hC⟩:=nX hc
 obtain⟨D,rfl,hD⟩:=nX hd
 have h1:A ^^^ C<2 ^ 8:=Nat.xor_lt_two_pow hA hC
 have h2:A ^^^ C ^^^ D<2 ^ 8:=Nat.xor_lt_two_pow h1 hD
 rw [jY hA hC,jY h1 hD,jY h2 hC,jY hA hD,Nat.xor_assoc (A ^^^ C),Nat.xor_comm D C,<- Nat.xor_assoc,Nat.xor_assoc A C C,Nat.xor_self,Nat.xor_zero]
theorem jZ {n t k:Nat} {f:Nat->Int} (q j:Nat):0<=dI n f t k q j/\dI n f t k q j<=255:=gU _ _
noncomputable def dqJ (n:Nat) (f:Nat->Int) (E:Nat->Dl) (k t a1 a2:Nat) (C1 C2:Nat->Nat):Nat->Nat->AV:=fun i j=>if i=k/\j=14 then .sl 3 0 (t+1) a2 else dqG n f E (k+1) (fun i=>if i=k then a1 else C1 i) C2 i j
theorem fz_c {n k R t a1 a2 i j:Nat} {f:Nat->Int} {E:Nat->Dl} {S:Nat->Nat->Int} {C1 C2:Nat->Nat} (hE:E k=D1 n f (R+2) t S (comC n f k) k) (hj:j<26):FzV 2 ⟨32,R+1,cI S⟩ (dqI n f E k R t a1 a2 C1 C2 i j) (dqJ n f E k t a1 a2 C1 C2 i j):=by
 unfold dqI dqJ
 by_cases hik:i=k
 · subst hik
   rw [if_pos rfl]
   by_cases h14:j=14
   · subst h14;rw [if_pos ⟨rfl,rfl⟩];exact .inl rfl
   rw [if_neg (fun h=>h14 h.2)]
   unfold dqG
   rw [if_pos (Nat.lt_succ_self _)]
   unfold dlG
   rw [hE];dsimp only;rw [if_pos rfl]
   by_cases h13:j=13
   · subst h13
     exact .inr (.inr ⟨0,R+1,a1,cI S,rfl,rfl,by show 0+(R+1)<=R+1;omega,fun a b _ _=>by rw [Nat.zero_add]⟩)
   refine .inl ?_
   revert h13 h14
   revert j
   intro j hj
   refine lt26 (P:=fun j=>j ≠ 14->j ≠ 13->(dlL (D1 n f (R+2) t S (comC n f i) i) (.vsl 32 (R+2 - 1) a1 (cI S)) (.vsl 9 (t+1) (C2 i) (ptsG (comC n f i)))).getD j .un=(dlL {D0 n f i with ps:=true} (.sl 2 0 (R+1) a1) (.sl 3 0 (t+1) a2)).getD j .un) ?_ ?_ ?_ ?_ ?_ ?_ ?_ ?_ ?_ ?_ ?_ ?_ ?_ ?_ ?_ ?_ ?_ ?_ ?_ ?_ ?_ ?_ ?_ ?_ ?_ ?_ j hj
   all_goals (intro a b;first | rfl | exact absurd rfl a | exact absurd rfl b)
 · rw [if_neg hik,if_neg (fun h=>hik h.1)]
   refine .inl ?_
   unfold dqG
   by_cases h:i<k
   · rw [if_pos h,if_pos (by omega)]
     unfold dlG;simp only [if_neg hik]
   · rw [if_neg h,if_neg (by omega)]
theorem fz_d {n k R t a1 a2 i j:Nat} {f:Nat->Int} {E:Nat->Dl} {S:Nat->Nat->Int} {C1 C2:Nat->Nat} (hE:E k=D1 n f (R+2) t S (comC n f k) k) (hj:j<26):FzV 3 ⟨9,t+1,ptsG (comC n f k)⟩ (dqJ n f E k t a1 a2 C1 C2 i j) (dqG n f E (k+1) (fun i=>if i=k then a1 else C1 i) (fun i=>if i=k then a2 else C2 i) i j):=by
 unfold dqJ
 by_cases hik:i=k
 · subst hik
   by_cases h14:j=14
   · subst h14
     rw [if_pos ⟨rfl,rfl⟩]
     unfold dqG
     rw [if_pos (Nat.lt_succ_self _)]
     unfold dlG
     rw [hE];dsimp only;rw [if_pos rfl,if_pos rfl]
     exact .inr (.inr ⟨0,t+1,a2,ptsG (comC n f i),rfl,rfl,by show 0+(t+1)<=t+1;omega,fun a b _ _=>by rw [Nat.zero_add]⟩)
   rw [if_neg (fun h=>h14 h.2)]
   refine .inl ?_
   unfold dqG
   rw [if_pos (Nat.lt_succ_self _),if_pos (Nat.lt_succ_self _)]
   unfold dlG
   revert h14
   revert j
   intro j hj
   refine lt26 (P:=fun j=>j ≠ 14->(dlL (E i) (.vsl 32 (E i).ns (if i=i then a1 else C1 i) (cI (E i).S)) (.vsl 9 (E i).nc (if i=i then a2 else C2 i) (fY (E i).I (E i).X (E i).Y))).getD j .un=(dlL (E i) (.vsl 32 (E i).ns (if i=i then a1 else C1 i) (cI (E i).S)) (.vsl 9 (E i).nc (C2 i) (fY (E i).I (E i).X (E i).Y))).getD j .un) ?_ ?_ ?_ ?_ ?_ ?_ ?_ ?_ ?_ ?_ ?_ ?_ ?_ ?_ ?_ ?_ ?_ ?_ ?_ ?_ ?_ ?_ ?_ ?_ ?_ ?_ j hj
   all_goals (intro a;first | rfl | exact absurd rfl a)
 · rw [if_neg (fun h=>hik h.1)]
   refine .inl ?_
   unfold dqG
   by_cases h:i<k+1
   · rw [if_pos h,if_pos h]
     unfold dlG;simp only [if_neg hik]
   · rw [if_neg h,if_neg h]
end Go.Proofs.YtfolpdmbpbbimaaGreat
end

section
namespace Go.Proofs.YtfolpdmbpbbimaaGreat
open Go Go.Wit
theorem dqG_all {n r i j:Nat} {f:Nat->Int} {E:Nat->Dl} {C1 C2:Nat->Nat} (hi:i<r):dqG n f E r C1 C2 i j=dlG E C1 C2 i j:=if_pos hi
end Go.Proofs.YtfolpdmbpbbimaaGreat
end

section
namespace Go.Proofs.YtfolpdmbpbbimaaGreat
open Go Go.Wit
theorem nmul_G_inj {a b:Nat} (ha:a<nN) (hb:b<nN) (h:nmul a gG=nmul b gG):a=b:=by
 have h1:nmul (a+(nN - b)) gG= .inf:=by
  rw [fV crvP on_G,h,<- fV crvP on_G,show b+(nN - b)=nN by omega,<- nQ,Nat.mod_self];rfl
 obtain⟨k,hk⟩:=qU h1
 have hk1:k=1:=by
  rcases Nat.lt_or_ge k 1 with g | g
  · obtain rfl:k=0:=by omega
    omega
  · rcases Nat.lt_or_ge 1 k with g' | g'
    · have:=Nat.mul_le_mul_left nN (show 2<=k from g')
      omega
    · omega
 subst hk1
 omega
theorem tn_tn {P:Pt Fp} {a b:Int} {f:Nat->Int} {i:Nat} (hf:0<=f i/\f i<=255):tnF P a b (tnF P a b f) i=f i:=xorB_xorB1 hf (stF_lt i)
theorem oth_pl {i j:Nat} (h1:1<=i) (h2:1<=j) (hij:i ≠ j):othN i (plN i j).toNat=j:=by
 unfold othN plN
 by_cases h:(j:Int)<i
 · rw [if_pos h,if_pos (by omega)];omega
 · rw [if_neg h,if_neg (by omega)];omega
noncomputable def yS (n:Nat) (f:Nat->Int) (t i j:Nat):Nat:=sumN (coN (n+1) (sdF n f (i - 1))) j (t+1) % nN
noncomputable def KS (n:Nat) (f:Nat->Int) (i j:Nat):Pt Fp:=nmul (secN (n+1) (sdF n f (j - 1))) (PK n f (i - 1))
theorem KS_sym {n i j:Nat} {f:Nat->Int}:KS n f i j=KS n f j i:=by
 unfold KS PK
 rw [<- kA crvP on_G,<- kA crvP on_G,Nat.mul_comm]
theorem seal_at {n t i j:Nat} {f:Nat->Int} (h1:1<=i) (h2:1<=j) (hij:i ≠ j):dI n f t (i - 1) (plN i j).toNat=tnF (KS n f i j) i j (iZ (yS n f t i j)):=by
 unfold dI
 rw [show i - 1+1=i by omega,oth_pl h1 h2 hij]
 show tnF (KS n f j i) _ _ _=_
 rw [KS_sym]
 rfl
theorem yS_lt {n t i j:Nat} {f:Nat->Int}:yS n f t i j<nN:=Nat.mod_lt _ (by decide)
theorem poly_yS {n t i j:Nat} {f:Nat->Int}:polyP (comC n f (i - 1)) j (t+1)=nmul (yS n f t i j) gG:=by
 unfold yS comC
 rw [polyP_sum,nQ]
theorem ok_DP {n r t w ns k:Nat} {f sp:Nat->Int} (hr:r<=1000) (ht:t<=1000):OkD (DP n f r t w ns sp k):=by
 refine⟨xN_w _,yN_w _,show 0<w256 by decide,show 0<w256 by decide,fun k _=>xN_w _,fun k _=>yN_w _,fun q _ b _=> ?_,?_,?_⟩
 · show 0<=spS (dI n f t k) w (parB sp k ns) q b/\spS (dI n f t k) w (parB sp k ns) q b<=255
   unfold spS
   split
   · exact gU _ _
   · exact jZ _ _
 · show r - 1<=1000000;omega
 · show t+1<=1000000;omega
theorem pl_ok {R i j:Nat} (h1:1<=i) (h2:1<=j) (hij:i ≠ j) (hi:i<=R+2) (hj:j<=R+2) (hR:R<=2):plOk i j=true:=by
 simp only [plOk,isD,Bool.and_eq_true,decide_eq_true_eq,Bool.not_eq_true',beq_eq_false_iff_ne,ne_eq]
 omega
end Go.Proofs.YtfolpdmbpbbimaaGreat
end

section
namespace Go.Proofs.YtfolpdmbpbbimaaGreat
open Go Go.Wit
def wrS (q R a0:Nat) (g:Nat->Nat->AV):Nat->Nat->AV:=fun i j=>if i=0/\j=13 then .sl q 0 (R+1) a0 else g i j
theorem pO {q R a0 i j:Nat} {g:Nat->Nat->AV} (h:¬ (i=0/\j=13)):wrS q R a0 g i j=g i j:=if_neg h
theorem rF {q R a0:Nat} {g:Nat->Nat->AV}:wrS q R a0 g 0 13= .sl q 0 (R+1) a0:=if_pos ⟨rfl,rfl⟩
theorem fz_w {p q R a0 i j:Nat} {blk:Blk} {g g':Nat->Nat->AV} (h:FzV p blk (g i j) (g' i j)):FzV p blk (wrS q R a0 g i j) (wrS q R a0 g' i j):=by
 by_cases hc:i=0/\j=13
 · obtain⟨rfl,rfl⟩:=hc
   rw [rF,rF];exact .inl rfl
 · rw [pO hc,pO hc];exact h
noncomputable def dqA (n:Nat) (f:Nat->Int) (k R t a1 a2:Nat):Nat->Nat->AV:=fun i j=>if i=k then (dlL {D0 n f k with ps:=true} (.sl 1 0 (R+1) a1) (.sl 2 0 (t+1) a2)).getD j .un else dq0 n f i j
theorem dqA_rv {n k R t a1 a2 i j:Nat} {f:Nat->Int} {E:Nat->Dl} (hk:k=0) (hj:j<26):
 RV false (fun l=> [some 0,some 4,some 5].getD l none) (updG ⟨26,R+2,updG ⟨26,R+2,updG ⟨26,R+2,dqG n f E k (fun _=>0) (fun _=>0)⟩ (0+k) 12 1 [.bool true]⟩ (0+k) 13 1 [.sl 4 0 (R+1) a1]⟩ (0+k) 14 1 [.sl 5 0 (t+1) a2] i j) (dqA n f k R t a1 a2 i j):=by
 subst hk
 rw [eM (by decide),eM (by decide),eM (by decide),Nat.zero_add,dqG_zero]
 unfold dqA
 by_cases hik:i=0
 · subst hik
   simp only [true_and,if_true]
   by_cases h14:j=14
   · subst h14;rw [if_pos rfl];exact .sl _ _ _ _ _ rfl
   by_cases h13:j=13
   · subst h13;rw [if_neg h14,if_pos rfl];exact .sl _ _ _ _ _ rfl
   by_cases h12:j=12
   · subst h12;rw [if_neg h14,if_neg h13,if_pos rfl];exact .eq _ _ rfl (.bool _)
   rw [if_neg h14,if_neg h13,if_neg h12]
   unfold dq0
   revert h12 h13 h14
   revert j
   intro j hj
   refine lt26 (P:=fun j=>j ≠ 14->j ≠ 13->j ≠ 12->RV false (fun l=> [some 0,some 4,some 5].getD l none) ((dlL (D0 n f 0) .nils .nils).getD j .un) ((dlL {D0 n f 0 with ps:=true} (.sl 1 0 (R+1) a1) (.sl 2 0 (t+1) a2)).getD j .un)) ?_ ?_ ?_ ?_ ?_ ?_ ?_ ?_ ?_ ?_ ?_ ?_ ?_ ?_ ?_ ?_ ?_ ?_ ?_ ?_ ?_ ?_ ?_ ?_ ?_ ?_ j hj
   all_goals (intro a b c;first | exact absurd rfl a | exact absurd rfl b | exact absurd rfl c | exact .eq _ _ rfl (.int _ _) | exact .eq _ _ rfl (.bool _) | exact .eq _ _ rfl (.str _))
 · simp only [hik,false_and,if_false]
   exact RV.of rfl flat_dq0
theorem fz_a0 {n k R t a1 a2 i j:Nat} {f:Nat->Int} {E:Nat->Dl} {S:Nat->Nat->Int} (hk:k=0) (hE:E k=D1 n f (R+2) t S (comC n f k) k) (hj:j<26):FzV 2 ⟨9,t+1,ptsG (comC n f k)⟩ (dqA n f k R t a1 a2 i j) (wrS 1 R a1 (dqG n f E (k+1) (fun _=>a1) (fun _=>a2)) i j):=by
 subst hk
 by_cases hik:i=0
 · subst hik
   by_cases h13:j=13
   · subst h13;rw [rF];exact .inl rfl
   rw [pO (fun h=>h13 h.2)]
   unfold dqA dqG
   rw [if_pos rfl,if_pos (Nat.lt_succ_self _)]
   unfold dlG
   rw [hE]
   by_cases h14:j=14
   · subst h14
     exact .inr (.inr ⟨0,t+1,a2,ptsG (comC n f 0),rfl,rfl,by show 0+(t+1)<=t+1;omega,fun a b _ _=>by rw [Nat.zero_add]⟩)
   refine .inl ?_
   revert h13 h14
   revert j
   intro j hj
   refine lt26 (P:=fun j=>j ≠ 13->j ≠ 14->(dlL (D1 n f (R+2) t S (comC n f 0) 0) (.vsl 32 (R+2 - 1) a1 (cI S)) (.vsl 9 (t+1) a2 (ptsG (comC n f 0)))).getD j .un=(dlL {D0 n f 0 with ps:=true} (.sl 1 0 (R+1) a1) (.sl 2 0 (t+1) a2)).getD j .un) ?_ ?_ ?_ ?_ ?_ ?_ ?_ ?_ ?_ ?_ ?_ ?_ ?_ ?_ ?_ ?_ ?_ ?_ ?_ ?_ ?_ ?_ ?_ ?_ ?_ ?_ j hj
   all_goals (intro a b;first | rfl | exact absurd rfl a | exact absurd rfl b)
 · rw [pO (fun h=>hik h.1)]
   unfold dqA dqG
   rw [if_neg hik,if_neg (by omega)]
   exact .inl rfl
theorem dqW_rv {n k R t a0 a1 a2 i j:Nat} {f:Nat->Int} {E:Nat->Dl} {C1 C2:Nat->Nat} (hk:1<=k) (hj:j<26):
 RV false (fun l=> [some 0,some 1,some 5,some 6].getD l none) (updG ⟨26,R+2,updG ⟨26,R+2,updG ⟨26,R+2,wrS 1 R a0 (dqG n f E k C1 C2)⟩ (0+k) 12 1 [.bool true]⟩ (0+k) 13 1 [.sl 5 0 (R+1) a1]⟩ (0+k) 14 1 [.sl 6 0 (t+1) a2] i j) (wrS 1 R a0 (dqI n f E k R t a1 a2 C1 C2) i j):=by
 by_cases hc:i=0/\j=13
 · obtain⟨rfl,rfl⟩:=hc
   rw [eM (by decide),eM (by decide),eM (by decide),if_neg (by omega),if_neg (by omega),if_neg (by omega),rF,rF]
   exact .sl _ _ _ _ _ rfl
 · have h:=dqI_rv (n:=n) (k:=k) (R:=R) (t:=t) (a1:=a1) (a2:=a2) (i:=i) (j:=j) (f:=f) (E:=E) (C1:=C1) (C2:=C2) hj
   rw [eM (by decide),eM (by decide),eM (by decide)]at h
   rw [eM (by decide),eM (by decide),eM (by decide),pO hc,pO hc]
   exact h
theorem shows_dqW {m:Mem} {l l2 r c n k N R a0:Nat} {f:Nat->Int} {E:Nat->Dl} {C1 C2:Nat->Nat} (h:m[l]? = some (some ⟨26,N,wrS l2 R a0 (dqG n f E k C1 C2)⟩)) (h2:m[l2]? = some (some ⟨32,R+1,cI (E 0).S⟩)) (hn:(E 0).ns=R+1) (hk:1<=k) (hr:r<=N):iP m (.sl l 0 r c) r (Dm n f E k):=by
 refine⟨c,fun i=>if i=0 then a0 else if i<k then C1 i else 0,fun i=>if i<k then C2 i else 0,?_⟩
 refine Lend.slR l 0 r c ⟨26,N,wrS l2 R a0 (dqG n f E k C1 C2)⟩ _ (List.mem_range.2 (bB h)) h (by show 0+r<=N;omega) (fun i j hi hj=> ?_)
 rw [Nat.zero_add]
 show Lend _ _ _ (wrS l2 R a0 (dqG n f E k C1 C2) i j) _
 by_cases hc:i=0/\j=13
 · obtain⟨rfl,rfl⟩:=hc
   rw [rF]
   have e:dlG (Dm n f E k) (fun i=>if i=0 then a0 else if i<k then C1 i else 0) (fun i=>if i<k then C2 i else 0) 0 13= .vsl 32 (R+1) a0 (cI (E 0).S):=by
    unfold dlG Dm;simp only [if_pos (show 0<k by omega),if_true];rw [hn];rfl
   rw [e]
   exact Lend.sl l2 0 (R+1) a0 ⟨32,R+1,cI (E 0).S⟩ _ (List.mem_range.2 (bB h2)) h2 (by show 0+(R+1)<=R+1;omega) (fun i j _ _=>⟨by rw [Nat.zero_add],dF⟩)
 rw [pO hc]
 unfold dqG
 by_cases hik:i<k
 · rw [if_pos hik]
   have e:dlG (Dm n f E k) (fun i=>if i=0 then a0 else if i<k then C1 i else 0) (fun i=>if i<k then C2 i else 0) i j=dlG E (fun q=>if q=0 then a0 else C1 q) C2 i j:=by
    unfold dlG Dm;simp only [if_pos hik]
   rw [e]
   by_cases hi0:i=0
   · subst hi0
     have hj13:j ≠ 13:=fun h=>hc ⟨rfl,h⟩
     have:dlG E (fun q=>if q=0 then a0 else C1 q) C2 0 j=dlG E C1 C2 0 j:=by
      unfold dlG
      revert hj13
      replace hj:j<26:=hj
      refine lt26 (P:=fun j=>j ≠ 13->(dlL (E 0) (.vsl 32 (E 0).ns (if 0=0 then a0 else C1 0) (cI (E 0).S)) (.vsl 9 (E 0).nc (C2 0) (fY (E 0).I (E 0).X (E 0).Y))).getD j .un=(dlL (E 0) (.vsl 32 (E 0).ns (C1 0) (cI (E 0).S)) (.vsl 9 (E 0).nc (C2 0) (fY (E 0).I (E 0).X (E 0).Y))).getD j .un) ?_ ?_ ?_ ?_ ?_ ?_ ?_ ?_ ?_ ?_ ?_ ?_ ?_ ?_ ?_ ?_ ?_ ?_ ?_ ?_ ?_ ?_ ?_ ?_ ?_ ?_ j hj
      all_goals (intro a;first | rfl | exact absurd rfl a)
     rw [this]
     exact aG lR
   · have:dlG E (fun q=>if q=0 then a0 else C1 q) C2 i j=dlG E C1 C2 i j:=by
      unfold dlG;simp only [if_neg hi0]
     rw [this]
     exact aG lR
 · rw [if_neg hik]
   have e:dlG (Dm n f E k) (fun i=>if i=0 then a0 else if i<k then C1 i else 0) (fun i=>if i<k then C2 i else 0) i j=(dlL (D0 n f i) (.vsl 32 0 0 (cI (D0 n f i).S)) (.vsl 9 0 0 (fY (D0 n f i).I (D0 n f i).X (D0 n f i).Y))).getD j .un:=by
    unfold dlG Dm;simp only [if_neg hik,if_neg (show ¬ i=0 by omega)];rfl
   rw [e]
   replace hj:j<26:=hj
   clear e hc
   revert j
   intro j hj
   refine lt26 (P:=fun j=>Lend _ _ _ ((dlL (D0 n f i) .nils .nils).getD j .un) ((dlL (D0 n f i) (.vsl 32 0 0 (cI (D0 n f i).S)) (.vsl 9 0 0 (fY (D0 n f i).I (D0 n f i).X (D0 n f i).Y))).getD j .un)) ?_ ?_ ?_ ?_ ?_ ?_ ?_ ?_ ?_ ?_ ?_ ?_ ?_ ?_ ?_ ?_ ?_ ?_ ?_ ?_ ?_ ?_ ?_ ?_ ?_ ?_ j hj
   all_goals first
    | exact .nils _ _
    | exact .rv _ _ (.eq _ _ rfl (.int _ _))
    | exact .rv _ _ (.eq _ _ rfl (.bool _))
    | exact .rv _ _ (.eq _ _ rfl (.str _))
theorem wr_self {σ:Nat->Option Nat} {n k R a0 i j:Nat} {f:Nat->Int} {E:Nat->Dl} {C1 C2:Nat->Nat} (hσ:σ 1=some 1):RV false σ (wrS 1 R a0 (dqG n f E k C1 C2) i j) (wrS 1 R a0 (dqG n f E k C1 C2) i j):=by
 by_cases hc:i=0/\j=13
 · obtain⟨rfl,rfl⟩:=hc
   rw [rF];exact .sl _ _ _ _ _ hσ
 · rw [pO hc];exact RV.of rfl flat_dqG
noncomputable abbrev DQ (n:Nat) (f:Nat->Int) (r t:Nat):Nat->Dl:=DP n f r t 0 0 (fun _=>0)
theorem DQ_S {n r t k:Nat} {f:Nat->Int}:(DQ n f r t k).S=dI n f t k:=spS_no (w:=0)
theorem DQ_eq {n r t k:Nat} {f:Nat->Int}:DQ n f r t k=D1 n f r t (dI n f t k) (comC n f k) k:=by
 show D1 n f r t (spS (dI n f t k) 0 false) (comC n f k) k=_
 rw [spS_no]
set_option maxHeartbeats 4000000 in
theorem S_PostedS0 (R t n cap:Nat) (f:Nat->Int) (whom:Int) (hR:R<=2) (ht:t<64) (hn:n<=100) (hf:∀ i,i<n->0<=f i/\f i<=255):
 ACall Pg fL [.int .i64 (R+2:Nat),.int .i64 t,.vsl 1 n cap (aB f),.nils,.int .i64 whom] []
  (fun v m'=>∃ c a0 C1 C2,v= .sl 0 0 (R+2) c/\m'[0]? = some (some ⟨26,R+2,wrS 1 R a0 (dqG n f (DQ n f (R+2) t) (R+2) C1 C2)⟩)/\m'[1]? = some (some ⟨32,R+1,cI (dI n f t 0)⟩)):=by
 refine sJ ⟨rfl,?_⟩
 conv=>whnf
 repeat (refine⟨⟨_,rfl⟩,?_⟩;conv=>whnf)
 refine aT aJ (I:=fun q l m=>∃ k c':Nat,q+k=R+2/\l= [(0,.int .i64 (R+2:Nat)),(1,.int .i64 t),(2,.vsl 1 n cap (aB f)),(3,.nils),(4,.int .i64 whom),(11,.sl 0 0 k c'),(12,.int .i64 k)] /\ m= [some ⟨26,k,dq0 n f⟩]) (R+2)
  (l0:= [(0,.int .i64 (R+2:Nat)),(1,.int .i64 t),(2,.vsl 1 n cap (aB f)),(3,.nils),(4,.int .i64 whom),(11,.sl 0 0 0 0),(12,.int .i64 (0:Nat))]) (m0:= [some ⟨26,0,dq0 n f⟩]) [none] ⟨0,0,rfl,rfl,rfl⟩ ?_ ?_
 · exact .mk0 ⟨Flat.i rfl,Flat.i rfl,.eq _ _ rfl bF,.eq _ _ rfl .nils,Flat.i rfl,.nils _ _,Flat.i rfl,trivial⟩ ⟨.ph _ _ _ rfl,trivial⟩ rfl rfl
 · rintro q l m ⟨k,c',hq,rfl,rfl⟩
   conv=>whnf
   repeat (refine⟨⟨_,rfl⟩,?_⟩;conv=>whnf)
   refine aE (fun hb=> ?_) (fun hb=> ?_)
   · have hb:k<R+2:=by simp at hb;omega
     have e5:IntKind.i64.wrap ((k:Int)+1)=((k+1:Nat):Int):=by rw [w64 (by omega) (by omega)];omega
     conv=>whnf
     repeat (refine⟨⟨_,rfl⟩,?_⟩;conv=>whnf)
     refine xI (n:=n) (f:=f) aQ.vsl (by omega) (fun cap1=> ?_)
     conv=>whnf
     repeat (refine⟨⟨_,rfl⟩,?_⟩;conv=>whnf)
     refine aA (bQ (by first | rfl | simp) rfl rfl (by omega) (by omega)) (fun cap2 hcap2=> ?_)
     conv=>whnf
     repeat (refine⟨⟨_,rfl⟩,?_⟩;conv=>whnf)
     refine S_RSecret (n:=n+1) (f:=sdF n f k) (aQ.slG rfl (Nat.le_of_eq (Nat.zero_add _)) fun i hi=> ?_) (by omega) (kO hf (by omega)) (fun a ha ha1 _=> ?_)
     · rw [show 0+i=i from Nat.zero_add i]
       exact iJ (by omega) hi rfl rfl
     conv=>whnf
     repeat (refine⟨⟨_,rfl⟩,?_⟩;conv=>whnf)
     refine T_RBase (n:=a) (Nat.lt_trans ha1 (by decide)) (fun P oP hP=> ?_)
     obtain rfl:P=PK n f k:=by rw [hP,ha];rfl
     conv=>whnf
     repeat (refine⟨⟨_,rfl⟩,?_⟩;conv=>whnf)
     refine aA (bQ (by first | rfl | simp) rfl rfl (by omega) (by omega)) (fun cap3 hcap3=> ?_)
     conv=>whnf
     repeat (refine⟨⟨_,rfl⟩,?_⟩;conv=>whnf)
     refine⟨q - 1,[(0,.int .i64 (R+2:Nat)),(1,.int .i64 t),(2,.vsl 1 n cap (aB f)),(3,.nils),(4,.int .i64 whom),(11,.sl 0 0 (k+1) cap3),(12,.int .i64 ((k+1:Nat):Int))],[some ⟨26,k+1,dq0 n f⟩],[some 5],by omega,⟨k+1,cap3,by omega,rfl,rfl⟩,?_⟩
     refine .mk0 ⟨Flat.i rfl,Flat.i rfl,.eq _ _ rfl bF,.eq _ _ rfl .nils,Flat.i rfl,.sl _ _ _ _ _ rfl,Flat.i e5,trivial⟩ ⟨.old 0 5 _ _ rfl rfl ⟨rfl,Nat.le_refl _,fun i j hi hj=>RV.of ?_ flat_dq0⟩,trivial⟩ rfl rfl
     replace hi:i<k+1:=hi
     replace hj:j<26:=hj
     dsimp only
     by_cases hik:i<k
     · rw [cU hik]
     · obtain rfl:i=k:=by omega
       rw [bK (Nat.le_refl _),Nat.sub_self]
       clear hi hik
       revert j
       refine lt26 ?_ ?_ ?_ ?_ ?_ ?_ ?_ ?_ ?_ ?_ ?_ ?_ ?_ ?_ ?_ ?_ ?_ ?_ ?_ ?_ ?_ ?_ ?_ ?_ ?_ ?_
       all_goals first
        | rfl
        | exact congrArg (AV.int IntKind.u64) (lim0 _).symm
   · have hb:k=R+2:=by simp at hb;omega
     subst hb
     conv=>whnf
     repeat (refine⟨⟨_,rfl⟩,?_⟩;conv=>whnf)
     refine loop_fz aJ (I:=fun q l m=>∃ (k c:Nat),q+k=R+2/\l= [(0,.int .i64 (R+2:Nat)),(1,.int .i64 t),(2,.vsl 1 n cap (aB f)),(3,.nils),(4,.int .i64 whom),(11,.sl 0 0 (R+2) c),(14,.int .i64 k)] /\
      ((k=0/\m= [some ⟨26,R+2,dqG n f (DQ n f (R+2) t) k (fun _=>0) (fun _=>0)⟩])\/(1<=k/\∃ (a0:Nat) (C1 C2:Nat->Nat),m= [some ⟨26,R+2,wrS 1 R a0 (dqG n f (DQ n f (R+2) t) k C1 C2)⟩,some ⟨32,R+1,cI (dI n f t 0)⟩]))) (R+2)
      (l0:= [(0,.int .i64 (R+2:Nat)),(1,.int .i64 t),(2,.vsl 1 n cap (aB f)),(3,.nils),(4,.int .i64 whom),(11,.sl 0 0 (R+2) c'),(14,.int .i64 (0:Nat))]) (m0:= [some ⟨26,R+2,dqG n f (DQ n f (R+2) t) 0 (fun _=>0) (fun _=>0)⟩]) [some 0] ⟨0,c',rfl,rfl,.inl ⟨rfl,rfl⟩⟩ ?_ ?_
     · exact .mk0 ⟨Flat.i rfl,Flat.i rfl,.eq _ _ rfl bF,.eq _ _ rfl .nils,Flat.i rfl,.sl _ _ _ _ _ rfl,Flat.i rfl,trivial⟩ ⟨.old 0 0 _ _ rfl rfl ⟨rfl,Nat.le_refl _,fun i j hi hj=>RV.of (dqG_zero (n:=n) (f:=f) (E:=DQ n f (R+2) t) (C1:=fun _=>0) (C2:=fun _=>0)).symm (by dsimp only;exact flat_dqG)⟩,trivial⟩ rfl rfl
     · rintro q0 l m ⟨k,c,hq,rfl,hm⟩
       rcases hm with⟨hk0,rfl⟩ | ⟨hk1,a0,C1,C2,rfl⟩
       · conv=>whnf
         repeat (refine⟨⟨_,rfl⟩,?_⟩;conv=>whnf)
         refine aE (fun hb=> ?_) (fun hb=> ?_)
         · have hb:k<R+2:=by simp at hb;omega
           have e5:IntKind.i64.wrap ((k:Int)+1)=((k+1:Nat):Int):=by rw [w64 (by omega) (by omega)];omega
           conv=>whnf
           repeat (refine⟨⟨_,rfl⟩,?_⟩;conv=>whnf)
           refine xI (n:=n) (f:=f) aQ.vsl (by omega) (fun cap1=> ?_)
           conv=>whnf
           repeat (refine⟨⟨_,rfl⟩,?_⟩;conv=>whnf)
           refine aA (bQ (by first | rfl | simp) rfl rfl (by omega) (by omega)) (fun cap2 hcap2=> ?_)
           conv=>whnf
           repeat (refine⟨⟨_,rfl⟩,?_⟩;conv=>whnf)
           rw [e5]
           refine S_RPost (n:=n+1) (f:=sdF n f k) (t:=t) (r:=R+2) (D:=Dm n f (DQ n f (R+2) t) k) (me:=k+1) (R+1) rfl (aQ.slG rfl (Nat.le_of_eq (Nat.zero_add _)) fun i hi=> ?_) (shows_dq rfl (Nat.le_refl _)) (by omega) ht (kO hf (by omega)) (by omega) (by omega) (fun i hi=> ?_) (fun S P a1 a2 hS hP=> ?_)
           · rw [show 0+i=i from Nat.zero_add i]
             exact iJ (by omega) hi rfl rfl
           · obtain⟨g1,g2,g3,g4⟩:=Dm_pt (k:=k) (i:=i) (DP_pt (n:=n) (f:=f) (r:=R+2) (t:=t) (w:=0) (ns:=0) (sp:=fun _=>0))
             exact⟨by rw [g1];exact tW,by rw [g1];exact g2,g3,g4⟩
           have hS:S=dI n f t k:=hS.trans (seal_Dm (fun i=>(DP_pt i).1))
           have hP:P=comC n f k:=hP
           conv=>whnf
           repeat (refine⟨⟨_,rfl⟩,?_⟩;conv=>whnf)
           refine aA (by simp only [Bool.and_eq_true,decide_eq_true_eq];omega) ?_
           conv=>whnf
           repeat (refine⟨⟨_,rfl⟩,?_⟩;conv=>whnf)
           refine aA (by simp [bI,Nat.ble_eq];omega) ?_
           conv=>whnf
           repeat (refine⟨⟨_,rfl⟩,?_⟩;conv=>whnf)
           refine aA (by simp only [Bool.and_eq_true,decide_eq_true_eq];omega) ?_
           conv=>whnf
           repeat (refine⟨⟨_,rfl⟩,?_⟩;conv=>whnf)
           refine aA (by simp [bI,Nat.ble_eq];omega) ?_
           conv=>whnf
           repeat (refine⟨⟨_,rfl⟩,?_⟩;conv=>whnf)
           refine aA (by simp only [Bool.and_eq_true,decide_eq_true_eq];omega) ?_
           conv=>whnf
           repeat (refine⟨⟨_,rfl⟩,?_⟩;conv=>whnf)
           refine aA (by simp [bI,Nat.ble_eq];omega) ?_
           conv=>whnf
           repeat (refine⟨⟨_,rfl⟩,?_⟩;conv=>whnf)
           refine aT aJ (I:=fun q l m=>l= [(0,.int .i64 (R+2:Nat)),(1,.int .i64 t),(2,.vsl 1 n cap (aB f)),(3,.nils),(4,.int .i64 whom),(11,.sl 0 0 (R+2) c),(14,.int .i64 k),(18,.int .i64 (0:Nat))] /\ m= [some ⟨26,R+2,dqA n f k R t a1 a2⟩,some ⟨32,R+1,cI (dI n f t k)⟩,some ⟨9,t+1,ptsG (comC n f k)⟩]) 0
            (l0:= [(0,.int .i64 (R+2:Nat)),(1,.int .i64 t),(2,.vsl 1 n cap (aB f)),(3,.nils),(4,.int .i64 whom),(11,.sl 0 0 (R+2) c),(14,.int .i64 k),(18,.int .i64 (0:Nat))]) (m0:= [some ⟨26,R+2,dqA n f k R t a1 a2⟩,some ⟨32,R+1,cI (dI n f t k)⟩,some ⟨9,t+1,ptsG (comC n f k)⟩]) [some 0,some 4,some 5] ⟨rfl,rfl⟩ ?_ ?_
           · refine .mk0 ⟨Flat.i rfl,Flat.i rfl,.eq _ _ rfl bF,.eq _ _ rfl .nils,Flat.i rfl,.sl _ _ _ _ _ rfl,Flat.i rfl,Flat.i rfl,trivial⟩ ⟨.old 0 0 _ _ rfl rfl ⟨rfl,Nat.le_refl _,fun i j hi hj=>dqA_rv hk0 hj⟩,.old 1 4 _ _ rfl rfl ⟨rfl,Nat.le_refl _,fun i j hi hj=> .eq _ _ ?_ dF⟩,.old 2 5 _ _ rfl rfl ⟨rfl,Nat.le_refl _,fun i j hi hj=> .eq _ _ ?_ bZ⟩,trivial⟩ rfl rfl
             · show cI S i j=_
               rw [hS]
             · show ptsG P i j=_
               rw [hP]
           · rintro q l m ⟨rfl,rfl⟩
             conv=>whnf
             repeat (refine⟨⟨_,rfl⟩,?_⟩;conv=>whnf)
             refine⟨q0 - 1,[(0,.int .i64 (R+2:Nat)),(1,.int .i64 t),(2,.vsl 1 n cap (aB f)),(3,.nils),(4,.int .i64 whom),(11,.sl 0 0 (R+2) c),(14,.int .i64 ((k+1:Nat):Int))],[some ⟨26,R+2,wrS 1 R a1 (dqG n f (DQ n f (R+2) t) (k+1) (fun _=>a1) (fun _=>a2))⟩,some ⟨32,R+1,cI (dI n f t k)⟩,none],[some ⟨26,R+2,wrS 1 R a1 (dqG n f (DQ n f (R+2) t) (k+1) (fun _=>a1) (fun _=>a2))⟩,some ⟨32,R+1,cI (dI n f t 0)⟩],[some 0,some 1],by omega,⟨k+1,c,by omega,rfl,.inr ⟨by omega,a1,_,_,rfl⟩⟩,?_,?_⟩
             · exact .step 2 _ _ [some ⟨26,R+2,wrS 1 R a1 (dqG n f (DQ n f (R+2) t) (k+1) (fun _=>a1) (fun _=>a2))⟩,some ⟨32,R+1,cI (dI n f t k)⟩,none] _ rfl (.c (.inr ⟨by decide,_,_,rfl,rfl,rfl,Nat.le_refl _,fun i j hi hj=>fz_a0 hk0 DQ_eq hj⟩) (.c (.inr ⟨by decide,_,_,rfl,rfl,rfl,Nat.le_refl _,fun i j _ _=> .inl rfl⟩) (.c (.inl rfl) .n))) (.refl _)
             · exact .mk0 ⟨Flat.i rfl,Flat.i rfl,.eq _ _ rfl bF,.eq _ _ rfl .nils,Flat.i rfl,.sl _ _ _ _ _ rfl,Flat.i e5,trivial⟩ ⟨.old 0 0 _ _ rfl rfl ⟨rfl,Nat.le_refl _,fun i j hi hj=>wr_self rfl⟩,.old 1 1 _ _ rfl rfl ⟨rfl,Nat.le_refl _,fun i j hi hj=>RV.of (by rw [hk0]) dF⟩,trivial⟩ rfl rfl
         · have hb:k=R+2:=by simp at hb;omega
           exact absurd hk0 (by omega)
       · conv=>whnf
         repeat (refine⟨⟨_,rfl⟩,?_⟩;conv=>whnf)
         refine aE (fun hb=> ?_) (fun hb=> ?_)
         · have hb:k<R+2:=by simp at hb;omega
           have e5:IntKind.i64.wrap ((k:Int)+1)=((k+1:Nat):Int):=by rw [w64 (by omega) (by omega)];omega
           conv=>whnf
           repeat (refine⟨⟨_,rfl⟩,?_⟩;conv=>whnf)
           refine xI (n:=n) (f:=f) aQ.vsl (by omega) (fun cap1=> ?_)
           conv=>whnf
           repeat (refine⟨⟨_,rfl⟩,?_⟩;conv=>whnf)
           refine aA (bQ (by first | rfl | simp) rfl rfl (by omega) (by omega)) (fun cap2 hcap2=> ?_)
           conv=>whnf
           repeat (refine⟨⟨_,rfl⟩,?_⟩;conv=>whnf)
           rw [e5]
           refine S_RPost (n:=n+1) (f:=sdF n f k) (t:=t) (r:=R+2) (D:=Dm n f (DQ n f (R+2) t) k) (me:=k+1) (R+1) rfl (aQ.slG rfl (Nat.le_of_eq (Nat.zero_add _)) fun i hi=> ?_) (shows_dqW (l2:=1) (a0:=a0) rfl (by rw [DQ_S];rfl) rfl hk1 (Nat.le_refl _)) (by omega) ht (kO hf (by omega)) (by omega) (by omega) (fun i hi=> ?_) (fun S P a1 a2 hS hP=> ?_)
           · rw [show 0+i=i from Nat.zero_add i]
             exact iJ (by omega) hi rfl rfl
           · obtain⟨g1,g2,g3,g4⟩:=Dm_pt (k:=k) (i:=i) (DP_pt (n:=n) (f:=f) (r:=R+2) (t:=t) (w:=0) (ns:=0) (sp:=fun _=>0))
             exact⟨by rw [g1];exact tW,by rw [g1];exact g2,g3,g4⟩
           have hS:S=dI n f t k:=hS.trans (seal_Dm (fun i=>(DP_pt i).1))
           have hP:P=comC n f k:=hP
           conv=>whnf
           repeat (refine⟨⟨_,rfl⟩,?_⟩;conv=>whnf)
           refine aA (by simp only [Bool.and_eq_true,decide_eq_true_eq];omega) ?_
           conv=>whnf
           repeat (refine⟨⟨_,rfl⟩,?_⟩;conv=>whnf)
           refine aA (by simp [bI,Nat.ble_eq];omega) ?_
           conv=>whnf
           repeat (refine⟨⟨_,rfl⟩,?_⟩;conv=>whnf)
           refine aA (by simp only [Bool.and_eq_true,decide_eq_true_eq];omega) ?_
           conv=>whnf
           repeat (refine⟨⟨_,rfl⟩,?_⟩;conv=>whnf)
           refine aA (by simp [bI,Nat.ble_eq];omega) ?_
           conv=>whnf
           repeat (refine⟨⟨_,rfl⟩,?_⟩;conv=>whnf)
           refine aA (by simp only [Bool.and_eq_true,decide_eq_true_eq];omega) ?_
           conv=>whnf
           repeat (refine⟨⟨_,rfl⟩,?_⟩;conv=>whnf)
           refine aA (by simp [bI,Nat.ble_eq];omega) ?_
           conv=>whnf
           repeat (refine⟨⟨_,rfl⟩,?_⟩;conv=>whnf)
           refine aT aJ (I:=fun q l m=>l= [(0,.int .i64 (R+2:Nat)),(1,.int .i64 t),(2,.vsl 1 n cap (aB f)),(3,.nils),(4,.int .i64 whom),(11,.sl 0 0 (R+2) c),(14,.int .i64 k),(18,.int .i64 (0:Nat))] /\ m= [some ⟨26,R+2,wrS 1 R a0 (dqI n f (DQ n f (R+2) t) k R t a1 a2 C1 C2)⟩,some ⟨32,R+1,cI (dI n f t 0)⟩,some ⟨32,R+1,cI (dI n f t k)⟩,some ⟨9,t+1,ptsG (comC n f k)⟩]) 0
            (l0:= [(0,.int .i64 (R+2:Nat)),(1,.int .i64 t),(2,.vsl 1 n cap (aB f)),(3,.nils),(4,.int .i64 whom),(11,.sl 0 0 (R+2) c),(14,.int .i64 k),(18,.int .i64 (0:Nat))]) (m0:= [some ⟨26,R+2,wrS 1 R a0 (dqI n f (DQ n f (R+2) t) k R t a1 a2 C1 C2)⟩,some ⟨32,R+1,cI (dI n f t 0)⟩,some ⟨32,R+1,cI (dI n f t k)⟩,some ⟨9,t+1,ptsG (comC n f k)⟩]) [some 0,some 1,some 5,some 6] ⟨rfl,rfl⟩ ?_ ?_
           · refine .mk0 ⟨Flat.i rfl,Flat.i rfl,.eq _ _ rfl bF,.eq _ _ rfl .nils,Flat.i rfl,.sl _ _ _ _ _ rfl,Flat.i rfl,Flat.i rfl,trivial⟩ ⟨.old 0 0 _ _ rfl rfl ⟨rfl,Nat.le_refl _,fun i j hi hj=>dqW_rv hk1 hj⟩,.old 1 1 _ _ rfl rfl ⟨rfl,Nat.le_refl _,fun i j hi hj=> .eq _ _ rfl dF⟩,.old 2 5 _ _ rfl rfl ⟨rfl,Nat.le_refl _,fun i j hi hj=> .eq _ _ ?_ dF⟩,.old 3 6 _ _ rfl rfl ⟨rfl,Nat.le_refl _,fun i j hi hj=> .eq _ _ ?_ bZ⟩,trivial⟩ rfl rfl
             · show cI S i j=_
               rw [hS]
             · show ptsG P i j=_
               rw [hP]
           · rintro q l m ⟨rfl,rfl⟩
             conv=>whnf
             repeat (refine⟨⟨_,rfl⟩,?_⟩;conv=>whnf)
             refine⟨q0 - 1,[(0,.int .i64 (R+2:Nat)),(1,.int .i64 t),(2,.vsl 1 n cap (aB f)),(3,.nils),(4,.int .i64 whom),(11,.sl 0 0 (R+2) c),(14,.int .i64 ((k+1:Nat):Int))],[some ⟨26,R+2,wrS 1 R a0 (dqG n f (DQ n f (R+2) t) (k+1) (fun i=>if i=k then a1 else C1 i) (fun i=>if i=k then a2 else C2 i))⟩,some ⟨32,R+1,cI (dI n f t 0)⟩,none,none],[some ⟨26,R+2,wrS 1 R a0 (dqG n f (DQ n f (R+2) t) (k+1) (fun i=>if i=k then a1 else C1 i) (fun i=>if i=k then a2 else C2 i))⟩,some ⟨32,R+1,cI (dI n f t 0)⟩],[some 0,some 1],by omega,⟨k+1,c,by omega,rfl,.inr ⟨by omega,a0,_,_,rfl⟩⟩,?_,?_⟩
             · refine .step 2 _ _ [some ⟨26,R+2,wrS 1 R a0 (dqJ n f (DQ n f (R+2) t) k t a1 a2 C1 C2)⟩,some ⟨32,R+1,cI (dI n f t 0)⟩,none,some ⟨9,t+1,ptsG (comC n f k)⟩] _ rfl (.c (.inr ⟨by decide,_,_,rfl,rfl,rfl,Nat.le_refl _,fun i j hi hj=>fz_w (fz_c DQ_eq hj)⟩) (.c (.inr ⟨by decide,_,_,rfl,rfl,rfl,Nat.le_refl _,fun i j _ _=> .inl rfl⟩) (.c (.inl rfl) (.c (.inr ⟨by decide,_,_,rfl,rfl,rfl,Nat.le_refl _,fun i j _ _=> .inl rfl⟩) .n)))) ?_
               exact .step 3 _ _ [some ⟨26,R+2,wrS 1 R a0 (dqG n f (DQ n f (R+2) t) (k+1) (fun i=>if i=k then a1 else C1 i) (fun i=>if i=k then a2 else C2 i))⟩,some ⟨32,R+1,cI (dI n f t 0)⟩,none,none] _ rfl (.c (.inr ⟨by decide,_,_,rfl,rfl,rfl,Nat.le_refl _,fun i j hi hj=>fz_w (fz_d DQ_eq hj)⟩) (.c (.inr ⟨by decide,_,_,rfl,rfl,rfl,Nat.le_refl _,fun i j _ _=> .inl rfl⟩) (.c (.inl rfl) (.c (.inl rfl) .n)))) (.refl _)
             · exact .mk0 ⟨Flat.i rfl,Flat.i rfl,.eq _ _ rfl bF,.eq _ _ rfl .nils,Flat.i rfl,.sl _ _ _ _ _ rfl,Flat.i e5,trivial⟩ ⟨.old 0 0 _ _ rfl rfl ⟨rfl,Nat.le_refl _,fun i j hi hj=>wr_self rfl⟩,.old 1 1 _ _ rfl rfl ⟨rfl,Nat.le_refl _,fun i j hi hj=>RV.of rfl dF⟩,trivial⟩ rfl rfl
         · have hb:k=R+2:=by simp at hb;omega
           subst hb
           conv=>whnf
           repeat (refine⟨⟨_,rfl⟩,?_⟩;conv=>whnf)
           exact⟨c,a0,C1,C2,rfl,rfl,rfl⟩
end Go.Proofs.YtfolpdmbpbbimaaGreat
end

section
namespace Go.Proofs.YtfolpdmbpbbimaaGreat
open Go Go.Wit
def vI (d:Dl):Prop:= ∃ P,On P/\rawA d.i d.x d.y=ptA P
theorem vI.pt {d:Dl} (h:vI d):On (ptOf d)/\rawA d.i d.x d.y=ptA (ptOf d):=by
 obtain⟨P,oP,eP⟩:=h
 rw [ptOf_eq oP eP]
 exact⟨oP,eP⟩
theorem vI.bad {d:Dl} (h:¬ vI d):Bad d.i d.x d.y:=fun P oP eP=>h ⟨P,oP,eP⟩
theorem vI.not {d:Dl} (h:Bad d.i d.x d.y):¬ vI d:=fun ⟨P,oP,eP⟩=>h P oP eP
theorem flat_act0E {e:Int}:Flat true (.tup [act0,.int .i64 e]):=qD
end Go.Proofs.YtfolpdmbpbbimaaGreat
end

section
namespace Go.Proofs.YtfolpdmbpbbimaaGreat
open Go Go.Wit
theorem first_bad {d:Dl} (h:¬ comP d):∃ b,b<d.nc/\Bad (d.I b) (d.X b) (d.Y b)/\∀ k,k<b->∃ P,On P/\rawA (d.I k) (d.X k) (d.Y k)=ptA P:=by
  obtain⟨b,hb,hbad⟩:=exBad h
  induction b using Nat.strongRecOn with
  | _ b ih =>
    by_cases hh:∃ k,k<b/\Bad (d.I k) (d.X k) (d.Y k)
    · obtain⟨k,hk,hkb⟩:=hh
      exact ih k hk (by omega) hkb
    · exact⟨b,hb,hbad,fun k hk=>Classical.byContradiction fun hn=>hh ⟨k,hk,fun P oP eP=>hn ⟨P,oP,eP⟩⟩⟩
theorem S_KeyE_bad {m:Mem} {K:AV->Mem->Prop} {v w:AV} {n:Nat} {i:Bool} {x y:Nat} (hv:v=numA n) (hw:w=rawA i x y) (hx:x<w256) (hy:y<w256) (hb:Bad i x y) (h:K (.tup [noPt,.int .i64 3]) m):ACall Pg kK [v,w] m K:=by
 subst hv hw
 have h0:ACall Pg kK [numA n,rawA i x y] [] (fun v _=>v= .tup [noPt,.int .i64 3] /\ Flat true v):=by
  refine B_pair_Key ⟨rfl,?_⟩
  conv=>whnf
  repeat (refine⟨⟨_,rfl⟩,?_⟩;conv=>whnf)
  refine S_Times_bad (n:=n) hx hy hb ?_
  conv=>whnf
  repeat (refine⟨⟨_,rfl⟩,?_⟩;conv=>whnf)
  exact⟨rfl,.tup _ (.cons _ _ (flat_no _) (.cons _ _ (.int _ _) .nil))⟩
 refine aD h0 (.cons _ _ _ _ aF (.cons _ _ _ _ (aG cG) .nil)) ?_
 rintro v rfl
 exact h
theorem S_FitsD_bad {m:Mem} {K:AV->Mem->Prop} {v w u:AV} {d:Dl} {c x y:Nat} (hv:v= .vsl 9 d.nc c (fY d.I d.X d.Y)) (hw:w=numA x) (hu:u=numA y) (hd:¬ comP d) (ok:OkD d) (hn:d.nc<=64) (h:K (.tup [.bool false,.int .i64 3]) m):ACall Pg gE [v,w,u] m K:=by
 subst hv hw hu
 obtain⟨b,hb,hbad,hg⟩:=first_bad hd
 exact S_Fits_bad (n:=d.nc) (I:=d.I) (X:=d.X) (Y:=d.Y) (.vsl fun i j _ _=>tJ) ok.2.2.2.2.1 ok.2.2.2.2.2.1 hb hbad hg hn h
def hasS (r:Nat) (D:Nat->Dl) (i j:Int):Prop:=i<=r/\j<=r/\(D (i.toNat - 1)).ps=true/\plN i j<(D (i.toNat - 1)).ns
noncomputable def shrQ (s:Nat) (D:Nat->Dl) (i:Int):Pt Fp:=nmul s (ptOf (D (i.toNat - 1)))
noncomputable def shrB (D:Nat->Dl) (i j:Int) (Q:Pt Fp):Bool:=by
 classical
 exact decide (fitV D i j Q<nN/\nmul (fitV D i j Q) gG=polyP (cmP (D (i.toNat - 1))) j.toNat (D (i.toNat - 1)).nc)
noncomputable def shrE (r:Nat) (D:Nat->Dl) (i j:Int):Int:=by
 classical
 exact if plOk i j=false then 1 else if hasS r D i j then (if vI (D (i.toNat - 1))/\comP (D (i.toNat - 1))then 0 else 3)else 5
noncomputable def shrY (s r:Nat) (D:Nat->Dl) (i j:Int):Nat:=if shrE r D i j=0 then fitV D i j (shrQ s D i)else 0
noncomputable def shrT (s r:Nat) (D:Nat->Dl) (i j:Int):Bool:=if shrE r D i j=0 then shrB D i j (shrQ s D i)else false
theorem shrE_arg {r:Nat} {D:Nat->Dl} {i j:Int} (h:plOk i j=false):shrE r D i j=1:=by unfold shrE;rw [if_pos h]
theorem pR {r:Nat} {D:Nat->Dl} {i j:Int} (h:plOk i j=true) (h2:¬ hasS r D i j):shrE r D i j=5:=by unfold shrE;rw [if_neg (by rw [h];simp),if_neg h2]
theorem shrE_pt {r:Nat} {D:Nat->Dl} {i j:Int} (h:plOk i j=true) (h2:hasS r D i j) (h3:¬ (vI (D (i.toNat - 1))/\comP (D (i.toNat - 1)))):shrE r D i j=3:=by unfold shrE;rw [if_neg (by rw [h];simp),if_pos h2,if_neg h3]
theorem shrE_ok {r:Nat} {D:Nat->Dl} {i j:Int} (h:plOk i j=true) (h2:hasS r D i j) (h3:vI (D (i.toNat - 1))) (h4:comP (D (i.toNat - 1))):shrE r D i j=0:=by unfold shrE;rw [if_neg (by rw [h];simp),if_pos h2,if_pos ⟨h3,h4⟩]
theorem shrE_zero {r:Nat} {D:Nat->Dl} {i j:Int} (h:shrE r D i j=0):plOk i j=true/\hasS r D i j/\vI (D (i.toNat - 1))/\comP (D (i.toNat - 1)):=by
  cases hp:plOk i j with
  | false=>rw [shrE_arg hp]at h;cases h
  | true =>
    by_cases h2:hasS r D i j
    · by_cases h3:vI (D (i.toNat - 1))/\comP (D (i.toNat - 1))
      · exact⟨rfl,h2,h3.1,h3.2⟩
      · rw [shrE_pt hp h2 h3]at h;cases h
    · rw [pR hp h2]at h;cases h
theorem shrY_ne {s r:Nat} {D:Nat->Dl} {i j:Int} (h:shrE r D i j ≠ 0):shrY s r D i j=0:=if_neg h
theorem shrT_ne {s r:Nat} {D:Nat->Dl} {i j:Int} (h:shrE r D i j ≠ 0):shrT s r D i j=false:=if_neg h
theorem tA {s r:Nat} {D:Nat->Dl} {i j:Int} (h:shrE r D i j=0):shrT s r D i j=true ↔ fitV D i j (shrQ s D i)<nN/\nmul (fitV D i j (shrQ s D i)) gG=polyP (cmP (D (i.toNat - 1))) j.toNat (D (i.toNat - 1)).nc:=by
 unfold shrT shrB
 rw [if_pos h]
 classical exact decide_eq_true_iff
def ShrR (s r:Nat) (D:Nat->Dl) (i j:Int) (v:AV):Prop:=(shrE r D i j ≠ 0/\v= .tup [noPt,numA 0,.bool false,.int .i64 (shrE r D i j)])\/(shrE r D i j=0/\v= .tup [ptA (shrQ s D i),numA (shrY s r D i j),.bool (shrT s r D i j),.int .i64 0])
theorem zT {P:Pt Fp} {n:Nat} {b:Bool} {e:Int}:Flat true (.tup [ptA P,numA n,.bool b,.int .i64 e]):= .tup _ (.cons _ _ bU (.cons _ _ aL (.cons _ _ (.bool _) (.cons _ _ (.int _ _) .nil))))
theorem flat_shr0 {n:Nat} {b:Bool} {e:Int}:Flat true (.tup [noPt,numA n,.bool b,.int .i64 e]):= .tup _ (.cons _ _ cG (.cons _ _ aL (.cons _ _ (.bool _) (.cons _ _ (.int _ _) .nil))))
theorem ShrR.ne {s r:Nat} {D:Nat->Dl} {i j e:Int} (h:shrE r D i j=e) (he:e ≠ 0):ShrR s r D i j (.tup [noPt,numA 0,.bool false,.int .i64 e])/\Flat true (.tup [noPt,numA 0,.bool false,.int .i64 e]):=⟨.inl ⟨by rw [h];exact he,by rw [h]⟩,flat_shr0⟩
theorem qK {m:Mem} {K:AV->Mem->Prop} {e:Int} (h:K (.tup [noPt,numA 0,.bool false,.int .i64 e]) m):ACall Pg jP [.int .i64 e] m K:=by
 have h0:ACall Pg jP [.int .i64 e] [] (fun v _=>v= .tup [noPt,numA 0,.bool false,.int .i64 e] /\ Flat true v):=by
  refine B_deal_share_1 ⟨rfl,?_⟩
  conv=>whnf
  repeat (refine⟨⟨_,rfl⟩,?_⟩;conv=>whnf)
  refine⟨rfl,?_⟩
  show Flat true (.tup [noPt,numA 0,.bool false,.int .i64 e])
  exact flat_shr0
 refine aD h0 (.cons _ _ _ _ aK .nil) ?_
 rintro v rfl
 exact h
set_option maxHeartbeats 800000 in
theorem S_dshare0 (n cap:Nat) (f:Nat->Int) (r c1:Nat) (d1 d2:Nat->Nat) (D:Nat->Dl) (i j:Int) (hn:n<=16384) (hf:∀ i,i<n->0<=f i/\f i<=255) (hr:r<=1000000) (hD:∀ k,k<r->OkD (D k)/\(D k).nc<=64):
    ACall Pg jT [.vsl 1 n cap (aB f),.vsl 26 r c1 (dlG D d1 d2),.int .i64 i,.int .i64 j] [] (fun v _=>ShrR (secN n f) r D i j v/\Flat true v):=by
  obtain⟨s,hs⟩ :∃ s,s=secN n f:=⟨_,rfl⟩
  rw [<- hs]
  refine B_deal_share ⟨rfl,?_⟩
  conv=>whnf
  repeat (refine⟨⟨_,rfl⟩,?_⟩;conv=>whnf)
  refine oY (n:=n) (f:=f) aQ.vsl (by omega) hf (fun _ s' hs' hs1 hs0=> ?_) (fun h=>absurd h (by omega))
  obtain rfl:s=s':=hs.trans hs'.symm
  clear hs hs'
  conv=>whnf
  repeat (refine⟨⟨_,rfl⟩,?_⟩;conv=>whnf)
  refine S_Place (fun hok p hp=> ?_) (fun hok=> ?_)
  rotate_left
  · conv=>whnf
    repeat (refine⟨⟨_,rfl⟩,?_⟩;conv=>whnf)
    refine qK ?_
    conv=>whnf
    repeat (refine⟨⟨_,rfl⟩,?_⟩;conv=>whnf)
    exact ShrR.ne (shrE_arg hok) (by decide)
  obtain⟨hi1,hi8,hj1,hj8,hne,hp0,hp6⟩:=plOk_spec hok
  obtain⟨a,rfl⟩ :∃ a:Nat,i=a:=⟨i.toNat,by omega⟩
  obtain⟨c,rfl⟩ :∃ c:Nat,j=c:=⟨j.toNat,by omega⟩
  obtain⟨q,rfl⟩ :∃ q:Nat,p=q:=⟨p.toNat,by omega⟩
  have e1:IntKind.i64.wrap ((a:Int) - 1)=((a - 1:Nat):Int):=by rw [w64 (by omega) (by omega)];omega
  conv=>whnf
  repeat (refine⟨⟨_,rfl⟩,?_⟩;conv=>whnf)
  refine S_dnum (n:=r) (D:=D) (i:=(a:Int)) iP.vsl (fun b hb=> ?_)
  by_cases ha:a<=r
  rotate_left
  · obtain rfl:b=false:=by rw [hb,decide_eq_false (p:=(a:Int)<=(r:Int)) (by omega),Bool.and_false]
    conv=>whnf
    repeat (refine⟨⟨_,rfl⟩,?_⟩;conv=>whnf)
    refine qK ?_
    conv=>whnf
    repeat (refine⟨⟨_,rfl⟩,?_⟩;conv=>whnf)
    exact ShrR.ne (pR hok (fun h=>absurd h.1 (by omega))) (by decide)
  obtain rfl:b=true:=by rw [hb,decide_eq_true (by omega),decide_eq_true (by omega)];rfl
  conv=>whnf
  repeat (refine⟨⟨_,rfl⟩,?_⟩;conv=>whnf)
  refine S_dnum (n:=r) (D:=D) (i:=(c:Int)) iP.vsl (fun b hb=> ?_)
  by_cases hc:c<=r
  rotate_left
  · obtain rfl:b=false:=by rw [hb,decide_eq_false (p:=(c:Int)<=(r:Int)) (by omega),Bool.and_false]
    conv=>whnf
    repeat (refine⟨⟨_,rfl⟩,?_⟩;conv=>whnf)
    refine qK ?_
    conv=>whnf
    repeat (refine⟨⟨_,rfl⟩,?_⟩;conv=>whnf)
    exact ShrR.ne (pR hok (fun h=>absurd h.2.1 (by omega))) (by decide)
  obtain rfl:b=true:=by rw [hb,decide_eq_true (by omega),decide_eq_true (by omega)];rfl
  conv=>whnf
  repeat (refine⟨⟨_,rfl⟩,?_⟩;conv=>whnf)
  rw [e1]
  refine aA (by simp;omega) ?_
  conv=>whnf
  repeat (refine⟨⟨_,rfl⟩,?_⟩;conv=>whnf)
  have hd:=hD (a - 1) (by omega)
  have ed:(a:Int).toNat - 1=a - 1:=rfl
  refine aE (fun h3=> ?_) (fun h3=> ?_)
  rotate_left
  · have h3:(D (a - 1)).ps=false:=by simpa using h3
    conv=>whnf
    repeat (refine⟨⟨_,rfl⟩,?_⟩;conv=>whnf)
    refine qK ?_
    conv=>whnf
    repeat (refine⟨⟨_,rfl⟩,?_⟩;conv=>whnf)
    exact ShrR.ne (pR hok (fun h=>Bool.noConfusion (h3.symm.trans h.2.2.1))) (by decide)
  have h3:(D (a - 1)).ps=true:=by simpa using h3
  conv=>whnf
  repeat (refine⟨⟨_,rfl⟩,?_⟩;conv=>whnf)
  rw [e1]
  refine aA (by simp;omega) ?_
  conv=>whnf
  repeat (refine⟨⟨_,rfl⟩,?_⟩;conv=>whnf)
  refine aE (fun h4=> ?_) (fun h4=> ?_)
  · have h4:(q:Int) >= ((D (a - 1)).ns:Int):=of_decide_eq_true h4
    conv=>whnf
    repeat (refine⟨⟨_,rfl⟩,?_⟩;conv=>whnf)
    refine qK ?_
    conv=>whnf
    repeat (refine⟨⟨_,rfl⟩,?_⟩;conv=>whnf)
    exact ShrR.ne (pR hok (fun h=>by have:=h.2.2.2;rw [<- hp]at this;rw [ed]at this;omega)) (by decide)
  have h4:¬ (q:Int) >= ((D (a - 1)).ns:Int):=of_decide_eq_false h4
  have hhas:hasS r D a c:=⟨by omega,by omega,h3,by rw [<- hp];rw [ed];omega⟩
  have hqn:q<(D (a - 1)).ns:=by omega
  conv=>whnf
  repeat (refine⟨⟨_,rfl⟩,?_⟩;conv=>whnf)
  rw [e1]
  refine aA (by simp;omega) ?_
  conv=>whnf
  repeat (refine⟨⟨_,rfl⟩,?_⟩;conv=>whnf)
  by_cases hg:vI (D (a - 1))
  rotate_left
  · refine S_KeyE_bad (n:=s) (i:=(D (a - 1)).i) (x:=(D (a - 1)).x) (y:=(D (a - 1)).y) rfl rfl hd.1.1 hd.1.2.1 (vI.bad hg) ?_
    conv=>whnf
    repeat (refine⟨⟨_,rfl⟩,?_⟩;conv=>whnf)
    refine qK ?_
    conv=>whnf
    repeat (refine⟨⟨_,rfl⟩,?_⟩;conv=>whnf)
    exact ShrR.ne (shrE_pt hok hhas (fun h=>hg h.1)) (by decide)
  obtain⟨oA,eA⟩:=hg.pt
  refine S_KeyE (n:=s) (P:=ptOf (D (a - 1))) rfl (Eq.trans (b:=rawA (D (a - 1)).i (D (a - 1)).x (D (a - 1)).y) rfl eA) (Nat.lt_trans hs1 (by decide)) oA (fun Q oQ hQ=> ?_)
  conv=>whnf
  repeat (refine⟨⟨_,rfl⟩,?_⟩;conv=>whnf)
  refine aA (by simp;omega) ?_
  conv=>whnf
  repeat (refine⟨⟨_,rfl⟩,?_⟩;conv=>whnf)
  refine S_OpenPt (P:=Q) (a:=(a:Int)) (b:=(c:Int)) (f:=(D (a - 1)).S q) rfl rfl oQ (by unfold isD;simp;omega) (by unfold isD;simp;omega) (fun i hi=>hd.1.2.2.2.2.2.2.1 q hqn i hi) (fun n hn hnw=> ?_)
  conv=>whnf
  repeat (refine⟨⟨_,rfl⟩,?_⟩;conv=>whnf)
  have hfv:fitV D a c Q=n:=by unfold fitV;rw [<- hp];exact hn.symm
  have hQs:Q=shrQ s D a:=hQ
  refine⟨?_,?_⟩
  · conv=>whnf
    repeat (refine⟨⟨_,rfl⟩,?_⟩;conv=>whnf)
    refine S_place (i:=c) (by omega) ?_
    conv=>whnf
    repeat (refine⟨⟨_,rfl⟩,?_⟩;conv=>whnf)
    by_cases hcm:comP (D (a - 1))
    rotate_left
    · refine S_FitsD_bad (d:=D (a - 1)) (c:=d2 (a - 1)) (x:=c) (y:=n) rfl rfl rfl hcm hd.1 hd.2 ?_
      conv=>whnf
      repeat (refine⟨⟨_,rfl⟩,?_⟩;conv=>whnf)
      refine qK ?_
      conv=>whnf
      repeat (refine⟨⟨_,rfl⟩,?_⟩;conv=>whnf)
      exact ShrR.ne (shrE_pt hok hhas (fun h=>hcm h.2)) (by decide)
    have hE:shrE r D a c=0:=shrE_ok hok hhas hg hcm
    have hY:shrY s r D a c=n:=by unfold shrY;rw [if_pos hE,<- hQs,hfv]
    refine S_FitsD (d:=D (a - 1)) (c:=d2 (a - 1)) (x:=c) rfl rfl hcm hd.2 (by show c<2 ^ 256;omega) hnw (fun b hb=> ?_)
    conv=>whnf
    repeat (refine⟨⟨_,rfl⟩,?_⟩;conv=>whnf)
    cases b with
    | false =>
      conv=>whnf
      repeat (refine⟨⟨_,rfl⟩,?_⟩;conv=>whnf)
      have hT:shrT s r D a c=false:=Bool.eq_false_iff.2 fun h=>absurd (hb.2 (by rw [<- hfv,hQs];exact((tA hE).1 h).2)) (by decide)
      refine⟨.inr ⟨hE,?_⟩,?_⟩
      · rw [hY,<- hQs,hT];rfl
      · show Flat true (.tup [ptA Q,numA n,.bool false,.int .i64 0])
        exact zT
    | true =>
      conv=>whnf
      repeat (refine⟨⟨_,rfl⟩,?_⟩;conv=>whnf)
      refine kY (fun p hp1=> ?_)
      conv=>whnf
      repeat (refine⟨⟨_,rfl⟩,?_⟩;conv=>whnf)
      refine S_LCmp hnw (by rw [hp1];decide) (fun z hz=> ?_)
      have hz':z<0 ↔ n<nN:=by
        rcases mI hz with⟨h,h'⟩ | ⟨h,h' | h'⟩ <;> rw [hp1]at h <;> rw [h'] <;> constructor <;> intro g <;> first | exact h | decide | omega
      have hT:shrT s r D a c=decide (z<0):=by
        rw [Bool.eq_iff_iff,tA hE,<- hQs,hfv,decide_eq_true_iff,hz']
        exact⟨fun h=>h.1,fun h=>⟨h,hb.1 rfl⟩⟩
      conv=>whnf
      repeat (refine⟨⟨_,rfl⟩,?_⟩;conv=>whnf)
      refine⟨.inr ⟨hE,?_⟩,?_⟩
      · rw [hY,<- hQs,hT];rfl
      · show Flat true (.tup [ptA Q,numA n,.bool (decide (z<0)),.int .i64 0])
        exact zT
  · refine S_place (i:=c) (by omega) ?_
    conv=>whnf
    repeat (refine⟨⟨_,rfl⟩,?_⟩;conv=>whnf)
    conv=>whnf
    repeat (refine⟨⟨_,rfl⟩,?_⟩;conv=>whnf)
    by_cases hcm:comP (D (a - 1))
    rotate_left
    · refine S_FitsD_bad (d:=D (a - 1)) (c:=d2 (a - 1)) (x:=c) (y:=n) rfl rfl rfl hcm hd.1 hd.2 ?_
      conv=>whnf
      repeat (refine⟨⟨_,rfl⟩,?_⟩;conv=>whnf)
      refine qK ?_
      conv=>whnf
      repeat (refine⟨⟨_,rfl⟩,?_⟩;conv=>whnf)
      exact ShrR.ne (shrE_pt hok hhas (fun h=>hcm h.2)) (by decide)
    have hE:shrE r D a c=0:=shrE_ok hok hhas hg hcm
    have hY:shrY s r D a c=n:=by unfold shrY;rw [if_pos hE,<- hQs,hfv]
    refine S_FitsD (d:=D (a - 1)) (c:=d2 (a - 1)) (x:=c) rfl rfl hcm hd.2 (by show c<2 ^ 256;omega) hnw (fun b hb=> ?_)
    conv=>whnf
    repeat (refine⟨⟨_,rfl⟩,?_⟩;conv=>whnf)
    cases b with
    | false =>
      conv=>whnf
      repeat (refine⟨⟨_,rfl⟩,?_⟩;conv=>whnf)
      have hT:shrT s r D a c=false:=Bool.eq_false_iff.2 fun h=>absurd (hb.2 (by rw [<- hfv,hQs];exact((tA hE).1 h).2)) (by decide)
      refine⟨.inr ⟨hE,?_⟩,?_⟩
      · rw [hY,<- hQs,hT];rfl
      · show Flat true (.tup [ptA Q,numA n,.bool false,.int .i64 0])
        exact zT
    | true =>
      conv=>whnf
      repeat (refine⟨⟨_,rfl⟩,?_⟩;conv=>whnf)
      refine kY (fun p hp1=> ?_)
      conv=>whnf
      repeat (refine⟨⟨_,rfl⟩,?_⟩;conv=>whnf)
      refine S_LCmp hnw (by rw [hp1];decide) (fun z hz=> ?_)
      have hz':z<0 ↔ n<nN:=by
        rcases mI hz with⟨h,h'⟩ | ⟨h,h' | h'⟩ <;> rw [hp1]at h <;> rw [h'] <;> constructor <;> intro g <;> first | exact h | decide | omega
      have hT:shrT s r D a c=decide (z<0):=by
        rw [Bool.eq_iff_iff,tA hE,<- hQs,hfv,decide_eq_true_iff,hz']
        exact⟨fun h=>h.1,fun h=>⟨h,hb.1 rfl⟩⟩
      conv=>whnf
      repeat (refine⟨⟨_,rfl⟩,?_⟩;conv=>whnf)
      refine⟨.inr ⟨hE,?_⟩,?_⟩
      · rw [hY,<- hQs,hT];rfl
      · show Flat true (.tup [ptA Q,numA n,.bool (decide (z<0)),.int .i64 0])
        exact zT
theorem S_dshare {m:Mem} {x z:AV} {K:AV->Mem->Prop} {n:Nat} {f:Nat->Int} {r:Nat} {D:Nat->Dl} {i j:Int} (hx:aQ m x n f) (hz:iP m z r D) (hn:n<=16384) (hf:∀ i,i<n->0<=f i/\f i<=255) (hr:r<=1000000) (hD:∀ k,k<r->OkD (D k)/\(D k).nc<=64)
 (h1:shrE r D i j=0->∀ Q y b,Q=shrQ (secN n f) D i->y=shrY (secN n f) r D i j->b=shrT (secN n f) r D i j->K (.tup [ptA Q,numA y,.bool b,.int .i64 0]) m)
 (h2:∀ e,e=shrE r D i j->e ≠ 0->K (.tup [noPt,numA 0,.bool false,.int .i64 e]) m):ACall Pg jT [x,z,.int .i64 i,.int .i64 j] m K:=by
 obtain⟨cap,hl⟩:=hx
 obtain⟨c1,d1,d2,hl2⟩:=hz
 refine aD (S_dshare0 n cap f r c1 d1 d2 D i j hn hf hr hD) (.cons _ _ _ _ hl (.cons _ _ _ _ hl2 (.cons _ _ _ _ aK (.cons _ _ _ _ aK .nil)))) ?_
 rintro v (⟨h,rfl⟩ | ⟨h,rfl⟩)
 · exact h2 _ rfl h
 · exact h1 h _ _ _ rfl rfl rfl
theorem shrY_lt {s r:Nat} {D:Nat->Dl} {i j:Int}:shrY s r D i j<w256:=by
 unfold shrY
 split
 · unfold fitV;exact ofZ_lt (fun i _=>gU _ _)
 · decide
theorem S_dShare {m:Mem} {x z:AV} {K:AV->Mem->Prop} {n:Nat} {f:Nat->Int} {r:Nat} {D:Nat->Dl} {i j:Int} (hx:aQ m x n f) (hz:iP m z r D) (hn:n<=16384) (hf:∀ i,i<n->0<=f i/\f i<=255) (hr:r<=1000000) (hD:∀ k,k<r->OkD (D k)/\(D k).nc<=64)
 (h:∀ y b e,y=shrY (secN n f) r D i j->b=shrT (secN n f) r D i j->e=shrE r D i j->y<w256->K (.tup [numA y,.bool b,.int .i64 e]) m):ACall Pg iR [x,z,.int .i64 i,.int .i64 j] m K:=by
 have h0:∀ cap c1 d1 d2,ACall Pg iR [.vsl 1 n cap (aB f),.vsl 26 r c1 (dlG D d1 d2),.int .i64 i,.int .i64 j] [] (fun v _=>v= .tup [numA (shrY (secN n f) r D i j),.bool (shrT (secN n f) r D i j),.int .i64 (shrE r D i j)] /\ Flat true v):=fun cap c1 d1 d2=>by
  refine B_deal_Share ⟨rfl,?_⟩
  conv=>whnf
  repeat (refine⟨⟨_,rfl⟩,?_⟩;conv=>whnf)
  refine S_dshare (n:=n) (f:=f) (r:=r) (D:=D) aQ.vsl iP.vsl hn hf hr hD (fun he Q y b hQ hy hb=> ?_) (fun e he he0=> ?_)
  · rw [he,<- hy,<- hb]
    conv=>whnf
    repeat (refine⟨⟨_,rfl⟩,?_⟩;conv=>whnf)
    exact⟨rfl,.tup _ (.cons _ _ aL (.cons _ _ (.bool _) (.cons _ _ (.int _ _) .nil)))⟩
  · rw [shrY_ne (fun h=>he0 (he.trans h)),shrT_ne (fun h=>he0 (he.trans h)),<- he]
    conv=>whnf
    repeat (refine⟨⟨_,rfl⟩,?_⟩;conv=>whnf)
    exact⟨rfl,.tup _ (.cons _ _ aL (.cons _ _ (.bool _) (.cons _ _ (.int _ _) .nil)))⟩
 obtain⟨cap,hl⟩:=hx
 obtain⟨c1,d1,d2,hl2⟩:=hz
 refine aD (h0 cap c1 d1 d2) (.cons _ _ _ _ hl (.cons _ _ _ _ hl2 (.cons _ _ _ _ aK (.cons _ _ _ _ aK .nil)))) ?_
 rintro v rfl
 exact h _ _ _ rfl rfl rfl shrY_lt
theorem flat_nbe {n:Nat} {b:Bool} {e:Int}:Flat true (.tup [numA n,.bool b,.int .i64 e]):= .tup _ (.cons _ _ aL (.cons _ _ (.bool _) (.cons _ _ (.int _ _) .nil)))
theorem Shr3.ne {s r:Nat} {D:Nat->Dl} {i j e:Int} (h:shrE r D i j=e) (he:e ≠ 0):AV.tup [numA 0,.bool false,.int .i64 e] = .tup [numA (shrY s r D i j),.bool (shrT s r D i j),.int .i64 (shrE r D i j)] /\ Flat true (.tup [numA 0,.bool false,.int .i64 e]):=⟨by rw [shrY_ne (by rw [h];exact he),shrT_ne (by rw [h];exact he),h],flat_nbe⟩
end Go.Proofs.YtfolpdmbpbbimaaGreat
end

section
namespace Go.Proofs.YtfolpdmbpbbimaaGreat
open Go Go.Wit
def DisR (n:Nat) (f:Nat->Int) (r:Nat) (D:Nat->Dl) (i j:Int) (v:AV):Prop:=(shrE r D i j ≠ 0/\v= .tup [act0,.int .i64 (shrE r D i j)])\/
 (shrE r D i j=0/\∃ Q A c p,Q=shrQ (secN n f) D i/\A=ptOf (D (i.toNat - 1))/\c=prfC (secN n f) (drwN noB n f i.toNat) A/\p=prfR (secN n f) (drwN noB n f i.toNat) c/\v= .tup [actA 3 (isI Q) (xN Q) (yN Q) nB .nils .nils i c p,.int .i64 0])
theorem S_dDispute {m:Mem} {x z:AV} {K:AV->Mem->Prop} {n:Nat} {f:Nat->Int} {r:Nat} {D:Nat->Dl} {i j:Int} (hx:aQ m x n f) (hz:iP m z r D) (hn:n<=16384) (hf:∀ i,i<n->0<=f i/\f i<=255) (hr:r<=1000000) (hD:∀ k,k<r->OkD (D k)/\(D k).nc<=64)
 (h:∀ v,DisR n f r D i j v->K v m):ACall Pg iA [x,z,.int .i64 i,.int .i64 j] m K:=by
 have h0:∀ cap c1 d1 d2,ACall Pg iA [.vsl 1 n cap (aB f),.vsl 26 r c1 (dlG D d1 d2),.int .i64 i,.int .i64 j] [] (fun v _=>DisR n f r D i j v/\Flat true v):=fun cap c1 d1 d2=>by
  refine B_deal_Dispute ⟨rfl,?_⟩
  conv=>whnf
  repeat (refine⟨⟨_,rfl⟩,?_⟩;conv=>whnf)
  refine S_dshare (n:=n) (f:=f) (r:=r) (D:=D) aQ.vsl iP.vsl hn hf hr hD (fun he Q y b hQ hy hb=> ?_) (fun e he he0=> ?_)
  rotate_left
  · conv=>whnf
    repeat (refine⟨⟨_,rfl⟩,?_⟩;conv=>whnf)
    refine cH (by simpa using he0) ?_
    conv=>whnf
    repeat (refine⟨⟨_,rfl⟩,?_⟩;conv=>whnf)
    exact⟨.inl ⟨by rw [<- he];exact he0,by rw [<- he];rfl⟩,flat_act0E⟩
  obtain⟨hok,hhas,hg,hcm⟩:=shrE_zero he
  obtain⟨oA,eA⟩:=hg.pt
  obtain⟨hi1,hi8,hj1,hj8,hne,hp0,hp6⟩:=plOk_spec hok
  obtain⟨a,rfl⟩ :∃ a:Nat,i=a:=⟨i.toNat,by omega⟩
  have ha:a<=r:=by have:=hhas.1;omega
  have e1:IntKind.i64.wrap ((a:Int) - 1)=((a - 1:Nat):Int):=by rw [w64 (by omega) (by omega)];omega
  have hQo:On Q:=by rw [hQ];exact oA.nmul crvP _
  conv=>whnf
  repeat (refine⟨⟨_,rfl⟩,?_⟩;conv=>whnf)
  refine oY (n:=n) (f:=f) aQ.vsl (by omega) hf (fun _ s hs hs1 hs0=> ?_) (fun h=>absurd h (by omega))
  conv=>whnf
  repeat (refine⟨⟨_,rfl⟩,?_⟩;conv=>whnf)
  refine S_scalar (t:=noB) (by decide) (n:=n) (i:=a) (f:=f) aQ.vsl hn hf (by omega) (fun k hk hk1=> ?_)
  conv=>whnf
  repeat (refine⟨⟨_,rfl⟩,?_⟩;conv=>whnf)
  rw [e1]
  refine aA (by simp;omega) ?_
  conv=>whnf
  repeat (refine⟨⟨_,rfl⟩,?_⟩;conv=>whnf)
  refine S_ProveE (s:=s) (k:=k) (b:=ptOf (D (a - 1))) rfl rfl (Eq.trans (b:=rawA (D (a - 1)).i (D (a - 1)).x (D (a - 1)).y) rfl eA) (Nat.lt_trans hs1 (by decide)) (Nat.lt_trans hk1 (by decide)) oA (fun c p hc hp hc1 hp1=> ?_)
  conv=>whnf
  repeat (refine⟨⟨_,rfl⟩,?_⟩;conv=>whnf)
  refine⟨.inr ⟨he,Q,_,c,p,hQ,rfl,by rw [hc,hs,hk];rfl,by rw [hp,hs,hk];rfl,rfl⟩,?_⟩
  show Flat true (.tup [actA 3 (isI Q) (xN Q) (yN Q) nB .nils .nils (a:Int) c p,.int .i64 0])
  exact qD
 obtain⟨cap,hl⟩:=hx
 obtain⟨c1,d1,d2,hl2⟩:=hz
 refine aD (h0 cap c1 d1 d2) (.cons _ _ _ _ hl (.cons _ _ _ _ hl2 (.cons _ _ _ _ aK (.cons _ _ _ _ aK .nil)))) ?_
 rintro v hv
 exact h _ hv
theorem DisR.same {n r:Nat} {f:Nat->Int} {D:Nat->Dl} {i j:Int} {v w:AV} (h:DisR n f r D i j v) (h':DisR n f r D i j w):v=w:=by
 rcases h with⟨h,rfl⟩ | ⟨h,Q,A,c,p,rfl,rfl,rfl,rfl,rfl⟩
 · rcases h' with⟨_,rfl⟩ | ⟨g,_⟩
   · rfl
   · exact absurd g h
 · rcases h' with⟨g,_⟩ | ⟨_,Q',A',c',p',rfl,rfl,rfl,rfl,rfl⟩
   · exact absurd h g
   · rfl
end Go.Proofs.YtfolpdmbpbbimaaGreat
end

section
namespace Go.Proofs.YtfolpdmbpbbimaaGreat
open Go Go.Wit
theorem S_PostedS {m:Mem} {K:AV->Mem->Prop} {R t n cap:Nat} {f:Nat->Int} {whom:Int} {v0 v1:AV} (hv0:v0= .int .i64 (R+2:Nat)) (hv1:v1= .int .i64 t) (hR:R<=2) (ht:t<64) (hn:n<=100) (hf:∀ i,i<n->0<=f i/\f i<=255)
 (h:∀ c a0 C1 C2,memK (m++ [some ⟨26,R+2,wrS (m.length+1) R a0 (dlG (DQ n f (R+2) t) C1 C2)⟩,some ⟨32,R+1,cI (dI n f t 0)⟩]) (K (.sl m.length 0 (R+2) c))):ACall Pg fL [v0,v1,.vsl 1 n cap (aB f),.nils,.int .i64 whom] m K:=by
 subst hv0 hv1
 simp only [cO]at h
 refine(S_PostedS0 R t n cap f whom hR ht hn hf).frame false [] [] (fun _=>rfl) (.cons _ _ _ _ (.rv _ _ (.eq _ _ rfl (.int _ _))) (.cons _ _ _ _ (.rv _ _ (.eq _ _ rfl (.int _ _))) (.cons _ _ _ _ (.rv _ _ (.eq _ _ rfl bF)) (.cons _ _ _ _ (.rv _ _ (.eq _ _ rfl .nils)) (.cons _ _ _ _ (.rv _ _ (.eq _ _ rfl (.int _ _))) .nil))))) trivial rfl (fun i j q g1 g2=>by simp at g1) (fun q hq=>by cases hq) ?_
 rintro v m' ⟨c,a0,C1,C2,rfl,hb,hb2⟩
 have ht:∀ {q r:Nat},(if q=m.length then some 0 else if q=m.length+1 then some 1 else none)=some r->(q=m.length/\r=0)\/(q=m.length+1/\r=1):=by
  intro q r hq
  by_cases g:q=m.length
  · rw [if_pos g]at hq;exact .inl ⟨g,(Option.some.inj hq).symm⟩
  · rw [if_neg g]at hq
    by_cases g2:q=m.length+1
    · rw [if_pos g2]at hq;exact .inr ⟨g2,(Option.some.inj hq).symm⟩
    · rw [if_neg g2]at hq;cases hq
 refine⟨.sl m.length 0 (R+2) c,m++ [some ⟨26,R+2,wrS (m.length+1) R a0 (dlG (DQ n f (R+2) t) C1 C2)⟩,some ⟨32,R+1,cI (dI n f t 0)⟩],fun q=>if q=m.length then some 0 else if q=m.length+1 then some 1 else none,⟨by simp,fun q r hq=> ?_,fun q q' r hq hq'=> ?_,fun q r hlt hq=> ?_,fun q b hq=> ?_⟩,.sl _ _ _ _ _ (if_pos rfl),h c a0 C1 C2⟩
 · rw [List.length_append]
   rcases ht hq with⟨rfl,_⟩ | ⟨rfl,_⟩ <;> simp
 · rcases ht hq with⟨rfl,rfl⟩ | ⟨rfl,rfl⟩ <;> rcases ht hq' with⟨rfl,e⟩ | ⟨rfl,e⟩
   · rfl
   · cases e
   · cases e
   · rfl
 · rcases ht hq with⟨rfl,_⟩ | ⟨rfl,_⟩ <;> omega
 · by_cases hqm:q<m.length
   · refine .inl ⟨by rw [if_neg (by omega),if_neg (by omega)],?_,fun i=>by simp⟩
     rw [List.getElem?_append_left hqm]at hq;exact hq
   · have hq2:=(List.getElem?_eq_some_iff.1 hq).1
     simp at hq2
     have hq3:q=m.length\/q=m.length+1:=by omega
     rcases hq3 with rfl | rfl
     · simp at hq
       subst hq
       refine .inr (.inl ⟨0,_,if_pos rfl,hb,rfl,Nat.le_refl _,fun i j hi hj=> ?_⟩)
       show RV false _ (wrS 1 R a0 (dqG n f (DQ n f (R+2) t) (R+2) C1 C2) i j) (wrS (m.length+1) R a0 (dlG (DQ n f (R+2) t) C1 C2) i j)
       by_cases hc:i=0/\j=13
       · obtain⟨rfl,rfl⟩:=hc
         rw [rF,rF]
         exact .sl _ _ _ _ _ (by rw [if_neg (by omega),if_pos rfl])
       · rw [pO hc,pO hc]
         exact RV.of (dqG_all hi) lR
     · rw [List.getElem?_append_right (by omega),show m.length+1 - m.length=1 by omega]at hq
       simp at hq
       subst hq
       exact .inr (.inl ⟨1,_,by rw [if_neg (by omega),if_pos rfl],hb2,rfl,Nat.le_refl _,fun i j hi hj=>RV.of rfl dF⟩)
def tw (D:Nat->Dl) (T:Nat->Nat->Int):Nat->Dl:=fun i=>if i=0 then {D 0 with S:=T} else D i
theorem lL {m:Mem} {l l2 r c N R a0:Nat} {D:Nat->Dl} {C1 C2:Nat->Nat} {g:Nat->Nat->AV} {T:Nat->Nat->Int} (h:m[l]? = some (some ⟨26,N,wrS l2 R a0 (dlG D C1 C2)⟩)) (h2:m[l2]? = some (some ⟨32,R+1,g⟩)) (hg:∀ i j,i<R+1->j<32->g i j=cI T i j) (hn:(D 0).ns=R+1) (hr:r<=N):iP m (.sl l 0 r c) r (tw D T):=by
 refine⟨c,fun i=>if i=0 then a0 else C1 i,C2,?_⟩
 refine Lend.slR l 0 r c ⟨26,N,wrS l2 R a0 (dlG D C1 C2)⟩ _ (List.mem_range.2 (bB h)) h (by show 0+r<=N;omega) (fun i j hi hj=> ?_)
 rw [Nat.zero_add]
 show Lend _ _ _ (wrS l2 R a0 (dlG D C1 C2) i j) _
 by_cases hc:i=0/\j=13
 · obtain⟨rfl,rfl⟩:=hc
   rw [rF]
   have e:dlG (tw D T) (fun i=>if i=0 then a0 else C1 i) C2 0 13= .vsl 32 (R+1) a0 (cI T):=by
    show AV.vsl 32 (D 0).ns a0 (cI T)=_
    rw [hn]
   rw [e]
   exact Lend.sl l2 0 (R+1) a0 ⟨32,R+1,g⟩ _ (List.mem_range.2 (bB h2)) h2 (by show 0+(R+1)<=R+1;omega) (fun i j hi hj=>⟨by rw [Nat.zero_add];exact(hg i j hi hj).symm,dF⟩)
 rw [pO hc]
 have e:dlG (tw D T) (fun i=>if i=0 then a0 else C1 i) C2 i j=dlG D C1 C2 i j:=by
  unfold dlG tw
  by_cases hi0:i=0
  · subst hi0
    have hj13:j ≠ 13:=fun h=>hc ⟨rfl,h⟩
    simp only [if_true]
    revert hj13
    replace hj:j<26:=hj
    refine lt26 (P:=fun j=>j ≠ 13->(dlL {D 0 with S:=T} (.vsl 32 (D 0).ns a0 (cI T)) (.vsl 9 (D 0).nc (C2 0) (fY (D 0).I (D 0).X (D 0).Y))).getD j .un=(dlL (D 0) (.vsl 32 (D 0).ns (C1 0) (cI (D 0).S)) (.vsl 9 (D 0).nc (C2 0) (fY (D 0).I (D 0).X (D 0).Y))).getD j .un) ?_ ?_ ?_ ?_ ?_ ?_ ?_ ?_ ?_ ?_ ?_ ?_ ?_ ?_ ?_ ?_ ?_ ?_ ?_ ?_ ?_ ?_ ?_ ?_ ?_ ?_ j hj
    all_goals (intro a;first | rfl | exact absurd rfl a)
  · simp only [if_neg hi0]
 rw [e]
 exact aG lR
theorem xorB_ne {a c:Int} (ha:0<=a/\a<=255) (hc:0<=c/\c<=255) (h0:c ≠ 0):xorB a c ≠ a:=by
 intro h
 have h1:xorB (xorB a c) a=xorB a a:=by rw [h]
 obtain⟨A,rfl,hA⟩:=nX ha
 obtain⟨C,rfl,hC⟩:=nX hc
 have h2:A ^^^ C<256:=Nat.xor_lt_two_pow (n:=8) hA hC
 rw [jY hA hC,jY h2 hA,jY hA hA,Nat.xor_self,Nat.xor_comm A C,Nat.xor_assoc,Nat.xor_self,Nat.xor_zero]at h1
 exact h0 (by exact_mod_cast h1)
noncomputable def opY (n:Nat) (f:Nat->Int) (me:Nat) (s:Nat->Int):Nat:=ofZ (tnF (KS n f 1 me) 1 me s)
theorem zI {n me:Nat} {f s:Nat->Int} (hm:2<=me) (hs:∀ b,b<32->s b=dI n f 1 0 (plN 1 me).toNat b):opY n f me s=yS n f 1 1 me:=by
 unfold opY
 refine ofZ_byteZ (Nat.lt_trans yS_lt (by decide)) fun b hb=> ?_
 show xorB (s b) _=_
 rw [hs b hb]
 have e:dI n f 1 0 (plN 1 me).toNat=tnF (KS n f 1 me) (1:Nat) me (iZ (yS n f 1 1 me)):=seal_at (i:=1) (by omega) (by omega) (by omega)
 rw [e]
 exact tn_tn (nY _ _)
theorem opY_bad {n me q:Nat} {f s:Nat->Int} {c:Int} (hm:2<=me) (hq:q<32) (hc:0<=c/\c<=255) (h0:c ≠ 0) (hs:s q=xorB (dI n f 1 0 (plN 1 me).toNat q) c):opY n f me s ≠ yS n f 1 1 me:=by
 unfold opY
 intro h
 have hl:∀ b,b<32->0<=tnF (KS n f 1 me) 1 me s b/\tnF (KS n f 1 me) 1 me s b<=255:=fun b _=>gU _ _
 have g:=byteZ_ofZ hl hq
 rw [h]at g
 have e:dI n f 1 0 (plN 1 me).toNat=tnF (KS n f 1 me) (1:Nat) me (iZ (yS n f 1 1 me)):=seal_at (i:=1) (by omega) (by omega) (by omega)
 have g2:tnF (KS n f 1 me) 1 me s q=xorB (iZ (yS n f 1 1 me) q) c:=by
  show xorB (s q) _=_
  rw [hs,e]
  exact xorB_swap (nY _ _) (stF_lt _) hc
 rw [g2]at g
 exact xorB_ne (nY _ _) hc h0 g.symm
theorem tw_ok {n:Nat} {f:Nat->Int} {T:Nat->Nat->Int} (hT:∀ q b,0<=T q b/\T q b<=255):∀ k,OkD (tw (DQ n f 3 1) T k)/\(tw (DQ n f 3 1) T k).nc<=64:=fun k=>by
 have h:=ok_DP (n:=n) (f:=f) (r:=3) (t:=1) (w:=0) (ns:=0) (sp:=fun _=>0) (k:=k) (by decide) (by decide)
 unfold tw
 by_cases h0:k=0
 · subst h0
   rw [if_pos rfl]
   exact⟨⟨h.1,h.2.1,h.2.2.1,h.2.2.2.1,h.2.2.2.2.1,h.2.2.2.2.2.1,fun q _ b _=>hT q b,h.2.2.2.2.2.2.2.1,h.2.2.2.2.2.2.2.2⟩,show 1+1<=64 by decide⟩
 · rw [if_neg h0]
   exact⟨h,show 1+1<=64 by decide⟩
theorem tw_E {n me:Nat} {f:Nat->Int} {T:Nat->Nat->Int} (hm:me=2\/me=3):shrE 3 (tw (DQ n f 3 1) T) 1 me=0:=by
 refine shrE_ok (pl_ok (R:=1) (i:=1) (by decide) (by omega) (by omega) (by decide) (by omega) (by decide)) ⟨by decide,by omega,rfl,?_⟩ ⟨PK n f 0,tW,rfl⟩ (fun k _=>⟨comC n f 0 k,on_G.nmul crvP _,rfl⟩)
 show plN 1 me<((3 - 1:Nat):Int)
 unfold plN
 split <;> omega
theorem tw_Q {n me:Nat} {f:Nat->Int} {T:Nat->Nat->Int}:shrQ (secN (n+1) (sdF n f (me - 1))) (tw (DQ n f 3 1) T) 1=KS n f 1 me:=by
 unfold shrQ KS
 have:ptOf (tw (DQ n f 3 1) T ((1:Int).toNat - 1))=PK n f 0:=ptOf_eq tW rfl
 rw [this]
theorem tw_Y {n me:Nat} {f:Nat->Int} {T:Nat->Nat->Int} (hm:me=2\/me=3):shrY (secN (n+1) (sdF n f (me - 1))) 3 (tw (DQ n f 3 1) T) 1 me=opY n f me (T (plN 1 me).toNat):=by
 unfold shrY
 rw [if_pos (tw_E hm),tw_Q]
 rfl
theorem tw_T {n me:Nat} {f:Nat->Int} {T:Nat->Nat->Int} (hm:me=2\/me=3):shrT (secN (n+1) (sdF n f (me - 1))) 3 (tw (DQ n f 3 1) T) 1 me=true ↔ opY n f me (T (plN 1 me).toNat)=yS n f 1 1 me:=by
 rw [tA (tw_E hm),tw_Q]
 have e1:fitV (tw (DQ n f 3 1) T) 1 me (KS n f 1 me)=opY n f me (T (plN 1 me).toNat):=rfl
 have e2:cmP (tw (DQ n f 3 1) T ((1:Int).toNat - 1))=comC n f (1 - 1):=by
  funext k
  exact rawP_eq (on_G.nmul crvP _) rfl
 have e3:polyP (cmP (tw (DQ n f 3 1) T ((1:Int).toNat - 1))) (me:Int).toNat (tw (DQ n f 3 1) T ((1:Int).toNat - 1)).nc=nmul (yS n f 1 1 me) gG:=by
  rw [e2];exact poly_yS
 rw [e1,e3]
 constructor
 · intro h
   exact nmul_G_inj h.1 yS_lt h.2
 · intro h
   rw [h]
   exact⟨yS_lt,rfl⟩
theorem tU {m:Mem} {x z vi vj:AV} {K:AV->Mem->Prop} {n:Nat} {f:Nat->Int} {r:Nat} {D:Nat->Dl} {i j:Int} (hvi:vi= .int .i64 i) (hvj:vj= .int .i64 j) (hx:aQ m x n f) (hz:iP m z r D) (hn:n<=16384) (hf:∀ i,i<n->0<=f i/\f i<=255) (hr:r<=1000000) (hD:∀ k,k<r->OkD (D k)/\(D k).nc<=64)
 (h:∀ y b e,y=shrY (secN n f) r D i j->b=shrT (secN n f) r D i j->e=shrE r D i j->y<w256->K (.tup [numA y,.bool b,.int .i64 e]) m):ACall Pg iR [x,z,vi,vj] m K:=by
 subst hvi hvj;exact S_dShare hx hz hn hf hr hD h
theorem oN {m:Mem} {x z vi vj:AV} {K:AV->Mem->Prop} {n:Nat} {f:Nat->Int} {r:Nat} {D:Nat->Dl} {i j:Int} (hvi:vi= .int .i64 i) (hvj:vj= .int .i64 j) (hx:aQ m x n f) (hz:iP m z r D) (hn:n<=16384) (hf:∀ i,i<n->0<=f i/\f i<=255) (hr:r<=1000000) (hD:∀ k,k<r->OkD (D k)/\(D k).nc<=64)
 (h:∀ v,DisR n f r D i j v->K v m):ACall Pg iA [x,z,vi,vj] m K:=by
 subst hvi hvj;exact S_dDispute hx hz hn hf hr hD h
end Go.Proofs.YtfolpdmbpbbimaaGreat
end

