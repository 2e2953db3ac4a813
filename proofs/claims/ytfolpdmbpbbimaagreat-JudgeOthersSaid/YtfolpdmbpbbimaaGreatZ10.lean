/- Texts of a proof, one behind the other; the last of these: Dealers of an own block, made twice; no condition. -/
import Derived.Test.YtfolpdmbpbbimaaGreatZ9
set_option linter.unusedVariables false
set_option linter.unusedSimpArgs false
set_option maxRecDepth 100000
section
namespace Go.Proofs.YtfolpdmbpbbimaaGreat
open Go Go.Wit
theorem S_Rpmul {m:Mem} {K:AV->Mem->Prop} {a b:Nat} (ha:a<w256) (hb:b<w256) (h:∀ r,r=a*b % nN->K (numA r) m):ACall Pg dZ [numA a,numA b] m K:=by
 have h0:ACall Pg dZ [numA a,numA b] [] (fun v _=>v=numA (a*b % nN)/\Flat true v):=by
  refine qE ⟨rfl,?_⟩
  conv=>whnf
  repeat (refine⟨⟨[],rfl⟩,?_⟩;conv=>whnf)
  refine S_RFMul_1 ha hb (fun r hr=> ?_)
  conv=>whnf
  repeat (refine⟨⟨[],rfl⟩,?_⟩;conv=>whnf)
  rw [<- hr]
  exact⟨rfl,aL⟩
 refine aD h0 (.cons _ _ _ _ aG (.cons _ _ _ _ aG .nil)) ?_
 rintro v rfl
 exact h _ rfl
theorem S_Rpadd {m:Mem} {K:AV->Mem->Prop} {a b:Nat} (ha:a<w256) (hb:b<w256) (h:∀ r,r=(a+b) % nN->K (numA r) m):ACall Pg jF [numA a,numA b] m K:=by
 have h0:ACall Pg jF [numA a,numA b] [] (fun v _=>v=numA ((a+b) % nN)/\Flat true v):=by
  refine zQ ⟨rfl,?_⟩
  conv=>whnf
  repeat (refine⟨⟨[],rfl⟩,?_⟩;conv=>whnf)
  refine S_RFAdd_1 ha hb (fun r hr=> ?_)
  conv=>whnf
  repeat (refine⟨⟨[],rfl⟩,?_⟩;conv=>whnf)
  rw [<- hr]
  exact⟨rfl,aL⟩
 refine aD h0 (.cons _ _ _ _ aG (.cons _ _ _ _ aG .nil)) ?_
 rintro v rfl
 exact h _ rfl
theorem S_REval0 (n cap:Nat) (c:Nat->Nat) (x:Nat) (hx:x<w256) (hc:∀ i,i<n->c i<w256) (hn:n<=140737488355328):ACall Pg iR [.vsl 4 n cap (kI c),numA x] [] (fun v _=>v=numA (sumN c x n % nN)/\Flat true v):=by
 refine xL ⟨rfl,?_⟩
 conv=>whnf
 repeat (refine⟨⟨[],rfl⟩,?_⟩;conv=>whnf)
 have e10:IntKind.i64.wrap ((n:Int) - 1)=(n:Int) - 1:=w64 (by omega) (by omega)
 refine aR aH (I:=fun q l m=>∃ (v:Int) (t o:Nat),l= [(0,.vsl 4 n cap (kI c)),(3,.ptr 0 0 0),(4,.ptr 1 0 0),(5,.ptr 2 0 0),(6,.int .i64 v)] /\
  m= [some ⟨1,4,lstG 1 (numL x)⟩,some ⟨1,4,lstG 1 (numL 0)⟩,some ⟨1,4,lstG 1 (numL o)⟩] /\ q+t=n/\v=(q:Int) - 1/\o=horN c x n t % nN) n
  (l0:= [(0,.vsl 4 n cap (kI c)),(3,.ptr 0 0 0),(4,.ptr 1 0 0),(5,.ptr 2 0 0),(6,.int .i64 ((n:Int) - 1))])
  (m0:= [some ⟨1,4,lstG 1 (numL x)⟩,some ⟨1,4,lstG 1 (numL 0)⟩,some ⟨1,4,lstG 1 (numL 0)⟩]) [some 0,some 1,some 2] ⟨_,0,0,rfl,rfl,rfl,rfl,rfl⟩ ?_ ?_
 · refine .mk0 ⟨.eq _ _ rfl (.vsl _ _ _ _ rfl (fun _ _ _ _=>dU)),.ptr _ _ _ _ rfl,.ptr _ _ _ _ rfl,.ptr _ _ _ _ rfl,Flat.i e10,trivial⟩ ⟨.old 0 0 _ _ rfl rfl ⟨rfl,Nat.le_refl _,fun i j hi hj=> .eq _ _ rfl aJ⟩,
    .old 1 1 _ _ rfl rfl ⟨rfl,Nat.le_refl _,fun i j hi hj=> ?_⟩,.old 2 2 _ _ rfl rfl ⟨rfl,Nat.le_refl _,fun i j hi hj=> ?_⟩,trivial⟩ rfl rfl
   all_goals
    have hj:j<1:=hj
    have hi:i<4:=hi
    obtain rfl:j=0:=by omega
    have:i=0\/i=1\/i=2\/i=3:=by omega
    rcases this with rfl | rfl | rfl | rfl <;> exact .eq _ _ rfl (.int _ _)
 · rintro q l m ⟨v,t,o,rfl,rfl,hq,hv,ho⟩
   have ho1:o<w256:=by rw [ho];exact Nat.lt_trans (Nat.mod_lt _ (by decide)) (by decide)
   conv=>whnf
   repeat (refine⟨⟨[],rfl⟩,?_⟩;conv=>whnf)
   refine aE (fun hb=> ?_) (fun hb=> ?_)
   · have hb:v >= 0:=of_decide_eq_true hb
     obtain⟨k,rfl⟩ :∃ k,q=k+1:=⟨q - 1,by omega⟩
     obtain rfl:v=(k:Int):=by omega
     conv=>whnf
     repeat (refine⟨⟨[],rfl⟩,?_⟩;conv=>whnf)
     refine aA (by simp;omega) ?_
     conv=>whnf
     repeat (refine⟨⟨[],rfl⟩,?_⟩;conv=>whnf)
     refine S_Rpmul ho1 hx (fun r hr=> ?_)
     have hr1:r<w256:=by rw [hr];exact Nat.lt_trans (Nat.mod_lt _ (by decide)) (by decide)
     conv=>whnf
     repeat (refine⟨⟨[],rfl⟩,?_⟩;conv=>whnf)
     refine S_Rpadd (b:=c k) hr1 (hc k (by omega)) (fun s hs=> ?_)
     conv=>whnf
     repeat (refine⟨⟨[],rfl⟩,?_⟩;conv=>whnf)
     have hs2:s=horN c x n (t+1) % nN:=by rw [hs,hr,ho,mod_hor,horN_succ,show n - 1 - t=k by omega]
     have e5:IntKind.i64.wrap ((k:Int) - 1)=(k:Int) - 1:=w64 (by omega) (by omega)
     refine⟨k,_,_,[some 0,some 1,some 2],Nat.lt_succ_self _,⟨(k:Int) - 1,t+1,s,rfl,rfl,by omega,rfl,hs2⟩,?_⟩
     exact .mk0 ⟨.eq _ _ rfl (.vsl _ _ _ _ rfl (fun _ _ _ _=>dU)),.ptr _ _ _ _ rfl,.ptr _ _ _ _ rfl,.ptr _ _ _ _ rfl,Flat.i e5,trivial⟩ ⟨.old 0 0 _ _ rfl rfl ⟨rfl,Nat.le_refl _,fun i j hi hj=> .eq _ _ rfl lI⟩,
      .old 1 1 _ _ rfl rfl ⟨rfl,Nat.le_refl _,fun i j hi hj=> .eq _ _ rfl lI⟩,.old 2 2 _ _ rfl rfl ⟨rfl,Nat.le_refl _,fun i j hi hj=> .eq _ _ rfl lI⟩,trivial⟩ rfl rfl
   · have hb:¬ v >= 0:=of_decide_eq_false hb
     obtain rfl:q=0:=by omega
     obtain rfl:t=n:=by omega
     rw [horN_all]at ho
     conv=>whnf
     repeat (refine⟨⟨[],rfl⟩,?_⟩;conv=>whnf)
     rw [<- ho]
     exact⟨rfl,aL⟩
theorem S_REval {m:Mem} {a:AV} {K:AV->Mem->Prop} {n x:Nat} {c:Nat->Nat} (ha:bZ m a 4 n (kI c)) (hx:x<w256) (hc:∀ i,i<n->c i<w256) (hn:n<=140737488355328) (h:∀ r,r=sumN c x n % nN->r<w256->K (numA r) m):ACall Pg iR [a,numA x] m K:=by
 obtain⟨cap,hl⟩:=ha
 refine aD (S_REval0 n cap c x hx hc hn) (.cons _ _ _ _ hl (.cons _ _ _ _ aG .nil)) ?_
 rintro v rfl
 exact h _ rfl (Nat.lt_trans (Nat.mod_lt _ (by decide)) (by decide))
theorem seal_row0 {nv:Bool} {σ:Nat->Option Nat} {A:AV} {S:Nat->Nat->Int} {i j:Nat} {s:Nat->Int} {g h:Nat->Nat->AV} (hi:i<0+1) (hj:j<32) (hs:∀ j,j<32->s j=S 0 j) (hA:A=catG 0 h g i j) (hg:∀ j,j<32->g 0 j= .int .u8 (s j)):RV nv σ A (dB S i j):=by
 obtain rfl:i=0:=by omega
 refine RV.of (hA.trans ?_) eJ
 rw [bL (Nat.le_refl _),Nat.sub_self,hg j hj,hs j hj];rfl
set_option maxHeartbeats 4000000 in
theorem S_RPost0 (n cap t:Nat) (f:Nat->Int) (r c1:Nat) (d1 d2:Nat->Nat) (D:Nat->Dl) (me:Nat) (hn:n<=16384) (ht:t<64) (hf:∀ i,i<n->0<=f i/\f i<=255) (hr:r<=8) (hm:1<=me/\me<=r) (hD:∀ k,k<r->On (ptOf (D k))/\rawA (D k).i (D k).x (D k).y=ptA (ptOf (D k))/\(D k).x<w256/\(D k).y<w256):
 ACall Pg iO [.vsl 1 n cap (aB f),.int .i64 t,.vsl 26 r c1 (dlG D d1 d2),.int .i64 me] []
  (fun v m'=>∃ sl co,v= .tup [actA 2 false 0 0 nB sl co 0 0 0,.int .i64 0] /\ RetG 32 (r - 1) (fun q j=> .int .u8 (sealN n f t D me q j)) sl m'/\RetG 9 (t+1) (ptsG fun i=>nmul (coN n f i) gG) co m'):=by
 obtain⟨S,hS⟩ :∃ S:Nat->Nat->Int,S=sealN n f t D me:=⟨_,rfl⟩
 have hSq:∀ q,S q=tnF (nmul (secN n f) (ptOf (D (othN me q - 1)))) me (othN me q) (kB (sumN (coN n f) (othN me q) (t+1) % nN)):=fun q=>by rw [hS];rfl
 rw [<- hS]
 clear hS
 obtain⟨xs,hxs⟩ :∃ s,s=secN n f:=⟨_,rfl⟩
 obtain⟨c,hc⟩ :∃ c,c=coN n f:=⟨_,rfl⟩
 rw [<- hc]
 rw [<- hc,<- hxs]at hSq
 refine xD ⟨rfl,?_⟩
 conv=>whnf
 repeat (refine⟨⟨_,rfl⟩,?_⟩;conv=>whnf)
 refine dK (by simp;omega) ?_
 conv=>whnf
 repeat (refine⟨⟨_,rfl⟩,?_⟩;conv=>whnf)
 refine dK (by simp;omega) ?_
 conv=>whnf
 repeat (refine⟨⟨_,rfl⟩,?_⟩;conv=>whnf)
 refine dK (by simp;omega) ?_
 conv=>whnf
 repeat (refine⟨⟨_,rfl⟩,?_⟩;conv=>whnf)
 refine kP (by simp;omega) ?_
 conv=>whnf
 repeat (refine⟨⟨_,rfl⟩,?_⟩;conv=>whnf)
 refine aR aH (I:=fun q l m=>∃ (k:Nat),l= [(0,.vsl 1 n cap (aB f)),(1,.int .i64 t),(2,.vsl 26 r c1 (dlG D d1 d2)),(3,.int .i64 me),(8,.ptr 0 0 0),(10,.int .i64 k)] /\ m= [some ⟨22,1,lstG 22 actZ⟩] /\ q+k=r) r
  (l0:= [(0,.vsl 1 n cap (aB f)),(1,.int .i64 t),(2,.vsl 26 r c1 (dlG D d1 d2)),(3,.int .i64 me),(8,.ptr 0 0 0),(10,.int .i64 (0:Nat))]) (m0:= [some ⟨22,1,lstG 22 actZ⟩]) [some 0] ⟨0,rfl,rfl,rfl⟩ ?_ ?_
 · exact .mk0 ⟨.eq _ _ rfl aO,Flat.i rfl,.eq _ _ rfl eF,Flat.i rfl,.ptr _ _ _ _ rfl,Flat.i rfl,trivial⟩ ⟨.old 0 0 _ _ rfl rfl ⟨rfl,Nat.le_refl _,fun i j hi hj=>act_blk0 hi rfl⟩,trivial⟩ rfl rfl
 · rintro q l m ⟨k,rfl,rfl,hq⟩
   conv=>whnf
   repeat (refine⟨⟨_,rfl⟩,?_⟩;conv=>whnf)
   refine aE (fun hb=> ?_) (fun hb=> ?_)
   · have hb:k<r:=by simp at hb;omega
     have e5:IntKind.i64.wrap ((k:Int)+1)=((k+1:Nat):Int):=by rw [w64 (by omega) (by omega)];omega
     conv=>whnf
     repeat (refine⟨⟨_,rfl⟩,?_⟩;conv=>whnf)
     refine aA (by simp;omega) ?_
     conv=>whnf
     repeat (refine⟨⟨_,rfl⟩,?_⟩;conv=>whnf)
     refine S_rCheckD (i:=(D k).i) (x:=(D k).x) (y:=(D k).y) rfl (hD k hb).2.2.1 (hD k hb).2.2.2 (fun P oP eP=> ?_) (fun hbad=>absurd (hD k hb).2.1 (hbad _ (hD k hb).1))
     conv=>whnf
     repeat (refine⟨⟨_,rfl⟩,?_⟩;conv=>whnf)
     refine⟨q - 1,[(0,.vsl 1 n cap (aB f)),(1,.int .i64 t),(2,.vsl 26 r c1 (dlG D d1 d2)),(3,.int .i64 me),(8,.ptr 0 0 0),(10,.int .i64 ((k+1:Nat):Int))],[some ⟨22,1,lstG 22 actZ⟩],[some 0],by omega,⟨k+1,rfl,rfl,by omega⟩,?_⟩
     exact .mk0 ⟨.eq _ _ rfl aO,Flat.i rfl,.eq _ _ rfl eF,Flat.i rfl,.ptr _ _ _ _ rfl,Flat.i e5,trivial⟩ ⟨.old 0 0 _ _ rfl rfl ⟨rfl,Nat.le_refl _,fun i j hi hj=>xA hi hj rfl⟩,trivial⟩ rfl rfl
   · have hb:k=r:=by simp at hb;omega
     subst hb
     conv=>whnf
     repeat (refine⟨⟨_,rfl⟩,?_⟩;conv=>whnf)
     refine S_RPoly (n:=n) (t:=t) (f:=f) bA.vsl hn ht hf (fun c' cc hc' hcN _=> ?_)
     obtain rfl:c=c':=hc.trans hc'.symm
     conv=>whnf
     repeat (refine⟨⟨_,rfl⟩,?_⟩;conv=>whnf)
     refine S_RCommit (n:=t+1) (c:=c) (bZ.sl rfl (by omega) (fun i j _ _=>⟨by rw [Nat.zero_add],dU⟩)) (fun i _=>Nat.lt_trans (hcN i) (by decide)) (by omega) (fun P cp hP=> ?_)
     conv=>whnf
     repeat (refine⟨⟨_,rfl⟩,?_⟩;conv=>whnf)
     have hsel0:∀ w,selN me w<=w:=fun w=>by unfold selN;split <;> omega
     refine aR aH (I:=fun q l m=>∃ w:Nat,q+w=k/\l= [(0,.vsl 1 n cap (aB f)),(2,.vsl 26 k c1 (dlG D d1 d2)),(3,.int .i64 me),(8,.ptr 0 0 0),(11,.sl 1 0 (t+1) cc),(12,.ptr 3 0 0),(13,.int .i64 ((w+1:Nat):Int))] /\
      ((selN me w=0/\m= [some ⟨22,1,lstG 22 actZ⟩,some ⟨4,t+1,kI c⟩,some ⟨9,t+1,ptsG P⟩,some ⟨22,1,lstG 22 (actL 2 false 0 0 nB .nils (.sl 2 0 (t+1) cp) 0 0 0)⟩,none])\/
       (∃ s ca,selN me w=s+1/\m= [some ⟨22,1,lstG 22 actZ⟩,some ⟨4,t+1,kI c⟩,some ⟨9,t+1,ptsG P⟩,some ⟨22,1,lstG 22 (actL 2 false 0 0 nB (.sl 4 0 (s+1) ca) (.sl 2 0 (t+1) cp) 0 0 0)⟩,some ⟨32,s+1,dB S⟩]))) k
      (l0:= [(0,.vsl 1 n cap (aB f)),(2,.vsl 26 k c1 (dlG D d1 d2)),(3,.int .i64 me),(8,.ptr 0 0 0),(11,.sl 1 0 (t+1) cc),(12,.ptr 3 0 0),(13,.int .i64 ((0+1:Nat):Int))]) (m0:= [some ⟨22,1,lstG 22 actZ⟩,some ⟨4,t+1,kI c⟩,some ⟨9,t+1,ptsG P⟩,some ⟨22,1,lstG 22 (actL 2 false 0 0 nB .nils (.sl 2 0 (t+1) cp) 0 0 0)⟩,none]) [some 0,some 1,some 2,some 3,none] ⟨0,rfl,rfl,.inl ⟨selN_0,rfl⟩⟩ ?_ ?_
     · refine .mk0 ⟨.eq _ _ rfl aO,.eq _ _ rfl eF,Flat.i rfl,.ptr _ _ _ _ rfl,.sl _ _ _ _ _ rfl,.ptr _ _ _ _ rfl,Flat.i rfl,trivial⟩ ⟨.old 0 0 _ _ rfl rfl ⟨rfl,Nat.le_refl _,fun i j hi hj=>xA hi hj rfl⟩,.old 1 1 _ _ rfl rfl ⟨rfl,Nat.le_refl _,fun i j hi hj=>RV.of rfl dU⟩,.old 2 2 _ _ rfl rfl ⟨rfl,Nat.le_refl _,fun i j hi hj=>RV.of rfl bK⟩,.old 3 3 _ _ rfl rfl ⟨rfl,Nat.le_refl _,fun i j hi hj=> ?_⟩,.dead _,trivial⟩ rfl rfl
       have hi:i<1:=hi
       have hj:j<22:=hj
       obtain rfl:i=0:=by omega
       have:j=0\/j=1\/j=2\/j=3\/j=4\/j=5\/j=6\/j=7\/j=8\/j=9\/j=10\/j=11\/j=12\/j=13\/j=14\/j=15\/j=16\/j=17\/j=18\/j=19\/j=20\/j=21:=by omega
       rcases this with rfl | rfl | rfl | rfl | rfl | rfl | rfl | rfl | rfl | rfl | rfl | rfl | rfl | rfl | rfl | rfl | rfl | rfl | rfl | rfl | rfl | rfl
       all_goals first
        | exact .eq _ _ rfl (.int _ _)
        | exact .eq _ _ rfl (.bool _)
        | exact .eq _ _ rfl (.str _)
        | exact .eq _ _ rfl .nils
        | exact .nils _ _
        | exact .sl _ _ _ _ _ rfl
     · rintro q l m ⟨w,hq,rfl,hm⟩
       rcases hm with⟨hs0,rfl⟩ | ⟨s,ca,hs0,rfl⟩
       · conv=>whnf
         repeat (refine⟨⟨_,rfl⟩,?_⟩;conv=>whnf)
         refine aE (fun hb=> ?_) (fun hb=> ?_)
         · have hb:w<k:=by simp at hb;omega
           have e5:IntKind.i64.wrap (((w+1:Nat):Int)+1)=((w+1+1:Nat):Int):=by rw [w64 (by omega) (by omega)];omega
           have e1:IntKind.i64.wrap (((w+1:Nat):Int) - 1)=((w:Nat):Int):=by rw [w64 (by omega) (by omega)];omega
           conv=>whnf
           repeat (refine⟨⟨_,rfl⟩,?_⟩;conv=>whnf)
           refine aE (fun hj=> ?_) (fun hj=> ?_)
           · have hj:¬ w+1=me:=by simp at hj;omega
             have es:selN me (w+1)=selN me w+1:=by unfold selN;split <;> split <;> omega
             have eo:othN me (selN me w)=w+1:=by unfold othN selN;split <;> split <;> omega
             conv=>whnf
             repeat (refine⟨⟨_,rfl⟩,?_⟩;conv=>whnf)
             rw [e1]
             refine aA (by simp;omega) ?_
             conv=>whnf
             repeat (refine⟨⟨_,rfl⟩,?_⟩;conv=>whnf)
             refine iY (n:=n) (f:=f) bA.vsl (by omega) hf (fun xs' hxs' hxs1 _=> ?_)
             obtain rfl:xs=xs':=hxs.trans hxs'.symm
             conv=>whnf
             repeat (refine⟨⟨_,rfl⟩,?_⟩;conv=>whnf)
             refine kU (n:=xs) (P:=ptOf (D w)) rfl (Eq.trans (b:=rawA (D w).i (D w).x (D w).y) rfl (hD w hb).2.1) (Nat.lt_trans hxs1 (by decide)) (hD w hb).1 (fun Q oQ hQ=> ?_)
             conv=>whnf
             repeat (refine⟨⟨_,rfl⟩,?_⟩;conv=>whnf)
             refine S_RInt (i:=w+1) (by omega) ?_
             conv=>whnf
             repeat (refine⟨⟨_,rfl⟩,?_⟩;conv=>whnf)
             refine S_REval (n:=t+1) (x:=w+1) (c:=c) (bZ.sl rfl (by omega) (fun i j _ _=>⟨by rw [Nat.zero_add],dU⟩)) (Nat.lt_of_le_of_lt (m:=8) (by omega) (by decide)) (fun i _=>Nat.lt_trans (hcN i) (by decide)) (by omega) (fun z hz hz1=> ?_)
             conv=>whnf
             repeat (refine⟨⟨_,rfl⟩,?_⟩;conv=>whnf)
             refine S_RSeal (P:=Q) (a:=(me:Int)) (b:=((w+1:Nat):Int)) (n:=z) (isD_nat (by omega) (by omega)) (isD_nat (by omega) (by omega)) (fun s1 hs hs1=> ?_)
             have hsS:∀ j,s1 j=S (0) j:=fun j=>by
              rw [<- hs0,hSq,eo,show w+1 - 1=w by omega,<- hQ,<- hz,hs]
             clear hs
             rw [rowL]
             conv=>whnf
             repeat (refine⟨⟨_,rfl⟩,?_⟩;conv=>whnf)
             first
              | refine fun cap' hcap=> ?_
              | refine aA (bM (by first | rfl | simp) rfl rfl (by have:=hsel0 w;omega) (by have:=hsel0 w;omega)) (fun cap' hcap=> ?_)
             conv=>whnf
             repeat (refine⟨⟨_,rfl⟩,?_⟩;conv=>whnf)
             refine⟨q - 1,[(0,.vsl 1 n cap (aB f)),(2,.vsl 26 k c1 (dlG D d1 d2)),(3,.int .i64 me),(8,.ptr 0 0 0),(11,.sl 1 0 (t+1) cc),(12,.ptr 3 0 0),(13,.int .i64 ((w+1+1:Nat):Int))],[some ⟨22,1,lstG 22 actZ⟩,some ⟨4,t+1,kI c⟩,some ⟨9,t+1,ptsG P⟩,some ⟨22,1,lstG 22 (actL 2 false 0 0 nB (.sl 4 0 (0+1) cap') (.sl 2 0 (t+1) cp) 0 0 0)⟩,some ⟨32,0+1,dB S⟩],[some 0,some 1,some 2,some 3,some 6],by omega,⟨w+1,by omega,rfl,.inr ⟨0,cap',by rw [es,hs0],rfl⟩⟩,?_⟩
             refine .mk0 ⟨.eq _ _ rfl aO,.eq _ _ rfl eF,Flat.i rfl,.ptr _ _ _ _ rfl,.sl _ _ _ _ _ rfl,.ptr _ _ _ _ rfl,Flat.i e5,trivial⟩ ⟨.old 0 0 _ _ rfl rfl ⟨rfl,Nat.le_refl _,fun i j hi hj=>xA hi hj rfl⟩,.old 1 1 _ _ rfl rfl ⟨rfl,Nat.le_refl _,fun i j hi hj=>RV.of rfl dU⟩,.old 2 2 _ _ rfl rfl ⟨rfl,Nat.le_refl _,fun i j hi hj=>RV.of rfl bK⟩,.old 3 3 _ _ rfl rfl ⟨rfl,Nat.le_refl _,fun i j hi hj=> ?_⟩,.old 4 6 _ _ rfl rfl ⟨rfl,Nat.le_refl _,fun i j hi hj=> ?_⟩,trivial⟩ rfl rfl
             · have hi:i<1:=hi
               have hj:j<22:=hj
               obtain rfl:i=0:=by omega
               have:j=0\/j=1\/j=2\/j=3\/j=4\/j=5\/j=6\/j=7\/j=8\/j=9\/j=10\/j=11\/j=12\/j=13\/j=14\/j=15\/j=16\/j=17\/j=18\/j=19\/j=20\/j=21:=by omega
               rcases this with rfl | rfl | rfl | rfl | rfl | rfl | rfl | rfl | rfl | rfl | rfl | rfl | rfl | rfl | rfl | rfl | rfl | rfl | rfl | rfl | rfl | rfl
               all_goals first
                | exact .eq _ _ rfl (.int _ _)
                | exact .eq _ _ rfl (.bool _)
                | exact .eq _ _ rfl (.str _)
                | exact .eq _ _ rfl .nils
                | exact .nils _ _
                | exact .sl _ _ _ _ _ rfl
             · dsimp only at hi hj ⊢
               first
                | refine seal_row hi hj (fun j _=>hsS j) rfl ?_
                | refine seal_row0 hi hj (fun j _=>hsS j) rfl ?_
               exact all32 ⟨rfl,rfl,rfl,rfl,rfl,rfl,rfl,rfl,rfl,rfl,rfl,rfl,rfl,rfl,rfl,rfl,rfl,rfl,rfl,rfl,rfl,rfl,rfl,rfl,rfl,rfl,rfl,rfl,rfl,rfl,rfl,rfl⟩
           · have hj:w+1=me:=by simp at hj;omega
             have es:selN me (w+1)=selN me w:=by unfold selN;rw [if_neg (by omega),if_pos (by omega)];omega
             conv=>whnf
             repeat (refine⟨⟨_,rfl⟩,?_⟩;conv=>whnf)
             refine⟨q - 1,[(0,.vsl 1 n cap (aB f)),(2,.vsl 26 k c1 (dlG D d1 d2)),(3,.int .i64 me),(8,.ptr 0 0 0),(11,.sl 1 0 (t+1) cc),(12,.ptr 3 0 0),(13,.int .i64 ((w+1+1:Nat):Int))],[some ⟨22,1,lstG 22 actZ⟩,some ⟨4,t+1,kI c⟩,some ⟨9,t+1,ptsG P⟩,some ⟨22,1,lstG 22 (actL 2 false 0 0 nB (.nils) (.sl 2 0 (t+1) cp) 0 0 0)⟩,none],[some 0,some 1,some 2,some 3,none],by omega,⟨w+1,by omega,rfl,by first | exact .inl ⟨by rw [es,hs0],rfl⟩ | exact .inr ⟨_,_,by rw [es,hs0],rfl⟩⟩,?_⟩
             refine .mk0 ⟨.eq _ _ rfl aO,.eq _ _ rfl eF,Flat.i rfl,.ptr _ _ _ _ rfl,.sl _ _ _ _ _ rfl,.ptr _ _ _ _ rfl,Flat.i e5,trivial⟩ ⟨.old 0 0 _ _ rfl rfl ⟨rfl,Nat.le_refl _,fun i j hi hj=>xA hi hj rfl⟩,.old 1 1 _ _ rfl rfl ⟨rfl,Nat.le_refl _,fun i j hi hj=>RV.of rfl dU⟩,.old 2 2 _ _ rfl rfl ⟨rfl,Nat.le_refl _,fun i j hi hj=>RV.of rfl bK⟩,.old 3 3 _ _ rfl rfl ⟨rfl,Nat.le_refl _,fun i j hi hj=> ?_⟩,by first | exact .dead _ | exact .old 4 4 _ _ rfl rfl ⟨rfl,Nat.le_refl _,fun i j hi hj=>RV.of rfl eJ⟩,trivial⟩ rfl rfl
             have hi:i<1:=hi
             have hj:j<22:=hj
             obtain rfl:i=0:=by omega
             have:j=0\/j=1\/j=2\/j=3\/j=4\/j=5\/j=6\/j=7\/j=8\/j=9\/j=10\/j=11\/j=12\/j=13\/j=14\/j=15\/j=16\/j=17\/j=18\/j=19\/j=20\/j=21:=by omega
             rcases this with rfl | rfl | rfl | rfl | rfl | rfl | rfl | rfl | rfl | rfl | rfl | rfl | rfl | rfl | rfl | rfl | rfl | rfl | rfl | rfl | rfl | rfl
             all_goals first
              | exact .eq _ _ rfl (.int _ _)
              | exact .eq _ _ rfl (.bool _)
              | exact .eq _ _ rfl (.str _)
              | exact .eq _ _ rfl .nils
              | exact .nils _ _
              | exact .sl _ _ _ _ _ rfl
         · have hb:w=k:=by simp at hb;omega
           subst hb
           conv=>whnf
           repeat (refine⟨⟨_,rfl⟩,?_⟩;conv=>whnf)
           have hsel:selN me w=w - 1:=by unfold selN;rw [if_neg (by omega)]
           have hw1:w - 1=0:=hsel.symm.trans hs0
           exact⟨.nils,.sl 2 0 (t+1) cp,rfl,by first | exact .inl ⟨rfl,hw1⟩ | exact .inr ⟨4,_,_,_,by rw [hw1],rfl,by omega,fun _ _ _ _=>rfl⟩,.inr ⟨_,cp,t+1,_,rfl,rfl,Nat.le_refl _,fun _ _ _ _=>by rw [hP]⟩⟩
       · conv=>whnf
         repeat (refine⟨⟨_,rfl⟩,?_⟩;conv=>whnf)
         refine aE (fun hb=> ?_) (fun hb=> ?_)
         · have hb:w<k:=by simp at hb;omega
           have e5:IntKind.i64.wrap (((w+1:Nat):Int)+1)=((w+1+1:Nat):Int):=by rw [w64 (by omega) (by omega)];omega
           have e1:IntKind.i64.wrap (((w+1:Nat):Int) - 1)=((w:Nat):Int):=by rw [w64 (by omega) (by omega)];omega
           conv=>whnf
           repeat (refine⟨⟨_,rfl⟩,?_⟩;conv=>whnf)
           refine aE (fun hj=> ?_) (fun hj=> ?_)
           · have hj:¬ w+1=me:=by simp at hj;omega
             have es:selN me (w+1)=selN me w+1:=by unfold selN;split <;> split <;> omega
             have eo:othN me (selN me w)=w+1:=by unfold othN selN;split <;> split <;> omega
             conv=>whnf
             repeat (refine⟨⟨_,rfl⟩,?_⟩;conv=>whnf)
             rw [e1]
             refine aA (by simp;omega) ?_
             conv=>whnf
             repeat (refine⟨⟨_,rfl⟩,?_⟩;conv=>whnf)
             refine iY (n:=n) (f:=f) bA.vsl (by omega) hf (fun xs' hxs' hxs1 _=> ?_)
             obtain rfl:xs=xs':=hxs.trans hxs'.symm
             conv=>whnf
             repeat (refine⟨⟨_,rfl⟩,?_⟩;conv=>whnf)
             refine kU (n:=xs) (P:=ptOf (D w)) rfl (Eq.trans (b:=rawA (D w).i (D w).x (D w).y) rfl (hD w hb).2.1) (Nat.lt_trans hxs1 (by decide)) (hD w hb).1 (fun Q oQ hQ=> ?_)
             conv=>whnf
             repeat (refine⟨⟨_,rfl⟩,?_⟩;conv=>whnf)
             refine S_RInt (i:=w+1) (by omega) ?_
             conv=>whnf
             repeat (refine⟨⟨_,rfl⟩,?_⟩;conv=>whnf)
             refine S_REval (n:=t+1) (x:=w+1) (c:=c) (bZ.sl rfl (by omega) (fun i j _ _=>⟨by rw [Nat.zero_add],dU⟩)) (Nat.lt_of_le_of_lt (m:=8) (by omega) (by decide)) (fun i _=>Nat.lt_trans (hcN i) (by decide)) (by omega) (fun z hz hz1=> ?_)
             conv=>whnf
             repeat (refine⟨⟨_,rfl⟩,?_⟩;conv=>whnf)
             refine S_RSeal (P:=Q) (a:=(me:Int)) (b:=((w+1:Nat):Int)) (n:=z) (isD_nat (by omega) (by omega)) (isD_nat (by omega) (by omega)) (fun s1 hs hs1=> ?_)
             have hsS:∀ j,s1 j=S ((s+1)) j:=fun j=>by
              rw [<- hs0,hSq,eo,show w+1 - 1=w by omega,<- hQ,<- hz,hs]
             clear hs
             rw [rowL]
             conv=>whnf
             repeat (refine⟨⟨_,rfl⟩,?_⟩;conv=>whnf)
             first
              | refine fun cap' hcap=> ?_
              | refine aA (bM (by first | rfl | simp) rfl rfl (by have:=hsel0 w;omega) (by have:=hsel0 w;omega)) (fun cap' hcap=> ?_)
             conv=>whnf
             repeat (refine⟨⟨_,rfl⟩,?_⟩;conv=>whnf)
             refine⟨q - 1,[(0,.vsl 1 n cap (aB f)),(2,.vsl 26 k c1 (dlG D d1 d2)),(3,.int .i64 me),(8,.ptr 0 0 0),(11,.sl 1 0 (t+1) cc),(12,.ptr 3 0 0),(13,.int .i64 ((w+1+1:Nat):Int))],[some ⟨22,1,lstG 22 actZ⟩,some ⟨4,t+1,kI c⟩,some ⟨9,t+1,ptsG P⟩,some ⟨22,1,lstG 22 (actL 2 false 0 0 nB (.sl 4 0 ((s+1)+1) cap') (.sl 2 0 (t+1) cp) 0 0 0)⟩,some ⟨32,(s+1)+1,dB S⟩],[some 0,some 1,some 2,some 3,some 6],by omega,⟨w+1,by omega,rfl,.inr ⟨(s+1),cap',by rw [es,hs0],rfl⟩⟩,?_⟩
             refine .mk0 ⟨.eq _ _ rfl aO,.eq _ _ rfl eF,Flat.i rfl,.ptr _ _ _ _ rfl,.sl _ _ _ _ _ rfl,.ptr _ _ _ _ rfl,Flat.i e5,trivial⟩ ⟨.old 0 0 _ _ rfl rfl ⟨rfl,Nat.le_refl _,fun i j hi hj=>xA hi hj rfl⟩,.old 1 1 _ _ rfl rfl ⟨rfl,Nat.le_refl _,fun i j hi hj=>RV.of rfl dU⟩,.old 2 2 _ _ rfl rfl ⟨rfl,Nat.le_refl _,fun i j hi hj=>RV.of rfl bK⟩,.old 3 3 _ _ rfl rfl ⟨rfl,Nat.le_refl _,fun i j hi hj=> ?_⟩,.old 4 6 _ _ rfl rfl ⟨rfl,Nat.le_refl _,fun i j hi hj=> ?_⟩,trivial⟩ rfl rfl
             · have hi:i<1:=hi
               have hj:j<22:=hj
               obtain rfl:i=0:=by omega
               have:j=0\/j=1\/j=2\/j=3\/j=4\/j=5\/j=6\/j=7\/j=8\/j=9\/j=10\/j=11\/j=12\/j=13\/j=14\/j=15\/j=16\/j=17\/j=18\/j=19\/j=20\/j=21:=by omega
               rcases this with rfl | rfl | rfl | rfl | rfl | rfl | rfl | rfl | rfl | rfl | rfl | rfl | rfl | rfl | rfl | rfl | rfl | rfl | rfl | rfl | rfl | rfl
               all_goals first
                | exact .eq _ _ rfl (.int _ _)
                | exact .eq _ _ rfl (.bool _)
                | exact .eq _ _ rfl (.str _)
                | exact .eq _ _ rfl .nils
                | exact .nils _ _
                | exact .sl _ _ _ _ _ rfl
             · dsimp only at hi hj ⊢
               first
                | refine seal_row hi hj (fun j _=>hsS j) rfl ?_
                | refine seal_row0 hi hj (fun j _=>hsS j) rfl ?_
               exact all32 ⟨rfl,rfl,rfl,rfl,rfl,rfl,rfl,rfl,rfl,rfl,rfl,rfl,rfl,rfl,rfl,rfl,rfl,rfl,rfl,rfl,rfl,rfl,rfl,rfl,rfl,rfl,rfl,rfl,rfl,rfl,rfl,rfl⟩
           · have hj:w+1=me:=by simp at hj;omega
             have es:selN me (w+1)=selN me w:=by unfold selN;rw [if_neg (by omega),if_pos (by omega)];omega
             conv=>whnf
             repeat (refine⟨⟨_,rfl⟩,?_⟩;conv=>whnf)
             refine⟨q - 1,[(0,.vsl 1 n cap (aB f)),(2,.vsl 26 k c1 (dlG D d1 d2)),(3,.int .i64 me),(8,.ptr 0 0 0),(11,.sl 1 0 (t+1) cc),(12,.ptr 3 0 0),(13,.int .i64 ((w+1+1:Nat):Int))],[some ⟨22,1,lstG 22 actZ⟩,some ⟨4,t+1,kI c⟩,some ⟨9,t+1,ptsG P⟩,some ⟨22,1,lstG 22 (actL 2 false 0 0 nB (.sl 4 0 (s+1) ca) (.sl 2 0 (t+1) cp) 0 0 0)⟩,some ⟨32,s+1,dB S⟩],[some 0,some 1,some 2,some 3,some 4],by omega,⟨w+1,by omega,rfl,by first | exact .inl ⟨by rw [es,hs0],rfl⟩ | exact .inr ⟨_,_,by rw [es,hs0],rfl⟩⟩,?_⟩
             refine .mk0 ⟨.eq _ _ rfl aO,.eq _ _ rfl eF,Flat.i rfl,.ptr _ _ _ _ rfl,.sl _ _ _ _ _ rfl,.ptr _ _ _ _ rfl,Flat.i e5,trivial⟩ ⟨.old 0 0 _ _ rfl rfl ⟨rfl,Nat.le_refl _,fun i j hi hj=>xA hi hj rfl⟩,.old 1 1 _ _ rfl rfl ⟨rfl,Nat.le_refl _,fun i j hi hj=>RV.of rfl dU⟩,.old 2 2 _ _ rfl rfl ⟨rfl,Nat.le_refl _,fun i j hi hj=>RV.of rfl bK⟩,.old 3 3 _ _ rfl rfl ⟨rfl,Nat.le_refl _,fun i j hi hj=> ?_⟩,by first | exact .dead _ | exact .old 4 4 _ _ rfl rfl ⟨rfl,Nat.le_refl _,fun i j hi hj=>RV.of rfl eJ⟩,trivial⟩ rfl rfl
             have hi:i<1:=hi
             have hj:j<22:=hj
             obtain rfl:i=0:=by omega
             have:j=0\/j=1\/j=2\/j=3\/j=4\/j=5\/j=6\/j=7\/j=8\/j=9\/j=10\/j=11\/j=12\/j=13\/j=14\/j=15\/j=16\/j=17\/j=18\/j=19\/j=20\/j=21:=by omega
             rcases this with rfl | rfl | rfl | rfl | rfl | rfl | rfl | rfl | rfl | rfl | rfl | rfl | rfl | rfl | rfl | rfl | rfl | rfl | rfl | rfl | rfl | rfl
             all_goals first
              | exact .eq _ _ rfl (.int _ _)
              | exact .eq _ _ rfl (.bool _)
              | exact .eq _ _ rfl (.str _)
              | exact .eq _ _ rfl .nils
              | exact .nils _ _
              | exact .sl _ _ _ _ _ rfl
         · have hb:w=k:=by simp at hb;omega
           subst hb
           conv=>whnf
           repeat (refine⟨⟨_,rfl⟩,?_⟩;conv=>whnf)
           have hsel:selN me w=w - 1:=by unfold selN;rw [if_neg (by omega)]
           have hw1:w - 1=(s+1):=hsel.symm.trans hs0
           exact⟨.sl 4 0 (s+1) ca,.sl 2 0 (t+1) cp,rfl,by first | exact .inl ⟨rfl,hw1⟩ | exact .inr ⟨4,_,_,_,by rw [hw1],rfl,by omega,fun _ _ _ _=>rfl⟩,.inr ⟨_,cp,t+1,_,rfl,rfl,Nat.le_refl _,fun _ _ _ _=>by rw [hP]⟩⟩
theorem S_RPost {m:Mem} {x z:AV} {K:AV->Mem->Prop} {n t:Nat} {f:Nat->Int} {r:Nat} {D:Nat->Dl} {me:Nat} (M:Nat) (hM:M+1=r) (hx:bA m x n f) (hz:cZ m z r D) (hn:n<=16384) (ht:t<64) (hf:∀ i,i<n->0<=f i/\f i<=255) (hr:r<=8) (hm:1<=me/\me<=r) (hD:∀ k,k<r->On (ptOf (D k))/\rawA (D k).i (D k).x (D k).y=ptA (ptOf (D k))/\(D k).x<w256/\(D k).y<w256)
 (h:∀ S P c1 c2,S=sealN n f t D me->P=(fun i=>nmul (coN n f i) gG)->memK (m++ [some ⟨32,M,dB S⟩,some ⟨9,t+1,ptsG P⟩]) (K (.tup [actA 2 false 0 0 nB (.sl m.length 0 M c1) (.sl (m.length+1) 0 (t+1) c2) 0 0 0,.int .i64 0]))):ACall Pg iO [x,.int .i64 t,z,.int .i64 me] m K:=by
 simp only [dJ]at h
 obtain rfl:M=r - 1:=by omega
 obtain⟨cap,hl⟩:=hx
 obtain⟨c1,d1,d2,hl2⟩:=hz
 exact lift_act (S_RPost0 n cap t f r c1 d1 d2 D me hn ht hf hr hm hD) (fun i j _ _=> .int _ _) (fun i j _ _=>bK) (.cons _ _ _ _ hl (.cons _ _ _ _ aK (.cons _ _ _ _ hl2 (.cons _ _ _ _ aK .nil)))) (fun k1 k2=>h _ _ k1 k2 rfl rfl)
end Go.Proofs.YtfolpdmbpbbimaaGreat
end

section
namespace Go.Proofs.YtfolpdmbpbbimaaGreat
open Go Go.Wit
theorem uC {es n p q i j:Nat} {g:Nat->Nat->AV} {v:AV} (hq:q<es):updG ⟨es,n,g⟩ p q 1 [v] i j=if i=p/\j=q then v else g i j:=by
 unfold updG
 have h1:Nat.ble (q+1) es=true:=by rw [Nat.ble_eq];omega
 simp only [h1,cond_true,iL]
 by_cases hp:i=p
 · by_cases hj:j=q
   · subst hp hj
     have h2:(Nat.ble j j && Nat.blt j (j+1))=true:=by simp only [Bool.and_eq_true,Nat.ble_eq,Nat.blt_eq];omega
     rw [h2];simp
   · have h2:(Nat.ble q j && Nat.blt j (q+1))=false:=by
      cases h:(Nat.ble q j && Nat.blt j (q+1))with
      | false=>rfl
      | true=>simp only [Bool.and_eq_true,Nat.ble_eq,Nat.blt_eq]at h;omega
     rw [h2,if_neg (fun h=>hj h.2)]
     simp
 · have h2:(i == p)=false:=by simpa using hp
   rw [h2,if_neg (fun h=>hp h.1)]
   simp
theorem lim0 (i:Nat):lim 0 i=0:=by simp [lim]
def fR (f:Nat->Int):Nat->Nat->AV:=fun i _=> .int .i64 (f i)
def sdF (n:Nat) (f:Nat->Int) (i:Nat):Nat->Int:=fun j=>if j<n then f j else (i:Int)
noncomputable def PK (n:Nat) (f:Nat->Int) (i:Nat):Pt Fp:=nmul (secN (n+1) (sdF n f i)) gG
noncomputable def D0 (n:Nat) (f:Nat->Int) (i:Nat):Dl:=⟨i,isI (PK n f i),xN (PK n f i),yN (PK n f i),nB,0,false,0,fun _ _=>0,0,fun _=>false,fun _=>0,fun _=>0,false,false,false,0,0⟩
noncomputable def D1 (n:Nat) (f:Nat->Int) (r t:Nat) (S:Nat->Nat->Int) (P:Nat->Pt Fp) (i:Nat):Dl:=⟨i,isI (PK n f i),xN (PK n f i),yN (PK n f i),nB,0,true,r - 1,S,t+1,fun k=>isI (P k),fun k=>xN (P k),fun k=>yN (P k),false,false,false,0,0⟩
noncomputable def kK (n:Nat) (f:Nat->Int) (t i:Nat):Nat->Nat->Int:=fun q=>tnF (nmul (secN (n+1) (sdF n f i)) (PK n f (othN (i+1) q - 1))) ((i+1:Nat):Int) (othN (i+1) q) (kB (sumN (coN (n+1) (sdF n f i)) (othN (i+1) q) (t+1) % nN))
noncomputable def comC (n:Nat) (f:Nat->Int) (i:Nat):Nat->Pt Fp:=fun k=>nmul (coN (n+1) (sdF n f i) k) gG
def parB (sp:Nat->Int) (i:Nat):Nat->Bool
 | 0=>false
 | c+1=>parB sp i c != (sp c == (i:Int))
theorem parB_true {sp:Nat->Int} {i c:Nat} (h:sp c=(i:Int)):parB sp i (c+1)= !parB sp i c:=by
 show (parB sp i c != (sp c == (i:Int)))=_
 rw [h];simp
theorem wP {sp:Nat->Int} {i c:Nat} (h:¬ sp c=(i:Int)):parB sp i (c+1)=parB sp i c:=by
 show (parB sp i c != (sp c == (i:Int)))=_
 have:(sp c == (i:Int))=false:=by simpa using h
 rw [this];simp
def spS (S:Nat->Nat->Int) (w:Nat) (b:Bool):Nat->Nat->Int:=fun q j=>if b=true/\q=w/\j=31 then xorB (S q j) 1 else S q j
theorem spS_no {S:Nat->Nat->Int} {w:Nat}:spS S w false=S:=by funext q j;simp [spS]
theorem jT {n:Nat} {f:Nat->Int} {i:Nat}:On (PK n f i):=on_G.nmul crvP _
theorem ptOf_D0 {n:Nat} {f:Nat->Int} {i:Nat}:ptOf (D0 n f i)=PK n f i:=ptOf_eq jT rfl
theorem ptOf_D1 {n:Nat} {f:Nat->Int} {r t i:Nat} {S:Nat->Nat->Int} {P:Nat->Pt Fp}:ptOf (D1 n f r t S P i)=PK n f i:=ptOf_eq jT rfl
theorem sH {n:Nat} {f:Nat->Int} {i:Nat} (hf:∀ j,j<n->0<=f j/\f j<=255) (hi:i<=255):∀ j,j<n+1->0<=sdF n f i j/\sdF n f i j<=255:=fun j hj=>by
 unfold sdF
 by_cases h:j<n
 · rw [if_pos h];exact hf j h
 · rw [if_neg h];omega
noncomputable def dq0 (n:Nat) (f:Nat->Int):Nat->Nat->AV:=fun k j=>(dlL (D0 n f k) .nils .nils).getD j .un
theorem flat_dq0 {nv:Bool} {n k j:Nat} {f:Nat->Int}:Flat nv (dq0 n f k j):=flat_dlL .nils .nils j
theorem nF {n k i:Nat} {f:Nat->Int} {v:AV} {g:Nat->Nat->AV} (hk:k<=255) (hi:i<n+1) (hv:v=catG n (aB f) g i 0) (hg:g 0 0= .int .u8 (IntKind.u8.wrap (k:Int))):v= .int .u8 (sdF n f k i):=by
 subst hv
 unfold sdF
 by_cases h:i<n
 · rw [cY h,if_pos h];rfl
 · rw [bL (by omega),if_neg h,show i - n=0 by omega,hg,IntKind.wrap_u8]
   congr 1;omega
noncomputable def Dm (n:Nat) (f:Nat->Int) (E:Nat->Dl) (k i:Nat):Dl:=if i<k then E i else D0 n f i
noncomputable def dqG (n:Nat) (f:Nat->Int) (E:Nat->Dl) (k:Nat) (C1 C2:Nat->Nat):Nat->Nat->AV:=fun i j=>if i<k then dlG E C1 C2 i j else dq0 n f i j
theorem rS {n k i j:Nat} {f:Nat->Int} {E:Nat->Dl} {C1 C2:Nat->Nat}:Flat false (dqG n f E k C1 C2 i j):=by
 unfold dqG;split
 · exact bU
 · exact flat_dq0
noncomputable def dqI (n:Nat) (f:Nat->Int) (E:Nat->Dl) (k R t a1 a2:Nat) (C1 C2:Nat->Nat):Nat->Nat->AV:=fun i j=>if i=k then (dlL {D0 n f k with ps:=true} (.sl 2 0 (R+1) a1) (.sl 3 0 (t+1) a2)).getD j .un else dqG n f E k C1 C2 i j
theorem dqG_zero {n i j:Nat} {f:Nat->Int} {E:Nat->Dl} {C1 C2:Nat->Nat}:dqG n f E 0 C1 C2 i j=dq0 n f i j:=if_neg (Nat.not_lt_zero _)
theorem shows_dq {m:Mem} {l r c n k N:Nat} {f:Nat->Int} {E:Nat->Dl} {C1 C2:Nat->Nat} (h:m[l]? = some (some ⟨26,N,dqG n f E k C1 C2⟩)) (hr:r<=N):cZ m (.sl l 0 r c) r (Dm n f E k):=by
 refine⟨c,fun i=>if i<k then C1 i else 0,fun i=>if i<k then C2 i else 0,?_⟩
 refine Lend.slR l 0 r c ⟨26,N,dqG n f E k C1 C2⟩ _ (List.mem_range.2 (bJ h)) h (by show 0+r<=N;omega) (fun i j hi hj=> ?_)
 rw [Nat.zero_add]
 show Lend _ _ _ (dqG n f E k C1 C2 i j) _
 unfold dqG
 by_cases hik:i<k
 · rw [if_pos hik]
   have e:dlG (Dm n f E k) (fun i=>if i<k then C1 i else 0) (fun i=>if i<k then C2 i else 0) i j=dlG E C1 C2 i j:=by
    unfold dlG Dm;simp only [if_pos hik]
   rw [e]
   exact aF bU
 · rw [if_neg hik]
   have e:dlG (Dm n f E k) (fun i=>if i<k then C1 i else 0) (fun i=>if i<k then C2 i else 0) i j=(dlL (D0 n f i) (.vsl 32 0 0 (dB (D0 n f i).S)) (.vsl 9 0 0 (dA (D0 n f i).I (D0 n f i).X (D0 n f i).Y))).getD j .un:=by
    unfold dlG Dm;simp only [if_neg hik];rfl
   rw [e]
   replace hj:j<26:=hj
   clear e
   revert j
   refine lt26 ?_ ?_ ?_ ?_ ?_ ?_ ?_ ?_ ?_ ?_ ?_ ?_ ?_ ?_ ?_ ?_ ?_ ?_ ?_ ?_ ?_ ?_ ?_ ?_ ?_ ?_
   all_goals first
    | exact .nils _ _
    | exact .rv _ _ (.eq _ _ rfl (.int _ _))
    | exact .rv _ _ (.eq _ _ rfl (.bool _))
    | exact .rv _ _ (.eq _ _ rfl (.str _))
theorem Dm_pt {n k i:Nat} {f:Nat->Int} {E:Nat->Dl} (hE:∀ i,ptOf (E i)=PK n f i/\rawA (E i).i (E i).x (E i).y=ptA (PK n f i)/\(E i).x<w256/\(E i).y<w256):ptOf (Dm n f E k i)=PK n f i/\rawA (Dm n f E k i).i (Dm n f E k i).x (Dm n f E k i).y=ptA (PK n f i)/\(Dm n f E k i).x<w256/\(Dm n f E k i).y<w256:=by
 unfold Dm
 by_cases h:i<k
 · rw [if_pos h];exact hE i
 · rw [if_neg h];exact⟨ptOf_D0,rfl,xN_w _,yN_w _⟩
noncomputable def DP (n:Nat) (f:Nat->Int) (r t w ns:Nat) (sp:Nat->Int) (i:Nat):Dl:=D1 n f r t (spS (kK n f t i) w (parB sp i ns)) (comC n f i) i
theorem DP_pt {n r t w ns:Nat} {f sp:Nat->Int} (i:Nat):ptOf (DP n f r t w ns sp i)=PK n f i/\rawA (DP n f r t w ns sp i).i (DP n f r t w ns sp i).x (DP n f r t w ns sp i).y=ptA (PK n f i)/\(DP n f r t w ns sp i).x<w256/\(DP n f r t w ns sp i).y<w256:=⟨ptOf_D1,rfl,xN_w _,yN_w _⟩
theorem seal_Dm {n t k:Nat} {f:Nat->Int} {E:Nat->Dl} (hE:∀ i,ptOf (E i)=PK n f i):sealN (n+1) (sdF n f k) t (Dm n f E k) (k+1)=kK n f t k:=by
 funext q
 unfold sealN kK
 have:ptOf (Dm n f E k (othN (k+1) q - 1))=PK n f (othN (k+1) q - 1):=by
  unfold Dm
  by_cases h:othN (k+1) q - 1<k
  · rw [if_pos h];exact hE _
  · rw [if_neg h];exact ptOf_D0
 rw [this]
theorem dqI_rv {n k R t a1 a2 i j:Nat} {f:Nat->Int} {E:Nat->Dl} {C1 C2:Nat->Nat} (hj:j<26):
 RV false (fun l=> [some 0,some 1,some 5,some 6].getD l none) (updG ⟨26,R+2,updG ⟨26,R+2,updG ⟨26,R+2,dqG n f E k C1 C2⟩ (0+k) 12 1 [.bool true]⟩ (0+k) 13 1 [.sl 5 0 (R+1) a1]⟩ (0+k) 14 1 [.sl 6 0 (t+1) a2] i j) (dqI n f E k R t a1 a2 C1 C2 i j):=by
 rw [uC (by decide),uC (by decide),uC (by decide),Nat.zero_add]
 unfold dqI
 by_cases hik:i=k
 · subst hik
   simp only [true_and,if_true]
   by_cases h14:j=14
   · subst h14;rw [if_pos rfl];exact .sl _ _ _ _ _ rfl
   by_cases h13:j=13
   · subst h13;rw [if_neg h14,if_pos rfl];exact .sl _ _ _ _ _ rfl
   by_cases h12:j=12
   · subst h12;rw [if_neg h14,if_neg h13,if_pos rfl];exact .eq _ _ rfl (.bool _)
   rw [if_neg h14,if_neg h13,if_neg h12]
   unfold dqG dq0
   rw [if_neg (Nat.lt_irrefl _)]
   revert h12 h13 h14
   revert j
   intro j hj
   refine lt26 (P:=fun j=>j ≠ 14->j ≠ 13->j ≠ 12->RV false (fun l=> [some 0,some 1,some 5,some 6].getD l none) ((dlL (D0 n f i) .nils .nils).getD j .un) ((dlL {D0 n f i with ps:=true} (.sl 2 0 (R+1) a1) (.sl 3 0 (t+1) a2)).getD j .un)) ?_ ?_ ?_ ?_ ?_ ?_ ?_ ?_ ?_ ?_ ?_ ?_ ?_ ?_ ?_ ?_ ?_ ?_ ?_ ?_ ?_ ?_ ?_ ?_ ?_ ?_ j hj
   all_goals (intro a b c;first | exact absurd rfl a | exact absurd rfl b | exact absurd rfl c | exact .eq _ _ rfl (.int _ _) | exact .eq _ _ rfl (.bool _) | exact .eq _ _ rfl (.str _))
 · simp only [hik,false_and,if_false]
   exact RV.of rfl rS
theorem cell_I {n k R t a1 a2 N:Nat} {f:Nat->Int} {E:Nat->Dl} {C1 C2:Nat->Nat}:cellG ⟨26,N,fun i j=>fl0 4 (dqI n f E k R t a1 a2 C1 C2 i j)⟩ (0+(k:Int).toNat) (0+13) 0= .sl 2 0 (R+1) a1:=by
 rw [show 0+(k:Int).toNat=k by simp]
 show fl0 4 (dqI n f E k R t a1 a2 C1 C2 k 13)=_
 unfold dqI
 rw [if_pos rfl]
 rfl
theorem aBv {n k R t a1 a2 i j:Nat} {f:Nat->Int} {E:Nat->Dl} {C1 C2:Nat->Nat} (hj:j<26):RV false (fun l=> [some 0,some 1,some 2,some 3].getD l none) (dqI n f E k R t a1 a2 C1 C2 i j) (dqI n f E k R t a1 a2 C1 C2 i j):=by
 unfold dqI
 by_cases hik:i=k
 · rw [if_pos hik]
   revert j
   intro j hj
   refine lt26 (P:=fun j=>RV false (fun l=> [some 0,some 1,some 2,some 3].getD l none) ((dlL {D0 n f k with ps:=true} (.sl 2 0 (R+1) a1) (.sl 3 0 (t+1) a2)).getD j .un) ((dlL {D0 n f k with ps:=true} (.sl 2 0 (R+1) a1) (.sl 3 0 (t+1) a2)).getD j .un)) ?_ ?_ ?_ ?_ ?_ ?_ ?_ ?_ ?_ ?_ ?_ ?_ ?_ ?_ ?_ ?_ ?_ ?_ ?_ ?_ ?_ ?_ ?_ ?_ ?_ ?_ j hj
   all_goals (first | exact .eq _ _ rfl (.int _ _) | exact .eq _ _ rfl (.bool _) | exact .eq _ _ rfl (.str _) | exact .sl _ _ _ _ _ rfl)
 · rw [if_neg hik]
   exact RV.of rfl rS
theorem pF {A C:Nat} (h1:A<256) (h2:C<256):xorB (A:Int) (C:Int)=((A ^^^ C:Nat):Int):=by
 have e:(BitVec.ofInt 8 (A:Int) ^^^ BitVec.ofInt 8 (C:Int)).toNat=A ^^^ C:=by
  rw [BitVec.toNat_xor,BitVec.toNat_ofInt,BitVec.toNat_ofInt]
  have g1:((A:Int) % ((2 ^ 8:Nat):Int)).toNat=A:=by omega
  have g2:((C:Int) % ((2 ^ 8:Nat):Int)).toNat=C:=by omega
  rw [g1,g2]
 show IntKind.u8.wrap ((BitVec.ofInt 8 (A:Int) ^^^ BitVec.ofInt 8 (C:Int)).toNat:Int)=_
 rw [e,IntKind.wrap_u8]
 have:A ^^^ C<2 ^ 8:=Nat.xor_lt_two_pow h1 h2
 omega
theorem rT {a:Int} (ha:0<=a/\a<=255):∃ A:Nat,a=A/\A<256:=⟨a.toNat,by omega,by omega⟩
theorem xorB_xorB1 {a c:Int} (ha:0<=a/\a<=255) (hc:0<=c/\c<=255):xorB (xorB a c) c=a:=by
 obtain⟨A,rfl,hA⟩:=rT ha
 obtain⟨C,rfl,hC⟩:=rT hc
 have h1:A ^^^ C<2 ^ 8:=Nat.xor_lt_two_pow hA hC
 rw [pF hA hC,pF h1 hC,Nat.xor_assoc,Nat.xor_self,Nat.xor_zero]
theorem xorB_swap {a c d:Int} (ha:0<=a/\a<=255) (hc:0<=c/\c<=255) (hd:0<=d/\d<=255):xorB (xorB (xorB a c) d) c=xorB a d:=by
 obtain⟨A,rfl,hA⟩:=rT ha
 obtain⟨C,rfl,hC⟩:=rT hc
 obtain⟨D,rfl,hD⟩:=rT hd
 have h1:A ^^^ C<2 ^ 8:=Nat.xor_lt_two_pow hA hC
 have h2:A ^^^ C ^^^ D<2 ^ 8:=Nat.xor_lt_two_pow h1 hD
 rw [pF hA hC,pF h1 hD,pF h2 hC,pF hA hD,Nat.xor_assoc (A ^^^ C),Nat.xor_comm D C,<- Nat.xor_assoc,Nat.xor_assoc A C C,Nat.xor_self,Nat.xor_zero]
theorem spS_step {S:Nat->Nat->Int} {w i j:Nat} {b:Bool} (hS:∀ q j,0<=S q j/\S q j<=255):spS S w (!b) i j=if i=w/\j=31 then xorB (spS S w b i j) 1 else spS S w b i j:=by
 unfold spS
 by_cases h:i=w/\j=31
 · rw [if_pos h]
   cases b with
   | false=>rw [if_pos ⟨rfl,h⟩,if_neg (fun x=>Bool.noConfusion x.1)]
   | true=>rw [if_neg (fun x=>Bool.noConfusion x.1),if_pos ⟨rfl,h⟩,xorB_xorB1 (hS _ _) ⟨by decide,by decide⟩]
 · rw [if_neg h,if_neg (fun x=>h x.2),if_neg (fun x=>h x.2)]
theorem sealS_lt {n t k:Nat} {f:Nat->Int} (q j:Nat):0<=kK n f t k q j/\kK n f t k q j<=255:=jJ _ _
theorem sp_cell {n:Nat} {S:Nat->Nat->Int} {w i j:Nat} {b:Bool} (hS:∀ q j,0<=S q j/\S q j<=255):updG ⟨32,n,dB (spS S w b)⟩ (0+(w:Int).toNat) (0+Int.toNat 31*1) 1 [.int .u8 (eE .xor .u8 (spS S w b (0+(w:Int).toNat) (0+Int.toNat 31*1+0)) 1)] i j=dB (spS S w (!b)) i j:=by
 show updG ⟨32,n,dB (spS S w b)⟩ (0+(w:Int).toNat) 31 1 [.int .u8 (xorB (spS S w b (0+(w:Int).toNat) 31) 1)] i j=dB (spS S w (!b)) i j
 rw [uC (by decide),show 0+(w:Int).toNat=w by simp]
 show _=AV.int .u8 _
 rw [spS_step hS]
 by_cases h:i=w/\j=31
 · rw [if_pos h,if_pos h,h.1,h.2]
 · rw [if_neg h,if_neg h];rfl
noncomputable def dqJ (n:Nat) (f:Nat->Int) (E:Nat->Dl) (k t a1 a2:Nat) (C1 C2:Nat->Nat):Nat->Nat->AV:=fun i j=>if i=k/\j=14 then .sl 3 0 (t+1) a2 else dqG n f E (k+1) (fun i=>if i=k then a1 else C1 i) C2 i j
theorem fz_c {n k R t a1 a2 i j:Nat} {f:Nat->Int} {E:Nat->Dl} {S:Nat->Nat->Int} {C1 C2:Nat->Nat} (hE:E k=D1 n f (R+2) t S (comC n f k) k) (hj:j<26):FzV 2 ⟨32,R+1,dB S⟩ (dqI n f E k R t a1 a2 C1 C2 i j) (dqJ n f E k t a1 a2 C1 C2 i j):=by
 unfold dqI dqJ
 by_cases hik:i=k
 · subst hik
   rw [if_pos rfl]
   by_cases h14:j=14
   · subst h14;rw [if_pos ⟨rfl,rfl⟩];exact .inl rfl
   rw [if_neg (fun h=>h14 h.2)]
   unfold dqG
   rw [if_pos (Nat.lt_succ_self _)]
   unfold dlG
   rw [hE];dsimp only;rw [if_pos rfl]
   by_cases h13:j=13
   · subst h13
     exact .inr (.inr ⟨0,R+1,a1,dB S,rfl,rfl,by show 0+(R+1)<=R+1;omega,fun a b _ _=>by rw [Nat.zero_add]⟩)
   refine .inl ?_
   revert h13 h14
   revert j
   intro j hj
   refine lt26 (P:=fun j=>j ≠ 14->j ≠ 13->(dlL (D1 n f (R+2) t S (comC n f i) i) (.vsl 32 (R+2 - 1) a1 (dB S)) (.vsl 9 (t+1) (C2 i) (ptsG (comC n f i)))).getD j .un=(dlL {D0 n f i with ps:=true} (.sl 2 0 (R+1) a1) (.sl 3 0 (t+1) a2)).getD j .un) ?_ ?_ ?_ ?_ ?_ ?_ ?_ ?_ ?_ ?_ ?_ ?_ ?_ ?_ ?_ ?_ ?_ ?_ ?_ ?_ ?_ ?_ ?_ ?_ ?_ ?_ j hj
   all_goals (intro a b;first | rfl | exact absurd rfl a | exact absurd rfl b)
 · rw [if_neg hik,if_neg (fun h=>hik h.1)]
   refine .inl ?_
   unfold dqG
   by_cases h:i<k
   · rw [if_pos h,if_pos (by omega)]
     unfold dlG;simp only [if_neg hik]
   · rw [if_neg h,if_neg (by omega)]
theorem fz_d {n k R t a1 a2 i j:Nat} {f:Nat->Int} {E:Nat->Dl} {S:Nat->Nat->Int} {C1 C2:Nat->Nat} (hE:E k=D1 n f (R+2) t S (comC n f k) k) (hj:j<26):FzV 3 ⟨9,t+1,ptsG (comC n f k)⟩ (dqJ n f E k t a1 a2 C1 C2 i j) (dqG n f E (k+1) (fun i=>if i=k then a1 else C1 i) (fun i=>if i=k then a2 else C2 i) i j):=by
 unfold dqJ
 by_cases hik:i=k
 · subst hik
   by_cases h14:j=14
   · subst h14
     rw [if_pos ⟨rfl,rfl⟩]
     unfold dqG
     rw [if_pos (Nat.lt_succ_self _)]
     unfold dlG
     rw [hE];dsimp only;rw [if_pos rfl,if_pos rfl]
     exact .inr (.inr ⟨0,t+1,a2,ptsG (comC n f i),rfl,rfl,by show 0+(t+1)<=t+1;omega,fun a b _ _=>by rw [Nat.zero_add]⟩)
   rw [if_neg (fun h=>h14 h.2)]
   refine .inl ?_
   unfold dqG
   rw [if_pos (Nat.lt_succ_self _),if_pos (Nat.lt_succ_self _)]
   unfold dlG
   revert h14
   revert j
   intro j hj
   refine lt26 (P:=fun j=>j ≠ 14->(dlL (E i) (.vsl 32 (E i).ns (if i=i then a1 else C1 i) (dB (E i).S)) (.vsl 9 (E i).nc (if i=i then a2 else C2 i) (dA (E i).I (E i).X (E i).Y))).getD j .un=(dlL (E i) (.vsl 32 (E i).ns (if i=i then a1 else C1 i) (dB (E i).S)) (.vsl 9 (E i).nc (C2 i) (dA (E i).I (E i).X (E i).Y))).getD j .un) ?_ ?_ ?_ ?_ ?_ ?_ ?_ ?_ ?_ ?_ ?_ ?_ ?_ ?_ ?_ ?_ ?_ ?_ ?_ ?_ ?_ ?_ ?_ ?_ ?_ ?_ j hj
   all_goals (intro a;first | rfl | exact absurd rfl a)
 · rw [if_neg (fun h=>hik h.1)]
   refine .inl ?_
   unfold dqG
   by_cases h:i<k+1
   · rw [if_pos h,if_pos h]
     unfold dlG;simp only [if_neg hik]
   · rw [if_neg h,if_neg h]
set_option maxHeartbeats 4000000 in
theorem S_PostedV (R t n cap ns cs w:Nat) (f sp:Nat->Int) (whom:Int) (hR:R<=2) (ht:t<64) (hn:n<=100) (hns:ns<=1000) (hf:∀ i,i<n->0<=f i/\f i<=255)
 (hw:IntKind.i64.wrap ((IntKind.u64.wrap whom).tmod (IntKind.u64.wrap (IntKind.i64.wrap (((R+2:Nat):Int) - 1))))=w) (hwR:w<R+1):
 ACall Pg cC [.int .i64 (R+2:Nat),.int .i64 t,.vsl 1 n cap (aB f),.vsl 1 ns cs (fR sp),.int .i64 whom] [none]
  (fun v m'=>m'[0]? = some (none)/\∃ l c C1 C2,1<=l/\v= .sl l 0 (R+2) c/\m'[l]? = some (some ⟨26,R+2,dqG n f (DP n f (R+2) t w ns sp) (R+2) C1 C2⟩)):=by
 have e7:IntKind.u64.wrap (IntKind.i64.wrap (((R+2:Nat):Int) - 1))=((R+1:Nat):Int):=by
  have:R=0\/R=1\/R=2:=by omega
  rcases this with rfl | rfl | rfl <;> decide
 have e8:(((R+1:Nat):Int) == 0)=false:=by simp;omega
 refine mL ⟨rfl,?_⟩
 conv=>whnf
 repeat (refine⟨⟨_,rfl⟩,?_⟩;conv=>whnf)
 refine aR aH (I:=fun q l m=>∃ k c':Nat,q+k=R+2/\l= [(0,.int .i64 (R+2:Nat)),(1,.int .i64 t),(2,.vsl 1 n cap (aB f)),(3,.vsl 1 ns cs (fR sp)),(4,.int .i64 whom),(11,.sl 1 0 k c'),(12,.int .i64 k)] /\ m= [none,some ⟨26,k,dq0 n f⟩]) (R+2)
  (l0:= [(0,.int .i64 (R+2:Nat)),(1,.int .i64 t),(2,.vsl 1 n cap (aB f)),(3,.vsl 1 ns cs (fR sp)),(4,.int .i64 whom),(11,.sl 1 0 0 0),(12,.int .i64 (0:Nat))]) (m0:= [none,some ⟨26,0,dq0 n f⟩]) [some 0,none] ⟨0,0,rfl,rfl,rfl⟩ ?_ ?_
 · exact .mkN ⟨Flat.i rfl,Flat.i rfl,.eq _ _ rfl aO,.eq _ _ rfl (.vsl _ _ _ _ rfl fun _ _ _ _=> .int _ _),Flat.i rfl,.nils _ _,Flat.i rfl,trivial⟩ ⟨.dead _,.ph _ _ _ rfl,trivial⟩ rfl rfl rfl
 · rintro q l m ⟨k,c',hq,rfl,rfl⟩
   conv=>whnf
   repeat (refine⟨⟨_,rfl⟩,?_⟩;conv=>whnf)
   refine aE (fun hb=> ?_) (fun hb=> ?_)
   · have hb:k<R+2:=by simp at hb;omega
     have e5:IntKind.i64.wrap ((k:Int)+1)=((k+1:Nat):Int):=by rw [w64 (by omega) (by omega)];omega
     conv=>whnf
     repeat (refine⟨⟨_,rfl⟩,?_⟩;conv=>whnf)
     refine vD (n:=n) (f:=f) bA.vsl (by omega) (fun cap1=> ?_)
     conv=>whnf
     repeat (refine⟨⟨_,rfl⟩,?_⟩;conv=>whnf)
     refine aA (bM (by first | rfl | simp) rfl rfl (by omega) (by omega)) (fun cap2 hcap2=> ?_)
     conv=>whnf
     repeat (refine⟨⟨_,rfl⟩,?_⟩;conv=>whnf)
     refine iY (n:=n+1) (f:=sdF n f k) (bA.slG rfl (Nat.le_of_eq (Nat.zero_add _)) fun i hi=> ?_) (by omega) (sH hf (by omega)) (fun a ha ha1 _=> ?_)
     · rw [show 0+i=i from Nat.zero_add i]
       exact nF (by omega) hi rfl rfl
     conv=>whnf
     repeat (refine⟨⟨_,rfl⟩,?_⟩;conv=>whnf)
     refine T_RBase (n:=a) (Nat.lt_trans ha1 (by decide)) (fun P oP hP=> ?_)
     obtain rfl:P=PK n f k:=by rw [hP,ha];rfl
     conv=>whnf
     repeat (refine⟨⟨_,rfl⟩,?_⟩;conv=>whnf)
     refine aA (bM (by first | rfl | simp) rfl rfl (by omega) (by omega)) (fun cap3 hcap3=> ?_)
     conv=>whnf
     repeat (refine⟨⟨_,rfl⟩,?_⟩;conv=>whnf)
     refine⟨q - 1,[(0,.int .i64 (R+2:Nat)),(1,.int .i64 t),(2,.vsl 1 n cap (aB f)),(3,.vsl 1 ns cs (fR sp)),(4,.int .i64 whom),(11,.sl 1 0 (k+1) cap3),(12,.int .i64 ((k+1:Nat):Int))],[none,some ⟨26,k+1,dq0 n f⟩],[some 0,some 6],by omega,⟨k+1,cap3,by omega,rfl,rfl⟩,?_⟩
     refine .mkN ⟨Flat.i rfl,Flat.i rfl,.eq _ _ rfl aO,.eq _ _ rfl (.vsl _ _ _ _ rfl fun _ _ _ _=> .int _ _),Flat.i rfl,.sl _ _ _ _ _ rfl,Flat.i e5,trivial⟩ ⟨.dead _,.old 1 6 _ _ rfl rfl ⟨rfl,Nat.le_refl _,fun i j hi hj=>RV.of ?_ flat_dq0⟩,trivial⟩ rfl rfl rfl
     replace hi:i<k+1:=hi
     replace hj:j<26:=hj
     dsimp only
     by_cases hik:i<k
     · rw [cY hik]
     · obtain rfl:i=k:=by omega
       rw [bL (Nat.le_refl _),Nat.sub_self]
       clear hi hik
       revert j
       refine lt26 ?_ ?_ ?_ ?_ ?_ ?_ ?_ ?_ ?_ ?_ ?_ ?_ ?_ ?_ ?_ ?_ ?_ ?_ ?_ ?_ ?_ ?_ ?_ ?_ ?_ ?_
       all_goals first
        | rfl
        | exact congrArg (AV.int IntKind.u64) (lim0 _).symm
   · have hb:k=R+2:=by simp at hb;omega
     subst hb
     conv=>whnf
     repeat (refine⟨⟨_,rfl⟩,?_⟩;conv=>whnf)
     refine loop_fz aH (I:=fun q l m=>∃ (k c:Nat) (C1 C2:Nat->Nat),q+k=R+2/\l= [(0,.int .i64 (R+2:Nat)),(1,.int .i64 t),(2,.vsl 1 n cap (aB f)),(3,.vsl 1 ns cs (fR sp)),(4,.int .i64 whom),(11,.sl 1 0 (R+2) c),(14,.int .i64 k)] /\ m= [none,some ⟨26,R+2,dqG n f (DP n f (R+2) t w ns sp) k C1 C2⟩]) (R+2)
      (l0:= [(0,.int .i64 (R+2:Nat)),(1,.int .i64 t),(2,.vsl 1 n cap (aB f)),(3,.vsl 1 ns cs (fR sp)),(4,.int .i64 whom),(11,.sl 1 0 (R+2) c'),(14,.int .i64 (0:Nat))]) (m0:= [none,some ⟨26,R+2,dqG n f (DP n f (R+2) t w ns sp) 0 (fun _=>0) (fun _=>0)⟩]) [some 0,some 1] ⟨0,c',_,_,rfl,rfl,rfl⟩ ?_ ?_
     · exact .mkN ⟨Flat.i rfl,Flat.i rfl,.eq _ _ rfl aO,.eq _ _ rfl (.vsl _ _ _ _ rfl fun _ _ _ _=> .int _ _),Flat.i rfl,.sl _ _ _ _ _ rfl,Flat.i rfl,trivial⟩ ⟨.dead _,.old 1 1 _ _ rfl rfl ⟨rfl,Nat.le_refl _,fun i j hi hj=>RV.of (dqG_zero (n:=n) (f:=f) (E:=DP n f (R+2) t w ns sp) (C1:=fun _=>0) (C2:=fun _=>0)).symm (by dsimp only;exact rS)⟩,trivial⟩ rfl rfl rfl
     · rintro q0 l m ⟨k,c,C1,C2,hq,rfl,rfl⟩
       conv=>whnf
       repeat (refine⟨⟨_,rfl⟩,?_⟩;conv=>whnf)
       refine aE (fun hb=> ?_) (fun hb=> ?_)
       · have hb:k<R+2:=by simp at hb;omega
         have e5:IntKind.i64.wrap ((k:Int)+1)=((k+1:Nat):Int):=by rw [w64 (by omega) (by omega)];omega
         conv=>whnf
         repeat (refine⟨⟨_,rfl⟩,?_⟩;conv=>whnf)
         refine vD (n:=n) (f:=f) bA.vsl (by omega) (fun cap1=> ?_)
         conv=>whnf
         repeat (refine⟨⟨_,rfl⟩,?_⟩;conv=>whnf)
         refine aA (bM (by first | rfl | simp) rfl rfl (by omega) (by omega)) (fun cap2 hcap2=> ?_)
         conv=>whnf
         repeat (refine⟨⟨_,rfl⟩,?_⟩;conv=>whnf)
         rw [e5]
         refine S_RPost (n:=n+1) (f:=sdF n f k) (t:=t) (r:=R+2) (D:=Dm n f (DP n f (R+2) t w ns sp) k) (me:=k+1) (R+1) rfl (bA.slG rfl (Nat.le_of_eq (Nat.zero_add _)) fun i hi=> ?_) (shows_dq rfl (Nat.le_refl _)) (by omega) ht (sH hf (by omega)) (by omega) (by omega) (fun i hi=> ?_) (fun S P a1 a2 hS hP=> ?_)
         · rw [show 0+i=i from Nat.zero_add i]
           exact nF (by omega) hi rfl rfl
         · obtain⟨g1,g2,g3,g4⟩:=Dm_pt (k:=k) (i:=i) (DP_pt (n:=n) (f:=f) (r:=R+2) (t:=t) (w:=w) (ns:=ns) (sp:=sp))
           exact⟨by rw [g1];exact jT,by rw [g1];exact g2,g3,g4⟩
         have hS:S=kK n f t k:=hS.trans (seal_Dm (fun i=>(DP_pt i).1))
         have hP:P=comC n f k:=hP
         conv=>whnf
         repeat (refine⟨⟨_,rfl⟩,?_⟩;conv=>whnf)
         refine aA (by simp only [Bool.and_eq_true,decide_eq_true_eq];omega) ?_
         conv=>whnf
         repeat (refine⟨⟨_,rfl⟩,?_⟩;conv=>whnf)
         refine aA (by simp [bI,Nat.ble_eq];omega) ?_
         conv=>whnf
         repeat (refine⟨⟨_,rfl⟩,?_⟩;conv=>whnf)
         refine aA (by simp only [Bool.and_eq_true,decide_eq_true_eq];omega) ?_
         conv=>whnf
         repeat (refine⟨⟨_,rfl⟩,?_⟩;conv=>whnf)
         refine aA (by simp [bI,Nat.ble_eq];omega) ?_
         conv=>whnf
         repeat (refine⟨⟨_,rfl⟩,?_⟩;conv=>whnf)
         refine aA (by simp only [Bool.and_eq_true,decide_eq_true_eq];omega) ?_
         conv=>whnf
         repeat (refine⟨⟨_,rfl⟩,?_⟩;conv=>whnf)
         refine aA (by simp [bI,Nat.ble_eq];omega) ?_
         conv=>whnf
         repeat (refine⟨⟨_,rfl⟩,?_⟩;conv=>whnf)
         refine aR aH (I:=fun q l m=>∃ kk:Nat,q+kk=ns/\l= [(0,.int .i64 (R+2:Nat)),(1,.int .i64 t),(2,.vsl 1 n cap (aB f)),(3,.vsl 1 ns cs (fR sp)),(4,.int .i64 whom),(11,.sl 1 0 (R+2) c),(14,.int .i64 k),(18,.int .i64 kk)] /\ m= [none,some ⟨26,R+2,dqI n f (DP n f (R+2) t w ns sp) k R t a1 a2 C1 C2⟩,some ⟨32,R+1,dB (spS (kK n f t k) w (parB sp k kk))⟩,some ⟨9,t+1,ptsG (comC n f k)⟩]) ns
          (l0:= [(0,.int .i64 (R+2:Nat)),(1,.int .i64 t),(2,.vsl 1 n cap (aB f)),(3,.vsl 1 ns cs (fR sp)),(4,.int .i64 whom),(11,.sl 1 0 (R+2) c),(14,.int .i64 k),(18,.int .i64 (0:Nat))]) (m0:= [none,some ⟨26,R+2,dqI n f (DP n f (R+2) t w ns sp) k R t a1 a2 C1 C2⟩,some ⟨32,R+1,dB (spS (kK n f t k) w (parB sp k 0))⟩,some ⟨9,t+1,ptsG (comC n f k)⟩]) [some 0,some 1,some 5,some 6] ⟨0,rfl,rfl,rfl⟩ ?_ ?_
         · refine .mkN ⟨Flat.i rfl,Flat.i rfl,.eq _ _ rfl aO,.eq _ _ rfl (.vsl _ _ _ _ rfl fun _ _ _ _=> .int _ _),Flat.i rfl,.sl _ _ _ _ _ rfl,Flat.i rfl,Flat.i rfl,trivial⟩ ⟨.dead _,.old 1 1 _ _ rfl rfl ⟨rfl,Nat.le_refl _,fun i j hi hj=> ?_⟩,.old 2 5 _ _ rfl rfl ⟨rfl,Nat.le_refl _,fun i j hi hj=> .eq _ _ ?_ eJ⟩,.old 3 6 _ _ rfl rfl ⟨rfl,Nat.le_refl _,fun i j hi hj=> .eq _ _ ?_ bK⟩,trivial⟩ rfl rfl rfl
           · exact dqI_rv hj
           · show dB S i j=dB (spS (kK n f t k) w false) i j
             rw [hS,spS_no]
           · show ptsG P i j=_
             rw [hP]
         · rintro q l m ⟨kk,hq,rfl,rfl⟩
           have e6:IntKind.i64.wrap ((kk:Int)+1)=((kk+1:Nat):Int):=by rw [w64 (by omega) (by omega)];omega
           conv=>whnf
           repeat (refine⟨⟨_,rfl⟩,?_⟩;conv=>whnf)
           refine aE (fun hb2=> ?_) (fun hb2=> ?_)
           · have hb2:kk<ns:=by simp at hb2;omega
             conv=>whnf
             repeat (refine⟨⟨_,rfl⟩,?_⟩;conv=>whnf)
             refine aA (by simp only [Bool.and_eq_true,decide_eq_true_eq];omega) ?_
             conv=>whnf
             repeat (refine⟨⟨_,rfl⟩,?_⟩;conv=>whnf)
             first
              | refine aA (by simp [bI,Nat.ble_eq];omega) ?_
              | skip
             conv=>whnf
             repeat (refine⟨⟨_,rfl⟩,?_⟩;conv=>whnf)
             refine aE (fun hb3=> ?_) (fun hb3=> ?_)
             · have hb3:sp kk=(k:Int):=by simpa using hb3
               conv=>whnf
               repeat (refine⟨⟨_,rfl⟩,?_⟩;conv=>whnf)
               refine dK (decide_eq_true (by omega)) ?_
               conv=>whnf
               repeat (refine⟨⟨_,rfl⟩,?_⟩;conv=>whnf)
               refine aA (by simp only [Bool.and_eq_true,decide_eq_true_eq];omega) ?_
               conv=>whnf
               repeat (refine⟨⟨_,rfl⟩,?_⟩;conv=>whnf)
               rw [cell_I]
               conv=>whnf
               repeat (refine⟨⟨_,rfl⟩,?_⟩;conv=>whnf)
               refine aA (by simp [bI,Nat.ble_eq];omega) ?_
               conv=>whnf
               repeat (refine⟨⟨_,rfl⟩,?_⟩;conv=>whnf)
               refine aA (by rw [e7,e8];rfl) ?_
               conv=>whnf
               repeat (refine⟨⟨_,rfl⟩,?_⟩;conv=>whnf)
               rw [hw]
               refine aA (by simp only [Bool.and_eq_true,decide_eq_true_eq];omega) ?_
               conv=>whnf
               repeat (refine⟨⟨_,rfl⟩,?_⟩;conv=>whnf)
               refine aA (by simp [bI,Nat.ble_eq];omega) ?_
               conv=>whnf
               repeat (refine⟨⟨_,rfl⟩,?_⟩;conv=>whnf)
               refine aA (by simp [bI,Nat.ble_eq];omega) ?_
               conv=>whnf
               repeat (refine⟨⟨_,rfl⟩,?_⟩;conv=>whnf)
               refine aA (by simp [bI,Nat.ble_eq];omega) ?_
               conv=>whnf
               repeat (refine⟨⟨_,rfl⟩,?_⟩;conv=>whnf)
               refine⟨q - 1,[(0,.int .i64 (R+2:Nat)),(1,.int .i64 t),(2,.vsl 1 n cap (aB f)),(3,.vsl 1 ns cs (fR sp)),(4,.int .i64 whom),(11,.sl 1 0 (R+2) c),(14,.int .i64 k),(18,.int .i64 ((kk+1:Nat):Int))],[none,some ⟨26,R+2,dqI n f (DP n f (R+2) t w ns sp) k R t a1 a2 C1 C2⟩,some ⟨32,R+1,dB (spS (kK n f t k) w (parB sp k (kk+1)))⟩,some ⟨9,t+1,ptsG (comC n f k)⟩],[some 0,some 1,some 2,some 3],by omega,⟨kk+1,by omega,rfl,rfl⟩,?_⟩
               refine .mkN ⟨Flat.i rfl,Flat.i rfl,.eq _ _ rfl aO,.eq _ _ rfl (.vsl _ _ _ _ rfl fun _ _ _ _=> .int _ _),Flat.i rfl,.sl _ _ _ _ _ rfl,Flat.i rfl,Flat.i e6,trivial⟩ ⟨.dead _,.old 1 1 _ _ rfl rfl ⟨rfl,Nat.le_refl _,fun i j hi hj=>aBv hj⟩,.old 2 2 _ _ rfl rfl ⟨rfl,Nat.le_refl _,fun i j hi hj=>RV.of ?_ (by dsimp only;exact eJ)⟩,.old 3 3 _ _ rfl rfl ⟨rfl,Nat.le_refl _,fun i j hi hj=> .eq _ _ rfl bK⟩,trivial⟩ rfl rfl rfl
               rw [parB_true hb3];exact sp_cell (n:=R+1) (S:=kK n f t k) (w:=w) (b:=parB sp k kk) (i:=i) (j:=j) sealS_lt
             · have hb3:¬ sp kk=(k:Int):=by simpa using hb3
               conv=>whnf
               repeat (refine⟨⟨_,rfl⟩,?_⟩;conv=>whnf)
               refine⟨q - 1,[(0,.int .i64 (R+2:Nat)),(1,.int .i64 t),(2,.vsl 1 n cap (aB f)),(3,.vsl 1 ns cs (fR sp)),(4,.int .i64 whom),(11,.sl 1 0 (R+2) c),(14,.int .i64 k),(18,.int .i64 ((kk+1:Nat):Int))],[none,some ⟨26,R+2,dqI n f (DP n f (R+2) t w ns sp) k R t a1 a2 C1 C2⟩,some ⟨32,R+1,dB (spS (kK n f t k) w (parB sp k (kk+1)))⟩,some ⟨9,t+1,ptsG (comC n f k)⟩],[some 0,some 1,some 2,some 3],by omega,⟨kk+1,by omega,rfl,rfl⟩,?_⟩
               refine .mkN ⟨Flat.i rfl,Flat.i rfl,.eq _ _ rfl aO,.eq _ _ rfl (.vsl _ _ _ _ rfl fun _ _ _ _=> .int _ _),Flat.i rfl,.sl _ _ _ _ _ rfl,Flat.i rfl,Flat.i e6,trivial⟩ ⟨.dead _,.old 1 1 _ _ rfl rfl ⟨rfl,Nat.le_refl _,fun i j hi hj=>aBv hj⟩,.old 2 2 _ _ rfl rfl ⟨rfl,Nat.le_refl _,fun i j hi hj=>RV.of ?_ (by dsimp only;exact eJ)⟩,.old 3 3 _ _ rfl rfl ⟨rfl,Nat.le_refl _,fun i j hi hj=> .eq _ _ rfl bK⟩,trivial⟩ rfl rfl rfl
               rw [wP hb3]
           · have hb2:kk=ns:=by simp at hb2;omega
             conv=>whnf
             repeat (refine⟨⟨_,rfl⟩,?_⟩;conv=>whnf)
             have hE:DP n f (R+2) t w ns sp k=D1 n f (R+2) t (spS (kK n f t k) w (parB sp k kk)) (comC n f k) k:=by rw [hb2];rfl
             refine⟨q0 - 1,[(0,.int .i64 (R+2:Nat)),(1,.int .i64 t),(2,.vsl 1 n cap (aB f)),(3,.vsl 1 ns cs (fR sp)),(4,.int .i64 whom),(11,.sl 1 0 (R+2) c),(14,.int .i64 ((k+1:Nat):Int))],[none,some ⟨26,R+2,dqG n f (DP n f (R+2) t w ns sp) (k+1) (fun i=>if i=k then a1 else C1 i) (fun i=>if i=k then a2 else C2 i)⟩,none,none],[none,some ⟨26,R+2,dqG n f (DP n f (R+2) t w ns sp) (k+1) (fun i=>if i=k then a1 else C1 i) (fun i=>if i=k then a2 else C2 i)⟩],[some 0,some 1],by omega,⟨k+1,c,_,_,by omega,rfl,rfl⟩,?_,?_⟩
             · refine .step 2 _ _ [none,some ⟨26,R+2,dqJ n f (DP n f (R+2) t w ns sp) k t a1 a2 C1 C2⟩,none,some ⟨9,t+1,ptsG (comC n f k)⟩] _ rfl (.c (.inl rfl) (.c (.inr ⟨by decide,_,_,rfl,rfl,rfl,Nat.le_refl _,fun i j hi hj=>fz_c hE hj⟩) (.c (.inl rfl) (.c (.inr ⟨by decide,_,_,rfl,rfl,rfl,Nat.le_refl _,fun i j _ _=> .inl rfl⟩) .n)))) ?_
               exact .step 3 _ _ [none,some ⟨26,R+2,dqG n f (DP n f (R+2) t w ns sp) (k+1) (fun i=>if i=k then a1 else C1 i) (fun i=>if i=k then a2 else C2 i)⟩,none,none] _ rfl (.c (.inl rfl) (.c (.inr ⟨by decide,_,_,rfl,rfl,rfl,Nat.le_refl _,fun i j hi hj=>fz_d hE hj⟩) (.c (.inl rfl) (.c (.inl rfl) .n)))) (.refl _)
             · exact .mkN ⟨Flat.i rfl,Flat.i rfl,.eq _ _ rfl aO,.eq _ _ rfl (.vsl _ _ _ _ rfl fun _ _ _ _=> .int _ _),Flat.i rfl,.sl _ _ _ _ _ rfl,Flat.i e5,trivial⟩ ⟨.dead _,.old 1 1 _ _ rfl rfl ⟨rfl,Nat.le_refl _,fun i j hi hj=>RV.of rfl (by dsimp only;exact rS)⟩,trivial⟩ rfl rfl rfl
       · have hb:k=R+2:=by simp at hb;omega
         subst hb
         conv=>whnf
         repeat (refine⟨⟨_,rfl⟩,?_⟩;conv=>whnf)
         exact⟨rfl,1,c,C1,C2,Nat.le_refl _,rfl,rfl⟩
set_option maxHeartbeats 4000000 in
theorem S_PostedO (R t n cap ns Ns cs w:Nat) (f sp:Nat->Int) (whom:Int) (hNs:ns<=Ns) (hR:R<=2) (ht:t<64) (hn:n<=100) (hns:ns<=1000) (hf:∀ i,i<n->0<=f i/\f i<=255)
 (hw:IntKind.i64.wrap ((IntKind.u64.wrap whom).tmod (IntKind.u64.wrap (IntKind.i64.wrap (((R+2:Nat):Int) - 1))))=w) (hwR:w<R+1):
 ACall Pg cC [.int .i64 (R+2:Nat),.int .i64 t,.vsl 1 n cap (aB f),.sl 0 0 ns cs,.int .i64 whom] [some ⟨1,Ns,fR sp⟩]
  (fun v m'=>m'[0]? = some (some ⟨1,Ns,fR sp⟩)/\∃ l c C1 C2,1<=l/\v= .sl l 0 (R+2) c/\m'[l]? = some (some ⟨26,R+2,dqG n f (DP n f (R+2) t w ns sp) (R+2) C1 C2⟩)):=by
 have e7:IntKind.u64.wrap (IntKind.i64.wrap (((R+2:Nat):Int) - 1))=((R+1:Nat):Int):=by
  have:R=0\/R=1\/R=2:=by omega
  rcases this with rfl | rfl | rfl <;> decide
 have e8:(((R+1:Nat):Int) == 0)=false:=by simp;omega
 refine mL ⟨rfl,?_⟩
 conv=>whnf
 repeat (refine⟨⟨_,rfl⟩,?_⟩;conv=>whnf)
 refine aR aH (I:=fun q l m=>∃ k c':Nat,q+k=R+2/\l= [(0,.int .i64 (R+2:Nat)),(1,.int .i64 t),(2,.vsl 1 n cap (aB f)),(3,.sl 0 0 ns cs),(4,.int .i64 whom),(11,.sl 1 0 k c'),(12,.int .i64 k)] /\ m= [some ⟨1,Ns,fR sp⟩,some ⟨26,k,dq0 n f⟩]) (R+2)
  (l0:= [(0,.int .i64 (R+2:Nat)),(1,.int .i64 t),(2,.vsl 1 n cap (aB f)),(3,.sl 0 0 ns cs),(4,.int .i64 whom),(11,.sl 1 0 0 0),(12,.int .i64 (0:Nat))]) (m0:= [some ⟨1,Ns,fR sp⟩,some ⟨26,0,dq0 n f⟩]) [some 0,none] ⟨0,0,rfl,rfl,rfl⟩ ?_ ?_
 · exact .mkN ⟨Flat.i rfl,Flat.i rfl,.eq _ _ rfl aO,.sl _ _ _ _ _ rfl,Flat.i rfl,.nils _ _,Flat.i rfl,trivial⟩ ⟨.old 0 0 _ _ rfl rfl ⟨rfl,Nat.le_refl _,fun i j hi hj=> .eq _ _ rfl (.int _ _)⟩,.ph _ _ _ rfl,trivial⟩ rfl rfl rfl
 · rintro q l m ⟨k,c',hq,rfl,rfl⟩
   conv=>whnf
   repeat (refine⟨⟨_,rfl⟩,?_⟩;conv=>whnf)
   refine aE (fun hb=> ?_) (fun hb=> ?_)
   · have hb:k<R+2:=by simp at hb;omega
     have e5:IntKind.i64.wrap ((k:Int)+1)=((k+1:Nat):Int):=by rw [w64 (by omega) (by omega)];omega
     conv=>whnf
     repeat (refine⟨⟨_,rfl⟩,?_⟩;conv=>whnf)
     refine vD (n:=n) (f:=f) bA.vsl (by omega) (fun cap1=> ?_)
     conv=>whnf
     repeat (refine⟨⟨_,rfl⟩,?_⟩;conv=>whnf)
     refine aA (bM (by first | rfl | simp) rfl rfl (by omega) (by omega)) (fun cap2 hcap2=> ?_)
     conv=>whnf
     repeat (refine⟨⟨_,rfl⟩,?_⟩;conv=>whnf)
     refine iY (n:=n+1) (f:=sdF n f k) (bA.slG rfl (Nat.le_of_eq (Nat.zero_add _)) fun i hi=> ?_) (by omega) (sH hf (by omega)) (fun a ha ha1 _=> ?_)
     · rw [show 0+i=i from Nat.zero_add i]
       exact nF (by omega) hi rfl rfl
     conv=>whnf
     repeat (refine⟨⟨_,rfl⟩,?_⟩;conv=>whnf)
     refine T_RBase (n:=a) (Nat.lt_trans ha1 (by decide)) (fun P oP hP=> ?_)
     obtain rfl:P=PK n f k:=by rw [hP,ha];rfl
     conv=>whnf
     repeat (refine⟨⟨_,rfl⟩,?_⟩;conv=>whnf)
     refine aA (bM (by first | rfl | simp) rfl rfl (by omega) (by omega)) (fun cap3 hcap3=> ?_)
     conv=>whnf
     repeat (refine⟨⟨_,rfl⟩,?_⟩;conv=>whnf)
     refine⟨q - 1,[(0,.int .i64 (R+2:Nat)),(1,.int .i64 t),(2,.vsl 1 n cap (aB f)),(3,.sl 0 0 ns cs),(4,.int .i64 whom),(11,.sl 1 0 (k+1) cap3),(12,.int .i64 ((k+1:Nat):Int))],[some ⟨1,Ns,fR sp⟩,some ⟨26,k+1,dq0 n f⟩],[some 0,some 6],by omega,⟨k+1,cap3,by omega,rfl,rfl⟩,?_⟩
     refine .mkN ⟨Flat.i rfl,Flat.i rfl,.eq _ _ rfl aO,.sl _ _ _ _ _ rfl,Flat.i rfl,.sl _ _ _ _ _ rfl,Flat.i e5,trivial⟩ ⟨.old 0 0 _ _ rfl rfl ⟨rfl,Nat.le_refl _,fun i j hi hj=> .eq _ _ rfl (.int _ _)⟩,.old 1 6 _ _ rfl rfl ⟨rfl,Nat.le_refl _,fun i j hi hj=>RV.of ?_ flat_dq0⟩,trivial⟩ rfl rfl rfl
     replace hi:i<k+1:=hi
     replace hj:j<26:=hj
     dsimp only
     by_cases hik:i<k
     · rw [cY hik]
     · obtain rfl:i=k:=by omega
       rw [bL (Nat.le_refl _),Nat.sub_self]
       clear hi hik
       revert j
       refine lt26 ?_ ?_ ?_ ?_ ?_ ?_ ?_ ?_ ?_ ?_ ?_ ?_ ?_ ?_ ?_ ?_ ?_ ?_ ?_ ?_ ?_ ?_ ?_ ?_ ?_ ?_
       all_goals first
        | rfl
        | exact congrArg (AV.int IntKind.u64) (lim0 _).symm
   · have hb:k=R+2:=by simp at hb;omega
     subst hb
     conv=>whnf
     repeat (refine⟨⟨_,rfl⟩,?_⟩;conv=>whnf)
     refine loop_fz aH (I:=fun q l m=>∃ (k c:Nat) (C1 C2:Nat->Nat),q+k=R+2/\l= [(0,.int .i64 (R+2:Nat)),(1,.int .i64 t),(2,.vsl 1 n cap (aB f)),(3,.sl 0 0 ns cs),(4,.int .i64 whom),(11,.sl 1 0 (R+2) c),(14,.int .i64 k)] /\ m= [some ⟨1,Ns,fR sp⟩,some ⟨26,R+2,dqG n f (DP n f (R+2) t w ns sp) k C1 C2⟩]) (R+2)
      (l0:= [(0,.int .i64 (R+2:Nat)),(1,.int .i64 t),(2,.vsl 1 n cap (aB f)),(3,.sl 0 0 ns cs),(4,.int .i64 whom),(11,.sl 1 0 (R+2) c'),(14,.int .i64 (0:Nat))]) (m0:= [some ⟨1,Ns,fR sp⟩,some ⟨26,R+2,dqG n f (DP n f (R+2) t w ns sp) 0 (fun _=>0) (fun _=>0)⟩]) [some 0,some 1] ⟨0,c',_,_,rfl,rfl,rfl⟩ ?_ ?_
     · exact .mkN ⟨Flat.i rfl,Flat.i rfl,.eq _ _ rfl aO,.sl _ _ _ _ _ rfl,Flat.i rfl,.sl _ _ _ _ _ rfl,Flat.i rfl,trivial⟩ ⟨.old 0 0 _ _ rfl rfl ⟨rfl,Nat.le_refl _,fun i j hi hj=> .eq _ _ rfl (.int _ _)⟩,.old 1 1 _ _ rfl rfl ⟨rfl,Nat.le_refl _,fun i j hi hj=>RV.of (dqG_zero (n:=n) (f:=f) (E:=DP n f (R+2) t w ns sp) (C1:=fun _=>0) (C2:=fun _=>0)).symm (by dsimp only;exact rS)⟩,trivial⟩ rfl rfl rfl
     · rintro q0 l m ⟨k,c,C1,C2,hq,rfl,rfl⟩
       conv=>whnf
       repeat (refine⟨⟨_,rfl⟩,?_⟩;conv=>whnf)
       refine aE (fun hb=> ?_) (fun hb=> ?_)
       · have hb:k<R+2:=by simp at hb;omega
         have e5:IntKind.i64.wrap ((k:Int)+1)=((k+1:Nat):Int):=by rw [w64 (by omega) (by omega)];omega
         conv=>whnf
         repeat (refine⟨⟨_,rfl⟩,?_⟩;conv=>whnf)
         refine vD (n:=n) (f:=f) bA.vsl (by omega) (fun cap1=> ?_)
         conv=>whnf
         repeat (refine⟨⟨_,rfl⟩,?_⟩;conv=>whnf)
         refine aA (bM (by first | rfl | simp) rfl rfl (by omega) (by omega)) (fun cap2 hcap2=> ?_)
         conv=>whnf
         repeat (refine⟨⟨_,rfl⟩,?_⟩;conv=>whnf)
         rw [e5]
         refine S_RPost (n:=n+1) (f:=sdF n f k) (t:=t) (r:=R+2) (D:=Dm n f (DP n f (R+2) t w ns sp) k) (me:=k+1) (R+1) rfl (bA.slG rfl (Nat.le_of_eq (Nat.zero_add _)) fun i hi=> ?_) (shows_dq rfl (Nat.le_refl _)) (by omega) ht (sH hf (by omega)) (by omega) (by omega) (fun i hi=> ?_) (fun S P a1 a2 hS hP=> ?_)
         · rw [show 0+i=i from Nat.zero_add i]
           exact nF (by omega) hi rfl rfl
         · obtain⟨g1,g2,g3,g4⟩:=Dm_pt (k:=k) (i:=i) (DP_pt (n:=n) (f:=f) (r:=R+2) (t:=t) (w:=w) (ns:=ns) (sp:=sp))
           exact⟨by rw [g1];exact jT,by rw [g1];exact g2,g3,g4⟩
         have hS:S=kK n f t k:=hS.trans (seal_Dm (fun i=>(DP_pt i).1))
         have hP:P=comC n f k:=hP
         conv=>whnf
         repeat (refine⟨⟨_,rfl⟩,?_⟩;conv=>whnf)
         refine aA (by simp only [Bool.and_eq_true,decide_eq_true_eq];omega) ?_
         conv=>whnf
         repeat (refine⟨⟨_,rfl⟩,?_⟩;conv=>whnf)
         refine aA (by simp [bI,Nat.ble_eq];omega) ?_
         conv=>whnf
         repeat (refine⟨⟨_,rfl⟩,?_⟩;conv=>whnf)
         refine aA (by simp only [Bool.and_eq_true,decide_eq_true_eq];omega) ?_
         conv=>whnf
         repeat (refine⟨⟨_,rfl⟩,?_⟩;conv=>whnf)
         refine aA (by simp [bI,Nat.ble_eq];omega) ?_
         conv=>whnf
         repeat (refine⟨⟨_,rfl⟩,?_⟩;conv=>whnf)
         refine aA (by simp only [Bool.and_eq_true,decide_eq_true_eq];omega) ?_
         conv=>whnf
         repeat (refine⟨⟨_,rfl⟩,?_⟩;conv=>whnf)
         refine aA (by simp [bI,Nat.ble_eq];omega) ?_
         conv=>whnf
         repeat (refine⟨⟨_,rfl⟩,?_⟩;conv=>whnf)
         refine aR aH (I:=fun q l m=>∃ kk:Nat,q+kk=ns/\l= [(0,.int .i64 (R+2:Nat)),(1,.int .i64 t),(2,.vsl 1 n cap (aB f)),(3,.sl 0 0 ns cs),(4,.int .i64 whom),(11,.sl 1 0 (R+2) c),(14,.int .i64 k),(18,.int .i64 kk)] /\ m= [some ⟨1,Ns,fR sp⟩,some ⟨26,R+2,dqI n f (DP n f (R+2) t w ns sp) k R t a1 a2 C1 C2⟩,some ⟨32,R+1,dB (spS (kK n f t k) w (parB sp k kk))⟩,some ⟨9,t+1,ptsG (comC n f k)⟩]) ns
          (l0:= [(0,.int .i64 (R+2:Nat)),(1,.int .i64 t),(2,.vsl 1 n cap (aB f)),(3,.sl 0 0 ns cs),(4,.int .i64 whom),(11,.sl 1 0 (R+2) c),(14,.int .i64 k),(18,.int .i64 (0:Nat))]) (m0:= [some ⟨1,Ns,fR sp⟩,some ⟨26,R+2,dqI n f (DP n f (R+2) t w ns sp) k R t a1 a2 C1 C2⟩,some ⟨32,R+1,dB (spS (kK n f t k) w (parB sp k 0))⟩,some ⟨9,t+1,ptsG (comC n f k)⟩]) [some 0,some 1,some 5,some 6] ⟨0,rfl,rfl,rfl⟩ ?_ ?_
         · refine .mkN ⟨Flat.i rfl,Flat.i rfl,.eq _ _ rfl aO,.sl _ _ _ _ _ rfl,Flat.i rfl,.sl _ _ _ _ _ rfl,Flat.i rfl,Flat.i rfl,trivial⟩ ⟨.old 0 0 _ _ rfl rfl ⟨rfl,Nat.le_refl _,fun i j hi hj=> .eq _ _ rfl (.int _ _)⟩,.old 1 1 _ _ rfl rfl ⟨rfl,Nat.le_refl _,fun i j hi hj=> ?_⟩,.old 2 5 _ _ rfl rfl ⟨rfl,Nat.le_refl _,fun i j hi hj=> .eq _ _ ?_ eJ⟩,.old 3 6 _ _ rfl rfl ⟨rfl,Nat.le_refl _,fun i j hi hj=> .eq _ _ ?_ bK⟩,trivial⟩ rfl rfl rfl
           · exact dqI_rv hj
           · show dB S i j=dB (spS (kK n f t k) w false) i j
             rw [hS,spS_no]
           · show ptsG P i j=_
             rw [hP]
         · rintro q l m ⟨kk,hq,rfl,rfl⟩
           have e6:IntKind.i64.wrap ((kk:Int)+1)=((kk+1:Nat):Int):=by rw [w64 (by omega) (by omega)];omega
           conv=>whnf
           repeat (refine⟨⟨_,rfl⟩,?_⟩;conv=>whnf)
           refine aE (fun hb2=> ?_) (fun hb2=> ?_)
           · have hb2:kk<ns:=by simp at hb2;omega
             conv=>whnf
             repeat (refine⟨⟨_,rfl⟩,?_⟩;conv=>whnf)
             refine aA (by simp only [Bool.and_eq_true,decide_eq_true_eq];omega) ?_
             conv=>whnf
             repeat (refine⟨⟨_,rfl⟩,?_⟩;conv=>whnf)
             first
              | refine aA (by simp [bI,Nat.ble_eq];omega) ?_
              | skip
             conv=>whnf
             repeat (refine⟨⟨_,rfl⟩,?_⟩;conv=>whnf)
             refine aE (fun hb3=> ?_) (fun hb3=> ?_)
             · have hb3:sp kk=(k:Int):=by simpa using hb3
               conv=>whnf
               repeat (refine⟨⟨_,rfl⟩,?_⟩;conv=>whnf)
               refine dK (decide_eq_true (by omega)) ?_
               conv=>whnf
               repeat (refine⟨⟨_,rfl⟩,?_⟩;conv=>whnf)
               refine aA (by simp only [Bool.and_eq_true,decide_eq_true_eq];omega) ?_
               conv=>whnf
               repeat (refine⟨⟨_,rfl⟩,?_⟩;conv=>whnf)
               rw [cell_I]
               conv=>whnf
               repeat (refine⟨⟨_,rfl⟩,?_⟩;conv=>whnf)
               refine aA (by simp [bI,Nat.ble_eq];omega) ?_
               conv=>whnf
               repeat (refine⟨⟨_,rfl⟩,?_⟩;conv=>whnf)
               refine aA (by rw [e7,e8];rfl) ?_
               conv=>whnf
               repeat (refine⟨⟨_,rfl⟩,?_⟩;conv=>whnf)
               rw [hw]
               refine aA (by simp only [Bool.and_eq_true,decide_eq_true_eq];omega) ?_
               conv=>whnf
               repeat (refine⟨⟨_,rfl⟩,?_⟩;conv=>whnf)
               refine aA (by simp [bI,Nat.ble_eq];omega) ?_
               conv=>whnf
               repeat (refine⟨⟨_,rfl⟩,?_⟩;conv=>whnf)
               refine aA (by simp [bI,Nat.ble_eq];omega) ?_
               conv=>whnf
               repeat (refine⟨⟨_,rfl⟩,?_⟩;conv=>whnf)
               refine aA (by simp [bI,Nat.ble_eq];omega) ?_
               conv=>whnf
               repeat (refine⟨⟨_,rfl⟩,?_⟩;conv=>whnf)
               refine⟨q - 1,[(0,.int .i64 (R+2:Nat)),(1,.int .i64 t),(2,.vsl 1 n cap (aB f)),(3,.sl 0 0 ns cs),(4,.int .i64 whom),(11,.sl 1 0 (R+2) c),(14,.int .i64 k),(18,.int .i64 ((kk+1:Nat):Int))],[some ⟨1,Ns,fR sp⟩,some ⟨26,R+2,dqI n f (DP n f (R+2) t w ns sp) k R t a1 a2 C1 C2⟩,some ⟨32,R+1,dB (spS (kK n f t k) w (parB sp k (kk+1)))⟩,some ⟨9,t+1,ptsG (comC n f k)⟩],[some 0,some 1,some 2,some 3],by omega,⟨kk+1,by omega,rfl,rfl⟩,?_⟩
               refine .mkN ⟨Flat.i rfl,Flat.i rfl,.eq _ _ rfl aO,.sl _ _ _ _ _ rfl,Flat.i rfl,.sl _ _ _ _ _ rfl,Flat.i rfl,Flat.i e6,trivial⟩ ⟨.old 0 0 _ _ rfl rfl ⟨rfl,Nat.le_refl _,fun i j hi hj=> .eq _ _ rfl (.int _ _)⟩,.old 1 1 _ _ rfl rfl ⟨rfl,Nat.le_refl _,fun i j hi hj=>aBv hj⟩,.old 2 2 _ _ rfl rfl ⟨rfl,Nat.le_refl _,fun i j hi hj=>RV.of ?_ (by dsimp only;exact eJ)⟩,.old 3 3 _ _ rfl rfl ⟨rfl,Nat.le_refl _,fun i j hi hj=> .eq _ _ rfl bK⟩,trivial⟩ rfl rfl rfl
               rw [parB_true hb3];exact sp_cell (n:=R+1) (S:=kK n f t k) (w:=w) (b:=parB sp k kk) (i:=i) (j:=j) sealS_lt
             · have hb3:¬ sp kk=(k:Int):=by simpa using hb3
               conv=>whnf
               repeat (refine⟨⟨_,rfl⟩,?_⟩;conv=>whnf)
               refine⟨q - 1,[(0,.int .i64 (R+2:Nat)),(1,.int .i64 t),(2,.vsl 1 n cap (aB f)),(3,.sl 0 0 ns cs),(4,.int .i64 whom),(11,.sl 1 0 (R+2) c),(14,.int .i64 k),(18,.int .i64 ((kk+1:Nat):Int))],[some ⟨1,Ns,fR sp⟩,some ⟨26,R+2,dqI n f (DP n f (R+2) t w ns sp) k R t a1 a2 C1 C2⟩,some ⟨32,R+1,dB (spS (kK n f t k) w (parB sp k (kk+1)))⟩,some ⟨9,t+1,ptsG (comC n f k)⟩],[some 0,some 1,some 2,some 3],by omega,⟨kk+1,by omega,rfl,rfl⟩,?_⟩
               refine .mkN ⟨Flat.i rfl,Flat.i rfl,.eq _ _ rfl aO,.sl _ _ _ _ _ rfl,Flat.i rfl,.sl _ _ _ _ _ rfl,Flat.i rfl,Flat.i e6,trivial⟩ ⟨.old 0 0 _ _ rfl rfl ⟨rfl,Nat.le_refl _,fun i j hi hj=> .eq _ _ rfl (.int _ _)⟩,.old 1 1 _ _ rfl rfl ⟨rfl,Nat.le_refl _,fun i j hi hj=>aBv hj⟩,.old 2 2 _ _ rfl rfl ⟨rfl,Nat.le_refl _,fun i j hi hj=>RV.of ?_ (by dsimp only;exact eJ)⟩,.old 3 3 _ _ rfl rfl ⟨rfl,Nat.le_refl _,fun i j hi hj=> .eq _ _ rfl bK⟩,trivial⟩ rfl rfl rfl
               rw [wP hb3]
           · have hb2:kk=ns:=by simp at hb2;omega
             conv=>whnf
             repeat (refine⟨⟨_,rfl⟩,?_⟩;conv=>whnf)
             have hE:DP n f (R+2) t w ns sp k=D1 n f (R+2) t (spS (kK n f t k) w (parB sp k kk)) (comC n f k) k:=by rw [hb2];rfl
             refine⟨q0 - 1,[(0,.int .i64 (R+2:Nat)),(1,.int .i64 t),(2,.vsl 1 n cap (aB f)),(3,.sl 0 0 ns cs),(4,.int .i64 whom),(11,.sl 1 0 (R+2) c),(14,.int .i64 ((k+1:Nat):Int))],[some ⟨1,Ns,fR sp⟩,some ⟨26,R+2,dqG n f (DP n f (R+2) t w ns sp) (k+1) (fun i=>if i=k then a1 else C1 i) (fun i=>if i=k then a2 else C2 i)⟩,none,none],[some ⟨1,Ns,fR sp⟩,some ⟨26,R+2,dqG n f (DP n f (R+2) t w ns sp) (k+1) (fun i=>if i=k then a1 else C1 i) (fun i=>if i=k then a2 else C2 i)⟩],[some 0,some 1],by omega,⟨k+1,c,_,_,by omega,rfl,rfl⟩,?_,?_⟩
             · refine .step 2 _ _ [some ⟨1,Ns,fR sp⟩,some ⟨26,R+2,dqJ n f (DP n f (R+2) t w ns sp) k t a1 a2 C1 C2⟩,none,some ⟨9,t+1,ptsG (comC n f k)⟩] _ rfl (.c (.inr ⟨by decide,_,_,rfl,rfl,rfl,Nat.le_refl _,fun i j _ _=> .inl rfl⟩) (.c (.inr ⟨by decide,_,_,rfl,rfl,rfl,Nat.le_refl _,fun i j hi hj=>fz_c hE hj⟩) (.c (.inl rfl) (.c (.inr ⟨by decide,_,_,rfl,rfl,rfl,Nat.le_refl _,fun i j _ _=> .inl rfl⟩) .n)))) ?_
               exact .step 3 _ _ [some ⟨1,Ns,fR sp⟩,some ⟨26,R+2,dqG n f (DP n f (R+2) t w ns sp) (k+1) (fun i=>if i=k then a1 else C1 i) (fun i=>if i=k then a2 else C2 i)⟩,none,none] _ rfl (.c (.inr ⟨by decide,_,_,rfl,rfl,rfl,Nat.le_refl _,fun i j _ _=> .inl rfl⟩) (.c (.inr ⟨by decide,_,_,rfl,rfl,rfl,Nat.le_refl _,fun i j hi hj=>fz_d hE hj⟩) (.c (.inl rfl) (.c (.inl rfl) .n)))) (.refl _)
             · exact .mkN ⟨Flat.i rfl,Flat.i rfl,.eq _ _ rfl aO,.sl _ _ _ _ _ rfl,Flat.i rfl,.sl _ _ _ _ _ rfl,Flat.i e5,trivial⟩ ⟨.old 0 0 _ _ rfl rfl ⟨rfl,Nat.le_refl _,fun i j hi hj=> .eq _ _ rfl (.int _ _)⟩,.old 1 1 _ _ rfl rfl ⟨rfl,Nat.le_refl _,fun i j hi hj=>RV.of rfl (by dsimp only;exact rS)⟩,trivial⟩ rfl rfl rfl
       · have hb:k=R+2:=by simp at hb;omega
         subst hb
         conv=>whnf
         repeat (refine⟨⟨_,rfl⟩,?_⟩;conv=>whnf)
         exact⟨rfl,1,c,C1,C2,Nat.le_refl _,rfl,rfl⟩
end Go.Proofs.YtfolpdmbpbbimaaGreat
end

section
namespace Go.Proofs.YtfolpdmbpbbimaaGreat
open Go Go.Wit
theorem dqG_all {n r i j:Nat} {f:Nat->Int} {E:Nat->Dl} {C1 C2:Nat->Nat} (hi:i<r):dqG n f E r C1 C2 i j=dlG E C1 C2 i j:=if_pos hi
theorem S_Posted {m:Mem} {K:AV->Mem->Prop} {R t n cap ns cs w:Nat} {f sp:Nat->Int} {whom:Int} {v0 v1:AV} (hv0:v0= .int .i64 (R+2:Nat)) (hv1:v1= .int .i64 t) (hR:R<=2) (ht:t<64) (hn:n<=100) (hns:ns<=1000) (hf:∀ i,i<n->0<=f i/\f i<=255)
 (hw:IntKind.i64.wrap ((IntKind.u64.wrap whom).tmod (IntKind.u64.wrap (IntKind.i64.wrap (((R+2:Nat):Int) - 1))))=w) (hwR:w<R+1)
 (h:∀ c C1 C2,memK (m++ [some ⟨26,R+2,dlG (DP n f (R+2) t w ns sp) C1 C2⟩]) (K (.sl m.length 0 (R+2) c))):ACall Pg cC [v0,v1,.vsl 1 n cap (aB f),.vsl 1 ns cs (fR sp),.int .i64 whom] m K:=by
 subst hv0 hv1
 simp only [dJ]at h
 have h0:∀ i q,([none] :List (Option Nat)).getD i none ≠ some q:=fun i q hq=>by
  match i,hq with
  | 0,hq=>cases hq
  | i+1,hq=>simp at hq
 refine(S_PostedV R t n cap ns cs w f sp whom hR ht hn hns hf hw hwR).frame false [none] [] (fun _=>rfl) (.cons _ _ _ _ (.rv _ _ (.eq _ _ rfl (.int _ _))) (.cons _ _ _ _ (.rv _ _ (.eq _ _ rfl (.int _ _))) (.cons _ _ _ _ (.rv _ _ (.eq _ _ rfl aO)) (.cons _ _ _ _ (.rv _ _ (.eq _ _ rfl (.vsl _ _ _ _ rfl fun _ _ _ _=> .int _ _))) (.cons _ _ _ _ (.rv _ _ (.eq _ _ rfl (.int _ _))) .nil))))) ⟨.dead _,trivial⟩ rfl (fun i j q g1 g2=>absurd g1 (h0 i q)) (fun q hq=>by cases hq) ?_
 rintro v m' ⟨k0,l,c,C1,C2,hl,rfl,hb⟩
 have ht:∀ {q r:Nat},(if q=m.length then some l else none)=some r->q=m.length/\r=l:=by
  intro q r hq
  by_cases g:q=m.length
  · rw [if_pos g]at hq;exact⟨g,(Option.some.inj hq).symm⟩
  · rw [if_neg g]at hq;cases hq
 refine⟨.sl m.length 0 (R+2) c,m++ [some ⟨26,R+2,dlG (DP n f (R+2) t w ns sp) C1 C2⟩],fun q=>if q=m.length then some l else none,⟨by simp,fun q r hq=> ?_,fun q q' r hq hq'=> ?_,fun q r hlt hq=> ?_,fun q b hq=> ?_⟩,.sl _ _ _ _ _ (if_pos rfl),h c C1 C2⟩
 · rw [(ht hq).1];simp
 · rw [(ht hq).1,(ht hq').1]
 · exact absurd hlt (by rw [(ht hq).1];exact Nat.lt_irrefl _)
 · by_cases hqm:q<m.length
   · refine .inl ⟨if_neg (by omega),?_,fun i=>h0 i q⟩
     rw [List.getElem?_append_left hqm]at hq;exact hq
   · have hq2:q=m.length:=by
      have:=(List.getElem?_eq_some_iff.1 hq).1
      simp at this;omega
     subst hq2
     simp at hq
     subst hq
     exact .inr (.inl ⟨l,_,if_pos rfl,hb,rfl,Nat.le_refl _,fun i j hi hj=>RV.of (dqG_all hi) (by dsimp only;exact bU)⟩)
theorem S_PostedW {m:Mem} {K:AV->Mem->Prop} {R t n cap ns cs w l0 Ns:Nat} {f sp:Nat->Int} {g:Nat->Nat->AV} {whom:Int} {v0 v1:AV} (hv0:v0= .int .i64 (R+2:Nat)) (hv1:v1= .int .i64 t) (hl0:m[l0]? = some (some ⟨1,Ns,g⟩)) (hg:∀ i,i<Ns->g i 0= .int .i64 (sp i)) (hNs:ns<=Ns) (hR:R<=2) (ht:t<64) (hn:n<=100) (hns:ns<=1000) (hf:∀ i,i<n->0<=f i/\f i<=255)
 (hw:IntKind.i64.wrap ((IntKind.u64.wrap whom).tmod (IntKind.u64.wrap (IntKind.i64.wrap (((R+2:Nat):Int) - 1))))=w) (hwR:w<R+1)
 (h:∀ c C1 C2,memK (m++ [some ⟨26,R+2,dlG (DP n f (R+2) t w ns sp) C1 C2⟩]) (K (.sl m.length 0 (R+2) c))):ACall Pg cC [v0,v1,.vsl 1 n cap (aB f),.sl l0 0 ns cs,.int .i64 whom] m K:=by
 subst hv0 hv1
 simp only [dJ]at h
 have hlt:=bJ hl0
 have hb0:∀ i j,i<Ns->j<1->g i j=fR sp i j:=fun i j hi hj=>by
  obtain rfl:j=0:=by omega
  exact hg i hi
 have hg1:∀ {i q:Nat},[some l0].getD i none=some q->i=0/\q=l0:=fun {i q} h=>by
  match i,h with
  | 0,h=>exact ⟨rfl,by simpa using h.symm⟩
  | i+1,h=>simp at h
 refine(S_PostedO R t n cap ns Ns cs w f sp whom hNs hR ht hn hns hf hw hwR).frame false [some l0] [] (fun _=>rfl) (.cons _ _ _ _ (.rv _ _ (.eq _ _ rfl (.int _ _))) (.cons _ _ _ _ (.rv _ _ (.eq _ _ rfl (.int _ _))) (.cons _ _ _ _ (.rv _ _ (.eq _ _ rfl aO)) (.cons _ _ _ _ (.rv _ _ (.sl _ _ _ _ _ rfl)) (.cons _ _ _ _ (.rv _ _ (.eq _ _ rfl (.int _ _))) .nil))))) ⟨.old 0 l0 _ _ rfl hl0 ⟨rfl,Nat.le_refl _,fun i j hi hj=>RV.of (hb0 i j hi hj) (.int _ _)⟩,trivial⟩ rfl (fun i j q g1 g2=>by rw [(hg1 g1).1,(hg1 g2).1]) (fun q hq=>by cases hq) ?_
 rintro v m' ⟨k0,l,c,C1,C2,hl,rfl,hb⟩
 have ht:∀ {q r:Nat},(if q=l0 then some 0 else if q=m.length then some l else none)=some r->(q=l0/\r=0)\/(q=m.length/\1<=r/\r=l):=by
  intro q r hq
  by_cases h:q=l0
  · rw [if_pos h]at hq;exact .inl ⟨h,(Option.some.inj hq).symm⟩
  · rw [if_neg h]at hq
    by_cases h'':q=m.length
    · rw [if_pos h'']at hq;obtain rfl:=Option.some.inj hq;exact .inr ⟨h'',hl,rfl⟩
    · rw [if_neg h'']at hq;cases hq
 refine⟨.sl m.length 0 (R+2) c,m++ [some ⟨26,R+2,dlG (DP n f (R+2) t w ns sp) C1 C2⟩],fun q=>if q=l0 then some 0 else if q=m.length then some l else none,⟨by simp,fun q r hq=> ?_,fun q q' r hq hq'=> ?_,fun q r hlt' hq=> ?_,fun q b hq=> ?_⟩,.sl _ _ _ _ _ (by rw [if_neg (by omega),if_pos rfl]),h c C1 C2⟩
 · rw [List.length_append]
   rcases ht hq with⟨rfl,_⟩ | ⟨rfl,_⟩
   · omega
   · simp
 · rcases ht hq with⟨rfl,rfl⟩ | ⟨rfl,e,_⟩ <;> rcases ht hq' with⟨rfl,e'⟩ | ⟨rfl,e',_⟩
   all_goals first
    | rfl
    | (exfalso;omega)
 · rcases ht hq with⟨rfl,rfl⟩ | ⟨rfl,e,_⟩
   · exact⟨by simp,rfl⟩
   · exact absurd hlt' (Nat.lt_irrefl _)
 · by_cases hqm:q<m.length
   · rw [List.getElem?_append_left hqm]at hq
     by_cases hql:q=l0
     · subst hql
       rw [hl0]at hq
       obtain rfl:=Option.some.inj (Option.some.inj hq)
       exact .inr (.inl ⟨0,_,if_pos rfl,k0,rfl,Nat.le_refl _,fun i j hi hj=> .eq _ _ (hb0 i j hi hj).symm (.int _ _)⟩)
     · refine .inl ⟨by rw [if_neg hql,if_neg (by omega)],hq,fun i hi=>hql (hg1 hi).2⟩
   · rw [List.getElem?_append_right (by omega)]at hq
     have hqe:q=m.length:=by
      rcases Nat.lt_or_ge (q - m.length) 1 with g | g
      · omega
      · rw [List.getElem?_eq_none (by simpa using g)]at hq;cases hq
     subst hqe
     rw [Nat.sub_self]at hq
     obtain rfl:=Option.some.inj (Option.some.inj hq)
     exact .inr (.inl ⟨l,_,by rw [if_neg (by omega),if_pos rfl],hb,rfl,Nat.le_refl _,fun i j hi hj=>RV.of (dqG_all hi) (by dsimp only;exact bU)⟩)
end Go.Proofs.YtfolpdmbpbbimaaGreat
end

section
namespace Go.Proofs.YtfolpdmbpbbimaaGreat
open Go Go.Wit
theorem nmul_G_inj {a b:Nat} (ha:a<nN) (hb:b<nN) (h:nmul a gG=nmul b gG):a=b:=by
 have h1:nmul (a+(nN - b)) gG= .inf:=by
  rw [gH crvP on_G,h,<- gH crvP on_G,show b+(nN - b)=nN by omega,<- rQ,Nat.mod_self];rfl
 obtain⟨k,hk⟩:=nmul_G_inf h1
 have hk1:k=1:=by
  rcases Nat.lt_or_ge k 1 with g | g
  · obtain rfl:k=0:=by omega
    omega
  · rcases Nat.lt_or_ge 1 k with g' | g'
    · have:=Nat.mul_le_mul_left nN (show 2<=k from g')
      omega
    · omega
 subst hk1
 omega
theorem tn_tn {P:Pt Fp} {a b:Int} {f:Nat->Int} {i:Nat} (hf:0<=f i/\f i<=255):tnF P a b (tnF P a b f) i=f i:=xorB_xorB1 hf (stF_lt i)
theorem oth_pl {i j:Nat} (h1:1<=i) (h2:1<=j) (hij:i ≠ j):othN i (plN i j).toNat=j:=by
 unfold othN plN
 by_cases h:(j:Int)<i
 · rw [if_pos h,if_pos (by omega)];omega
 · rw [if_neg h,if_neg (by omega)];omega
noncomputable def yS (n:Nat) (f:Nat->Int) (t i j:Nat):Nat:=sumN (coN (n+1) (sdF n f (i - 1))) j (t+1) % nN
noncomputable def KS (n:Nat) (f:Nat->Int) (i j:Nat):Pt Fp:=nmul (secN (n+1) (sdF n f (j - 1))) (PK n f (i - 1))
theorem KS_sym {n i j:Nat} {f:Nat->Int}:KS n f i j=KS n f j i:=by
 unfold KS PK
 rw [<- kO crvP on_G,<- kO crvP on_G,Nat.mul_comm]
theorem KS_on {n i j:Nat} {f:Nat->Int}:On (KS n f i j):=jT.nmul crvP _
theorem seal_at {n t i j:Nat} {f:Nat->Int} (h1:1<=i) (h2:1<=j) (hij:i ≠ j):kK n f t (i - 1) (plN i j).toNat=tnF (KS n f i j) i j (kB (yS n f t i j)):=by
 unfold kK
 rw [show i - 1+1=i by omega,oth_pl h1 h2 hij]
 show tnF (KS n f j i) _ _ _=_
 rw [KS_sym]
 rfl
theorem yS_lt {n t i j:Nat} {f:Nat->Int}:yS n f t i j<nN:=Nat.mod_lt _ (by decide)
theorem xor1_ne {a:Int} (ha:0<=a/\a<=255):xorB a 1 ≠ a:=by
 obtain⟨A,rfl,hA⟩:=rT ha
 rw [show (1:Int)=((1:Nat):Int)from rfl,pF hA (by decide)]
 intro h
 have h1:A ^^^ 1=A:=by exact_mod_cast h
 have h2:A ^^^ (A ^^^ 1)=A ^^^ A:=by rw [h1]
 rw [<- Nat.xor_assoc,Nat.xor_self,Nat.zero_xor]at h2
 cases h2
theorem fitV_good {R n t w ns i j:Nat} {f sp:Nat->Int} (h1:1<=i) (h2:1<=j) (hij:i ≠ j) (hb:¬ (parB sp (i - 1) ns=true/\(plN i j).toNat=w)):fitV (DP n f (R+2) t w ns sp) i j (KS n f i j)=yS n f t i j:=by
 unfold fitV
 refine ofZ_byteZ (Nat.lt_trans yS_lt (by decide)) fun b hb32=> ?_
 have e:(DP n f (R+2) t w ns sp ((i:Int).toNat - 1)).S (plN i j).toNat=tnF (KS n f i j) i j (kB (yS n f t i j)):=by
  show spS (kK n f t (i - 1)) w (parB sp (i - 1) ns) (plN i j).toNat=_
  rw [<- seal_at h1 h2 hij]
  funext b
  unfold spS
  exact if_neg fun h=>hb ⟨h.1,h.2.1⟩
 rw [e]
 exact tn_tn (pO _ _)
theorem fitV_bad {R n t w ns i j:Nat} {f sp:Nat->Int} (h1:1<=i) (h2:1<=j) (hij:i ≠ j) (hb:parB sp (i - 1) ns=true/\(plN i j).toNat=w):fitV (DP n f (R+2) t w ns sp) i j (KS n f i j) ≠ yS n f t i j:=by
 unfold fitV
 intro h
 have hl:∀ b,b<32->0<=tnF (KS n f i j) i j ((DP n f (R+2) t w ns sp ((i:Int).toNat - 1)).S (plN i j).toNat) b/\tnF (KS n f i j) i j ((DP n f (R+2) t w ns sp ((i:Int).toNat - 1)).S (plN i j).toNat) b<=255:=fun b _=>jJ _ _
 have g:=byteZ_ofZ hl (show 31<32 by decide)
 rw [h]at g
 have e:(DP n f (R+2) t w ns sp ((i:Int).toNat - 1)).S (plN i j).toNat 31=xorB (tnF (KS n f i j) i j (kB (yS n f t i j)) 31) 1:=by
  show spS (kK n f t (i - 1)) w (parB sp (i - 1) ns) (plN i j).toNat 31=_
  rw [<- seal_at h1 h2 hij]
  unfold spS
  exact if_pos ⟨hb.1,hb.2,rfl⟩
 have g2:tnF (KS n f i j) i j ((DP n f (R+2) t w ns sp ((i:Int).toNat - 1)).S (plN i j).toNat) 31=xorB (kB (yS n f t i j) 31) 1:=by
  show xorB ((DP n f (R+2) t w ns sp ((i:Int).toNat - 1)).S (plN i j).toNat 31) _=_
  rw [e]
  exact xorB_swap (pO _ _) (stF_lt _) ⟨by decide,by decide⟩
 rw [g2]at g
 exact xor1_ne (pO _ _) g.symm
theorem cm_DP {n r t w ns i:Nat} {f sp:Nat->Int}:cmP (DP n f r t w ns sp i)=comC n f i:=by
 funext k
 exact rawP_eq (on_G.nmul crvP _) rfl
theorem poly_yS {n t i j:Nat} {f:Nat->Int}:polyP (comC n f (i - 1)) j (t+1)=nmul (yS n f t i j) gG:=by
 unfold yS comC
 rw [polyP_sum,rQ]
theorem fits_iff {R n t w ns i j:Nat} {f sp:Nat->Int} (h1:1<=i) (h2:1<=j) (hij:i ≠ j):
 (fitV (DP n f (R+2) t w ns sp) i j (KS n f i j)<nN/\nmul (fitV (DP n f (R+2) t w ns sp) i j (KS n f i j)) gG=polyP (cmP (DP n f (R+2) t w ns sp (i - 1))) j (t+1)) ↔ ¬ (parB sp (i - 1) ns=true/\(plN i j).toNat=w):=by
 rw [cm_DP,poly_yS]
 constructor
 · intro h hb
   exact fitV_bad h1 h2 hij hb (nmul_G_inj h.1 yS_lt h.2)
 · intro hb
   rw [fitV_good h1 h2 hij hb]
   exact⟨yS_lt,rfl⟩
theorem qR {n r t w ns k:Nat} {f sp:Nat->Int} (hr:r<=1000) (ht:t<=1000):OkD (DP n f r t w ns sp k):=by
 refine⟨xN_w _,yN_w _,show 0<w256 by decide,show 0<w256 by decide,fun k _=>xN_w _,fun k _=>yN_w _,fun q _ b _=> ?_,?_,?_⟩
 · show 0<=spS (kK n f t k) w (parB sp k ns) q b/\spS (kK n f t k) w (parB sp k ns) q b<=255
   unfold spS
   split
   · exact jJ _ _
   · exact sealS_lt _ _
 · show r - 1<=1000000;omega
 · show t+1<=1000000;omega
theorem has_DP {R n t w ns i j:Nat} {f sp:Nat->Int} (h1:1<=i) (h2:1<=j) (hij:i ≠ j) (hi:i<=R+2) (hj:j<=R+2) (ht:t<64):hasP (R+2) (DP n f (R+2) t w ns sp) i j:=by
 refine⟨by omega,by omega,rfl,?_,?_,fun k _=>⟨comC n f _ k,on_G.nmul crvP _,rfl⟩⟩
 · show plN i j<((R+2 - 1:Nat):Int)
   unfold plN
   split <;> omega
 · show t+1<=64;omega
theorem pl_ok {R i j:Nat} (h1:1<=i) (h2:1<=j) (hij:i ≠ j) (hi:i<=R+2) (hj:j<=R+2) (hR:R<=2):plOk i j=true:=by
 simp only [plOk,isD,Bool.and_eq_true,decide_eq_true_eq,Bool.not_eq_true',beq_eq_false_iff_ne,ne_eq]
 omega
theorem fit_DP {R n t w ns i j:Nat} {f sp:Nat->Int} {b:Bool} {e:Int} (h1:1<=i) (h2:1<=j) (hij:i ≠ j) (hi:i<=R+2) (hj:j<=R+2) (hR:R<=2) (ht:t<64) (h:FitE (R+2) (DP n f (R+2) t w ns sp) i j (isI (KS n f i j)) (xN (KS n f i j)) (yN (KS n f i j)) b e):
    e=0/\b= !(parB sp (i - 1) ns && decide ((plN i j).toNat=w)):=by
  have hok:=pl_ok h1 h2 hij hi hj hR
  have hh:=has_DP (n:=n) (f:=f) (sp:=sp) (w:=w) (ns:=ns) h1 h2 hij hi hj ht
  rcases h with⟨g1,_⟩ | ⟨_,g2,_⟩ | ⟨_,_,g3,_⟩ | ⟨_,_,K,oK,eK,he,hb⟩
  · rw [hok]at g1;cases g1
  · exact absurd hh g2
  · exact absurd rfl (g3 _ KS_on)
  · obtain rfl:KS n f i j=K:=gE eK
    refine⟨he,?_⟩
    have hb':b=true ↔ ¬ (parB sp (i - 1) ns=true/\(plN i j).toNat=w):=hb.trans (fits_iff h1 h2 hij)
    cases hp:parB sp (i - 1) ns with
    | false=>rw [hb'.2 (fun x=>by rw [hp]at x;cases x.1)];rfl
    | true =>
      by_cases hw:(plN i j).toNat=w
      · rw [decide_eq_true hw]
        cases b with
        | false=>rfl
        | true=>exact absurd ⟨hp,hw⟩ (hb'.1 rfl)
      · rw [hb'.2 (fun x=>hw x.2),decide_eq_false hw];rfl
theorem ver_DP {R n t w ns i j c s:Nat} {f sp:Nat->Int} {e:Int} (h1:1<=i) (h2:1<=j) (hij:i ≠ j) (hi:i<=R+2) (hj:j<=R+2) (hR:R<=2) (ht:t<64) (hc:hoB (PK n f (j - 1)) (PK n f (i - 1)) (KS n f i j) c s=true)
 (h:VerE (R+2) (DP n f (R+2) t w ns sp) i j (isI (KS n f i j)) (xN (KS n f i j)) (yN (KS n f i j)) c s e):e=if (parB sp (i - 1) ns && decide ((plN i j).toNat=w))=true then 0 else 13:=by
 obtain⟨b,e0,hf,h⟩:=h
 obtain⟨rfl,rfl⟩:=fit_DP h1 h2 hij hi hj hR ht hf
 rcases h with⟨g1,_⟩ | ⟨_,g2,_⟩ | ⟨_,A,B,P,oA,oB,oP,eA,eB,eP,g⟩
 · exact absurd rfl g1
 · rcases g2 with g2 | g2
   · exact absurd rfl (g2 _ jT)
   · exact absurd rfl (g2 _ jT)
 · obtain rfl:PK n f (i - 1)=A:=gE eA
   obtain rfl:PK n f (j - 1)=B:=gE eB
   obtain rfl:KS n f i j=P:=gE eP
   rw [g,if_pos hc]
   cases (parB sp (i - 1) ns && decide ((plN i j).toNat=w)) <;> rfl
theorem ver_no {R n t w ns i j c s:Nat} {f sp:Nat->Int} {e:Int} (h1:1<=i) (h2:1<=j) (hij:i ≠ j) (hi:i<=R+2) (hj:j<=R+2) (hR:R<=2) (ht:t<64) (hc:hoB (PK n f (j - 1)) (PK n f (i - 1)) (KS n f i j) c s=false)
 (h:VerE (R+2) (DP n f (R+2) t w ns sp) i j (isI (KS n f i j)) (xN (KS n f i j)) (yN (KS n f i j)) c s e):e=12:=by
 obtain⟨b,e0,hf,h⟩:=h
 obtain⟨rfl,rfl⟩:=fit_DP h1 h2 hij hi hj hR ht hf
 rcases h with⟨g1,_⟩ | ⟨_,g2,_⟩ | ⟨_,A,B,P,oA,oB,oP,eA,eB,eP,g⟩
 · exact absurd rfl g1
 · rcases g2 with g2 | g2
   · exact absurd rfl (g2 _ jT)
   · exact absurd rfl (g2 _ jT)
 · obtain rfl:PK n f (i - 1)=A:=gE eA
   obtain rfl:PK n f (j - 1)=B:=gE eB
   obtain rfl:KS n f i j=P:=gE eP
   rw [g,hc];rfl
theorem ver_arg {r c s kx ky:Nat} {ki:Bool} {D:Nat->Dl} {i j e:Int} (hp:plOk i j=false) (h:VerE r D i j ki kx ky c s e):e=1:=by
 obtain⟨b,e0,hf,h⟩:=h
 have h0:e0=1:=by
  rcases hf with⟨_,_,he⟩ | ⟨g,_⟩ | ⟨g,_⟩ | ⟨g,_⟩
  · exact he
  all_goals (rw [hp]at g;cases g)
 subst h0
 rcases h with⟨_,g⟩ | ⟨g,_⟩ | ⟨g,_⟩
 · exact g
 all_goals cases g
theorem aBh {r c s kx ky:Nat} {ki:Bool} {D:Nat->Dl} {i j e:Int} (hp:plOk i j=true) (hn:¬ hasP r D i j) (h:VerE r D i j ki kx ky c s e):e=5:=by
 obtain⟨b,e0,hf,h⟩:=h
 have h0:e0=5:=by
  rcases hf with⟨g,_⟩ | ⟨_,_,_,he⟩ | ⟨_,g,_⟩ | ⟨_,g,_⟩
  · rw [hp]at g;cases g
  · exact he
  all_goals exact absurd g hn
 subst h0
 rcases h with⟨_,g⟩ | ⟨g,_⟩ | ⟨g,_⟩
 · exact g
 all_goals cases g
theorem ver_point {r c s kx ky:Nat} {ki:Bool} {D:Nat->Dl} {i j e:Int} (hp:plOk i j=true) (hn:hasP r D i j) (hb:Bad ki kx ky) (h:VerE r D i j ki kx ky c s e):e=3:=by
 obtain⟨b,e0,hf,h⟩:=h
 have h0:e0=3:=by
  rcases hf with⟨g,_⟩ | ⟨_,g,_⟩ | ⟨_,_,_,_,he⟩ | ⟨_,_,K,oK,eK,_⟩
  · rw [hp]at g;cases g
  · exact absurd hn g
  · exact he
  · exact absurd eK (hb K oK)
 subst h0
 rcases h with⟨_,g⟩ | ⟨g,_⟩ | ⟨g,_⟩
 · exact g
 all_goals cases g
theorem hoB_big {a b k:Pt Fp} {c r:Nat} (h:nN<=c):hoB a b k c r=false:=by
 unfold hoB
 rw [decide_eq_false (p:=c<nN) (by omega)];rfl
end Go.Proofs.YtfolpdmbpbbimaaGreat
end

section
namespace Go.Proofs.YtfolpdmbpbbimaaGreat
open Go Go.Wit
def rowO (p q:Nat) (d:Dl) (cap1 cap2:Nat):List AV:=dlL d (.sl p 0 (0+d.ns) cap1) (.sl q 0 d.nc cap2)
theorem fz_e (p q:Nat) (D:Nat->Dl) (d1 d2 C1 C2:Nat->Nat) (k cap1 cap2 i j:Nat) (hi:i<k+1) (hj:j<26) (v:AV) (hv1:i=k->v=(rowO p q (D k) cap1 cap2).getD j .un) (hv2:i ≠ k->v=dlG D C1 C2 i j):
 FzV p ⟨32,0+(D k).ns,catG 0 (fun x x_1=>AV.un) (dB (D k).S)⟩ v (if i=k/\j=14 then .sl q 0 (D k).nc cap2 else dlG D (fun i=>if i=k then cap1 else C1 i) C2 i j):=by
 by_cases hik:i=k
 · rw [hv1 hik]
   clear hv1 hv2
   subst hik
   by_cases h14:j=14
   · subst h14
     rw [if_pos ⟨rfl,rfl⟩];exact .inl rfl
   rw [if_neg (fun h=>h14 h.2)]
   by_cases h13:j=13
   · subst h13
     refine .inr (.inr ⟨0,0+(D i).ns,cap1,dB (D i).S,rfl,?_,by show 0+(0+(D i).ns)<=0+(D i).ns;omega,fun a b _ _=> ?_⟩)
     · show AV.vsl 32 (D i).ns (if i=i then cap1 else C1 i) (dB (D i).S)=_
       rw [if_pos rfl,Nat.zero_add]
     · show dB (D i).S a b=catG 0 (fun x x_1=>AV.un) (dB (D i).S) (0+a) b
       rw [bL (by omega)];simp
   · refine .inl ?_
     revert h14 h13
     revert j
     refine fun j hj=>lt26 (P:=fun j=>j ≠ 14->j ≠ 13->(dlG D (fun m=>if m=i then cap1 else C1 m) C2 i j)=(rowO p q (D i) cap1 cap2).getD j .un) ?_ ?_ ?_ ?_ ?_ ?_ ?_ ?_ ?_ ?_ ?_ ?_ ?_ ?_ ?_ ?_ ?_ ?_ ?_ ?_ ?_ ?_ ?_ ?_ ?_ ?_ j hj
     all_goals (intro a b;first | rfl | exact absurd rfl a | exact absurd rfl b)
 · rw [hv2 hik,if_neg (fun h=>hik h.1)]
   refine .inl ?_
   unfold dlG;simp only [if_neg hik]
theorem fz_f (q:Nat) (D:Nat->Dl) (C1 C2:Nat->Nat) (k cap1 cap2 i j:Nat) (hi:i<k+1) (hj:j<26):
 FzV q ⟨9,(D k).nc,dA (D k).I (D k).X (D k).Y⟩ (if i=k/\j=14 then .sl q 0 (D k).nc cap2 else dlG D (fun i=>if i=k then cap1 else C1 i) C2 i j) (dlG D (fun i=>if i=k then cap1 else C1 i) (fun i=>if i=k then cap2 else C2 i) i j):=by
 by_cases hik:i=k
 · subst hik
   by_cases h14:j=14
   · subst h14
     rw [if_pos ⟨rfl,rfl⟩]
     refine .inr (.inr ⟨0,(D i).nc,cap2,dA (D i).I (D i).X (D i).Y,rfl,?_,by show 0+(D i).nc<=(D i).nc;omega,fun a b _ _=>by rw [Nat.zero_add]⟩)
     show AV.vsl 9 (D i).nc (if i=i then cap2 else C2 i) _=_
     rw [if_pos rfl]
   rw [if_neg (fun h=>h14 h.2)]
   refine .inl ?_
   revert h14
   revert j
   refine fun j hj=>lt26 (P:=fun j=>j ≠ 14->dlG D (fun m=>if m=i then cap1 else C1 m) (fun m=>if m=i then cap2 else C2 m) i j=dlG D (fun m=>if m=i then cap1 else C1 m) C2 i j) ?_ ?_ ?_ ?_ ?_ ?_ ?_ ?_ ?_ ?_ ?_ ?_ ?_ ?_ ?_ ?_ ?_ ?_ ?_ ?_ ?_ ?_ ?_ ?_ ?_ ?_ j hj
   all_goals (intro a;first | rfl | exact absurd rfl a)
 · rw [if_neg (fun h=>hik h.1)]
   refine .inl ?_
   unfold dlG;simp only [if_neg hik]
set_option maxHeartbeats 4000000 in
theorem S_TwinDealersO (r cap:Nat) (D:Nat->Dl) (d1 d2:Nat->Nat) (hr:r<=10) (hD:∀ k,k<r->(D k).ns<=20/\(D k).nc<=8):ACall Pg bQ [.sl 0 0 r cap] [some ⟨26,r,dlG D d1 d2⟩] (fun v m'=>m'[0]? = some (some ⟨26,r,dlG D d1 d2⟩)/\((v= .nils/\r=0)\/∃ l cap c1 c2,1<=l/\v= .sl l 0 r cap/\m'[l]? = some (some ⟨26,r,dlG D c1 c2⟩))):=by
 refine kH ⟨rfl,?_⟩
 conv=>whnf
 repeat (refine⟨⟨_,rfl⟩,?_⟩;conv=>whnf)
 refine loop_fz aH (I:=fun q l m=>∃ (k c':Nat) (C1 C2:Nat->Nat),l= [(0,.sl 0 0 r cap),(3,.sl 1 0 k c'),(4,.int .i64 k)] /\ m= [some ⟨26,r,dlG D d1 d2⟩,some ⟨26,k,dlG D C1 C2⟩] /\ q+k=r) r
  (l0:= [(0,.sl 0 0 r cap),(3,.sl 1 0 0 0),(4,.int .i64 (0:Nat))]) (m0:= [some ⟨26,r,dlG D d1 d2⟩,some ⟨26,0,dlG D (fun _=>0) (fun _=>0)⟩]) [some 0,none] ⟨0,0,_,_,rfl,rfl,rfl⟩ ?_ ?_
 · exact .mkN ⟨.sl _ _ _ _ _ rfl,.nils _ _,Flat.i rfl,trivial⟩ ⟨.old 0 0 _ _ rfl rfl ⟨rfl,Nat.le_refl _,fun i j hi hj=>RV.of rfl (by dsimp only;exact bU)⟩,.ph _ _ _ rfl,trivial⟩ rfl rfl rfl
 · rintro q l m ⟨k,c',C1,C2,rfl,rfl,hq⟩
   conv=>whnf
   repeat (refine⟨⟨_,rfl⟩,?_⟩;conv=>whnf)
   refine aE (fun hb=> ?_) (fun hb=> ?_)
   · have hb:k<r:=by simp at hb;omega
     obtain⟨h1,h2⟩:=hD k hb
     have h1':(D (k:Int).toNat).ns<=20:=h1
     conv=>whnf
     repeat (refine⟨⟨_,rfl⟩,?_⟩;conv=>whnf)
     refine aA (by simp;omega) ?_
     conv=>whnf
     repeat (refine⟨⟨_,rfl⟩,?_⟩;conv=>whnf)
     conv=>whnf
     repeat (refine⟨⟨_,rfl⟩,?_⟩;conv=>whnf)
     rw [show 0+(k:Int).toNat=k by simp]
     refine aA (by simp [bI,Nat.ble_eq];omega) ?_
     refine⟨?_,?_⟩
     · refine⟨?_,?_⟩
       · conv=>whnf
         repeat (refine⟨⟨_,rfl⟩,?_⟩;conv=>whnf)
         refine aA (bM (by first | rfl | simp) rfl rfl (by omega) (by omega)) (fun cap1 hcap1=> ?_)
         conv=>whnf
         repeat (refine⟨⟨_,rfl⟩,?_⟩;conv=>whnf)
         refine jP (n:=(D k).nc) (I:=(D k).I) (X:=(D k).X) (Y:=(D k).Y) (bZ.vsl fun i j _ _=>dG) (by omega) (fun cap2=> ?_)
         conv=>whnf
         repeat (refine⟨⟨_,rfl⟩,?_⟩;conv=>whnf)
         refine aA (bM (by first | rfl | simp) rfl rfl (by omega) (by omega)) (fun cap3 hcap3=> ?_)
         conv=>whnf
         repeat (refine⟨⟨_,rfl⟩,?_⟩;conv=>whnf)
         have e5:IntKind.i64.wrap ((k:Int)+1)=((k+1:Nat):Int):=by rw [w64 (by omega) (by omega)];omega
         refine⟨q - 1,[(0,.sl 0 0 r cap),(3,.sl 1 0 (k+1) cap3),(4,.int .i64 ((k+1:Nat):Int))],[some ⟨26,r,dlG D d1 d2⟩,none,none,none,none,none,some ⟨26,k+1,dlG D (fun i=>if i=k then cap1 else C1 i) (fun i=>if i=k then cap2 else C2 i)⟩],[some ⟨26,r,dlG D d1 d2⟩,some ⟨26,k+1,dlG D (fun i=>if i=k then cap1 else C1 i) (fun i=>if i=k then cap2 else C2 i)⟩],[some 0,some 6],by omega,⟨k+1,cap3,_,_,rfl,rfl,by omega⟩,?_,?_⟩
         · refine .step 3 _ _ [some ⟨26,r,dlG D d1 d2⟩,none,none,none,some ⟨9,(D k).nc,dA (D k).I (D k).X (D k).Y⟩,none,some ⟨26,k+1,fun i j=>if i=k/\j=14 then .sl 4 0 (D k).nc cap2 else dlG D (fun i=>if i=k then cap1 else C1 i) C2 i j⟩] _ rfl (.c (.inr ⟨by decide,_,_,rfl,rfl,rfl,Nat.le_refl _,fun i j _ _=> .inl rfl⟩) (.c (.inl rfl) (.c (.inl rfl) (.c (.inl rfl) (.c (.inr ⟨by decide,_,_,rfl,rfl,rfl,Nat.le_refl _,fun i j _ _=> .inl rfl⟩) (.c (.inl rfl) (.c (.inr ⟨by decide,_,_,rfl,rfl,rfl,Nat.le_refl _,fun i j hi hj=> ?_⟩) .n))))))) ?_
           · refine fz_e 3 4 D d1 d2 C1 C2 k cap1 cap2 i j hi hj _ (fun h=> ?_) (fun h=> ?_)
             · dsimp only
               rw [bL (by omega),h,Nat.sub_self]
               clear hi
               revert j
               exact lt26 rfl rfl rfl rfl rfl rfl rfl rfl rfl rfl rfl rfl rfl rfl rfl rfl rfl rfl rfl rfl rfl rfl rfl rfl rfl rfl
             · dsimp only
               have hi:i<k+1:=hi
               rw [cY (by omega)]
           · refine .step 4 ⟨9,(D k).nc,dA (D k).I (D k).X (D k).Y⟩ _ [some ⟨26,r,dlG D d1 d2⟩,none,none,none,none,none,some ⟨26,k+1,dlG D (fun i=>if i=k then cap1 else C1 i) (fun i=>if i=k then cap2 else C2 i)⟩] _ rfl (.c (.inr ⟨by decide,_,_,rfl,rfl,rfl,Nat.le_refl _,fun i j _ _=> .inl rfl⟩) (.c (.inl rfl) (.c (.inl rfl) (.c (.inl rfl) (.c (.inl rfl) (.c (.inl rfl) (.c (.inr ⟨by decide,_,_,rfl,rfl,rfl,Nat.le_refl _,fun i j hi hj=> ?_⟩) .n))))))) (.refl _)
             exact fz_f 4 D C1 C2 k cap1 cap2 i j hi hj
         · exact .mkN ⟨.sl _ _ _ _ _ rfl,.sl _ _ _ _ _ rfl,Flat.i e5,trivial⟩ ⟨.old 0 0 _ _ rfl rfl ⟨rfl,Nat.le_refl _,fun i j hi hj=>RV.of rfl (by dsimp only;exact bU)⟩,.old 1 6 _ _ rfl rfl ⟨rfl,Nat.le_refl _,fun i j hi hj=>RV.of rfl (by dsimp only;exact bU)⟩,trivial⟩ rfl rfl rfl
       · conv=>whnf
         repeat (refine⟨⟨_,rfl⟩,?_⟩;conv=>whnf)
         refine aA (bM (by first | rfl | simp) rfl rfl (by omega) (by omega)) (fun cap1 hcap1=> ?_)
         conv=>whnf
         repeat (refine⟨⟨_,rfl⟩,?_⟩;conv=>whnf)
         refine jP (n:=(D k).nc) (I:=(D k).I) (X:=(D k).X) (Y:=(D k).Y) (bZ.vsl fun i j _ _=>dG) (by omega) (fun cap2=> ?_)
         conv=>whnf
         repeat (refine⟨⟨_,rfl⟩,?_⟩;conv=>whnf)
         refine aA (bM (by first | rfl | simp) rfl rfl (by omega) (by omega)) (fun cap3 hcap3=> ?_)
         conv=>whnf
         repeat (refine⟨⟨_,rfl⟩,?_⟩;conv=>whnf)
         have e5:IntKind.i64.wrap ((k:Int)+1)=((k+1:Nat):Int):=by rw [w64 (by omega) (by omega)];omega
         refine⟨q - 1,[(0,.sl 0 0 r cap),(3,.sl 1 0 (k+1) cap3),(4,.int .i64 ((k+1:Nat):Int))],[some ⟨26,r,dlG D d1 d2⟩,none,none,none,none,none,some ⟨26,k+1,dlG D (fun i=>if i=k then cap1 else C1 i) (fun i=>if i=k then cap2 else C2 i)⟩],[some ⟨26,r,dlG D d1 d2⟩,some ⟨26,k+1,dlG D (fun i=>if i=k then cap1 else C1 i) (fun i=>if i=k then cap2 else C2 i)⟩],[some 0,some 6],by omega,⟨k+1,cap3,_,_,rfl,rfl,by omega⟩,?_,?_⟩
         · refine .step 3 _ _ [some ⟨26,r,dlG D d1 d2⟩,none,none,none,some ⟨9,(D k).nc,dA (D k).I (D k).X (D k).Y⟩,none,some ⟨26,k+1,fun i j=>if i=k/\j=14 then .sl 4 0 (D k).nc cap2 else dlG D (fun i=>if i=k then cap1 else C1 i) C2 i j⟩] _ rfl (.c (.inr ⟨by decide,_,_,rfl,rfl,rfl,Nat.le_refl _,fun i j _ _=> .inl rfl⟩) (.c (.inl rfl) (.c (.inl rfl) (.c (.inl rfl) (.c (.inr ⟨by decide,_,_,rfl,rfl,rfl,Nat.le_refl _,fun i j _ _=> .inl rfl⟩) (.c (.inl rfl) (.c (.inr ⟨by decide,_,_,rfl,rfl,rfl,Nat.le_refl _,fun i j hi hj=> ?_⟩) .n))))))) ?_
           · refine fz_e 3 4 D d1 d2 C1 C2 k cap1 cap2 i j hi hj _ (fun h=> ?_) (fun h=> ?_)
             · dsimp only
               rw [bL (by omega),h,Nat.sub_self]
               clear hi
               revert j
               exact lt26 rfl rfl rfl rfl rfl rfl rfl rfl rfl rfl rfl rfl rfl rfl rfl rfl rfl rfl rfl rfl rfl rfl rfl rfl rfl rfl
             · dsimp only
               have hi:i<k+1:=hi
               rw [cY (by omega)]
           · refine .step 4 ⟨9,(D k).nc,dA (D k).I (D k).X (D k).Y⟩ _ [some ⟨26,r,dlG D d1 d2⟩,none,none,none,none,none,some ⟨26,k+1,dlG D (fun i=>if i=k then cap1 else C1 i) (fun i=>if i=k then cap2 else C2 i)⟩] _ rfl (.c (.inr ⟨by decide,_,_,rfl,rfl,rfl,Nat.le_refl _,fun i j _ _=> .inl rfl⟩) (.c (.inl rfl) (.c (.inl rfl) (.c (.inl rfl) (.c (.inl rfl) (.c (.inl rfl) (.c (.inr ⟨by decide,_,_,rfl,rfl,rfl,Nat.le_refl _,fun i j hi hj=> ?_⟩) .n))))))) (.refl _)
             exact fz_f 4 D C1 C2 k cap1 cap2 i j hi hj
         · exact .mkN ⟨.sl _ _ _ _ _ rfl,.sl _ _ _ _ _ rfl,Flat.i e5,trivial⟩ ⟨.old 0 0 _ _ rfl rfl ⟨rfl,Nat.le_refl _,fun i j hi hj=>RV.of rfl (by dsimp only;exact bU)⟩,.old 1 6 _ _ rfl rfl ⟨rfl,Nat.le_refl _,fun i j hi hj=>RV.of rfl (by dsimp only;exact bU)⟩,trivial⟩ rfl rfl rfl
     · conv=>whnf
       repeat (refine⟨⟨_,rfl⟩,?_⟩;conv=>whnf)
       refine aA (bM (by first | rfl | simp) rfl rfl (by omega) (by omega)) (fun cap1 hcap1=> ?_)
       conv=>whnf
       repeat (refine⟨⟨_,rfl⟩,?_⟩;conv=>whnf)
       refine jP (n:=(D k).nc) (I:=(D k).I) (X:=(D k).X) (Y:=(D k).Y) (bZ.vsl fun i j _ _=>dG) (by omega) (fun cap2=> ?_)
       conv=>whnf
       repeat (refine⟨⟨_,rfl⟩,?_⟩;conv=>whnf)
       refine aA (bM (by first | rfl | simp) rfl rfl (by omega) (by omega)) (fun cap3 hcap3=> ?_)
       conv=>whnf
       repeat (refine⟨⟨_,rfl⟩,?_⟩;conv=>whnf)
       have e5:IntKind.i64.wrap ((k:Int)+1)=((k+1:Nat):Int):=by rw [w64 (by omega) (by omega)];omega
       refine⟨q - 1,[(0,.sl 0 0 r cap),(3,.sl 1 0 (k+1) cap3),(4,.int .i64 ((k+1:Nat):Int))],[some ⟨26,r,dlG D d1 d2⟩,none,none,none,none,none,some ⟨26,k+1,dlG D (fun i=>if i=k then cap1 else C1 i) (fun i=>if i=k then cap2 else C2 i)⟩],[some ⟨26,r,dlG D d1 d2⟩,some ⟨26,k+1,dlG D (fun i=>if i=k then cap1 else C1 i) (fun i=>if i=k then cap2 else C2 i)⟩],[some 0,some 6],by omega,⟨k+1,cap3,_,_,rfl,rfl,by omega⟩,?_,?_⟩
       · refine .step 3 _ _ [some ⟨26,r,dlG D d1 d2⟩,none,none,none,some ⟨9,(D k).nc,dA (D k).I (D k).X (D k).Y⟩,none,some ⟨26,k+1,fun i j=>if i=k/\j=14 then .sl 4 0 (D k).nc cap2 else dlG D (fun i=>if i=k then cap1 else C1 i) C2 i j⟩] _ rfl (.c (.inr ⟨by decide,_,_,rfl,rfl,rfl,Nat.le_refl _,fun i j _ _=> .inl rfl⟩) (.c (.inl rfl) (.c (.inl rfl) (.c (.inl rfl) (.c (.inr ⟨by decide,_,_,rfl,rfl,rfl,Nat.le_refl _,fun i j _ _=> .inl rfl⟩) (.c (.inl rfl) (.c (.inr ⟨by decide,_,_,rfl,rfl,rfl,Nat.le_refl _,fun i j hi hj=> ?_⟩) .n))))))) ?_
         · refine fz_e 3 4 D d1 d2 C1 C2 k cap1 cap2 i j hi hj _ (fun h=> ?_) (fun h=> ?_)
           · dsimp only
             rw [bL (by omega),h,Nat.sub_self]
             clear hi
             revert j
             exact lt26 rfl rfl rfl rfl rfl rfl rfl rfl rfl rfl rfl rfl rfl rfl rfl rfl rfl rfl rfl rfl rfl rfl rfl rfl rfl rfl
           · dsimp only
             have hi:i<k+1:=hi
             rw [cY (by omega)]
         · refine .step 4 ⟨9,(D k).nc,dA (D k).I (D k).X (D k).Y⟩ _ [some ⟨26,r,dlG D d1 d2⟩,none,none,none,none,none,some ⟨26,k+1,dlG D (fun i=>if i=k then cap1 else C1 i) (fun i=>if i=k then cap2 else C2 i)⟩] _ rfl (.c (.inr ⟨by decide,_,_,rfl,rfl,rfl,Nat.le_refl _,fun i j _ _=> .inl rfl⟩) (.c (.inl rfl) (.c (.inl rfl) (.c (.inl rfl) (.c (.inl rfl) (.c (.inl rfl) (.c (.inr ⟨by decide,_,_,rfl,rfl,rfl,Nat.le_refl _,fun i j hi hj=> ?_⟩) .n))))))) (.refl _)
           exact fz_f 4 D C1 C2 k cap1 cap2 i j hi hj
       · exact .mkN ⟨.sl _ _ _ _ _ rfl,.sl _ _ _ _ _ rfl,Flat.i e5,trivial⟩ ⟨.old 0 0 _ _ rfl rfl ⟨rfl,Nat.le_refl _,fun i j hi hj=>RV.of rfl (by dsimp only;exact bU)⟩,.old 1 6 _ _ rfl rfl ⟨rfl,Nat.le_refl _,fun i j hi hj=>RV.of rfl (by dsimp only;exact bU)⟩,trivial⟩ rfl rfl rfl
   · have hb:k=r:=by simp at hb;omega
     subst hb
     conv=>whnf
     repeat (refine⟨⟨_,rfl⟩,?_⟩;conv=>whnf)
     exact⟨rfl,.inr ⟨1,c',C1,C2,Nat.le_refl _,rfl,rfl⟩⟩
theorem sM {m:Mem} {K:AV->Mem->Prop} {r cap l0:Nat} {D:Nat->Dl} {d1 d2:Nat->Nat} (hl0:m[l0]? = some (some ⟨26,r,dlG D d1 d2⟩)) (hr1:1<=r) (hr:r<=10) (hD:∀ k,k<r->(D k).ns<=20/\(D k).nc<=8) (h:∀ c c1 c2,memK (m++ [some ⟨26,r,dlG D c1 c2⟩]) (K (.sl m.length 0 r c))):ACall Pg bQ [.sl l0 0 r cap] m K:=by
 simp only [dJ]at h
 have hlt:=bJ hl0
 have hb0:∀ i j,i<r->j<26->dlG D d1 d2 i j=dlG D d1 d2 i j:=fun i j hi hj=>rfl
 have hb1:∀ i j,i<r->j<26->Flat false (dlG D d1 d2 i j):=fun i j hi hj=>bU
 have hg1:∀ {i q:Nat},[some l0].getD i none=some q->i=0/\q=l0:=fun {i q} h=>by
  match i,h with
  | 0,h=>exact ⟨rfl,by simpa using h.symm⟩
  | i+1,h=>simp at h
 refine(S_TwinDealersO r cap D d1 d2 hr hD).frame false [some l0] [] (fun _=>rfl) (.cons _ _ _ _ (.rv _ _ (.sl _ _ _ _ _ rfl)) .nil) ⟨.old 0 l0 _ _ rfl hl0 ⟨rfl,Nat.le_refl _,fun i j hi hj=>RV.of rfl (by dsimp only;exact bU)⟩,trivial⟩ rfl (fun i j q g1 g2=>by rw [(hg1 g1).1,(hg1 g2).1]) (fun q hq=>by cases hq) ?_
 rintro v m' ⟨k0,(⟨_,hr0⟩ | ⟨l,c,C1,C2,hl,rfl,hb⟩)⟩
 · omega
 have ht:∀ {q r':Nat},(if q=l0 then some 0 else if q=m.length then some l else none)=some r'->(q=l0/\r'=0)\/(q=m.length/\1<=r'/\r'=l):=by
  intro q r' hq
  by_cases h:q=l0
  · rw [if_pos h]at hq;exact .inl ⟨h,(Option.some.inj hq).symm⟩
  · rw [if_neg h]at hq
    by_cases h'':q=m.length
    · rw [if_pos h'']at hq;obtain rfl:=Option.some.inj hq;exact .inr ⟨h'',hl,rfl⟩
    · rw [if_neg h'']at hq;cases hq
 refine⟨.sl m.length 0 r c,m++ [some ⟨26,r,dlG D C1 C2⟩],fun q=>if q=l0 then some 0 else if q=m.length then some l else none,⟨by simp,fun q r hq=> ?_,fun q q' r hq hq'=> ?_,fun q r hlt' hq=> ?_,fun q b hq=> ?_⟩,.sl _ _ _ _ _ (by rw [if_neg (by omega),if_pos rfl]),h c C1 C2⟩
 · rw [List.length_append]
   rcases ht hq with⟨rfl,_⟩ | ⟨rfl,_⟩
   · omega
   · simp
 · rcases ht hq with⟨rfl,rfl⟩ | ⟨rfl,e,_⟩ <;> rcases ht hq' with⟨rfl,e'⟩ | ⟨rfl,e',_⟩
   all_goals first
    | rfl
    | (exfalso;omega)
 · rcases ht hq with⟨rfl,rfl⟩ | ⟨rfl,e,_⟩
   · exact⟨by simp,rfl⟩
   · exact absurd hlt' (Nat.lt_irrefl _)
 · by_cases hqm:q<m.length
   · rw [List.getElem?_append_left hqm]at hq
     by_cases hql:q=l0
     · subst hql
       rw [hl0]at hq
       obtain rfl:=Option.some.inj (Option.some.inj hq)
       exact .inr (.inl ⟨0,_,if_pos rfl,k0,rfl,Nat.le_refl _,fun i j hi hj=>RV.of (hb0 i j hi hj).symm (hb1 i j hi hj)⟩)
     · refine .inl ⟨by rw [if_neg hql,if_neg (by omega)],hq,fun i hi=>hql (hg1 hi).2⟩
   · rw [List.getElem?_append_right (by omega)]at hq
     have hqe:q=m.length:=by
      rcases Nat.lt_or_ge (q - m.length) 1 with g | g
      · omega
      · rw [List.getElem?_eq_none (by simpa using g)]at hq;cases hq
     subst hqe
     rw [Nat.sub_self]at hq
     obtain rfl:=Option.some.inj (Option.some.inj hq)
     exact .inr (.inl ⟨l,_,by rw [if_neg (by omega),if_pos rfl],hb,rfl,Nat.le_refl _,fun i j hi hj=>RV.of rfl (by dsimp only;exact bU)⟩)
end Go.Proofs.YtfolpdmbpbbimaaGreat
end

