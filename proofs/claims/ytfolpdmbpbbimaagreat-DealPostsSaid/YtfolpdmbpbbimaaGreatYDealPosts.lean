/- Texts of a proof, one behind the other; the last of these: The law DealPosts answers true for all that it may be handed: its row; no condition. -/
import Derived.Test.YtfolpdmbpbbimaaGreatZ11
import Derived.Test.YtfolpdmbpbbimaaGreatRows
import Derived.WalkKit
import Derived.ProofKit
import Derived.OpenShut
import Derived.ShutString
import Derived.ChangeOld
import Derived.Below
import Derived.SizedLaws
set_option linter.unusedVariables false
set_option linter.unusedSimpArgs false
set_option maxRecDepth 100000
section
namespace Go.Proofs.YtfolpdmbpbbimaaGreat
open Go Go.Wit
set_option maxHeartbeats 800000 in
theorem S_DealPosts (n cap:Nat) (f:Nat->Int) (t:Int) (r c0:Nat) (D:Nat->Dl) (d1 d2:Nat->Nat) (i me:Int) (hf:∀ i,i<n->0<=f i/\f i<=255) (hD:∀ k,k<r->OkZ (D k)):
 ACall Pg gW [.vsl 1 n cap (aB f),.int .i64 t,.vsl 26 r c0 (dlG D d1 d2),.int .i64 i,.int .i64 me] [] (fun v _=>v= .bool true):=by
 refine qK ⟨rfl,?_⟩
 conv=>whnf
 repeat (refine⟨⟨_,rfl⟩,?_⟩;conv=>whnf)
 refine aE (fun hn=> ?_) (fun hn=> ?_)
 rotate_left
 · conv=>whnf
   repeat (refine⟨⟨_,rfl⟩,?_⟩;conv=>whnf)
 have hn:=mX hn
 conv=>whnf
 repeat (refine⟨⟨_,rfl⟩,?_⟩;conv=>whnf)
 refine aE (fun ht=> ?_) (fun ht=> ?_)
 rotate_left
 · conv=>whnf
   repeat (refine⟨⟨_,rfl⟩,?_⟩;conv=>whnf)
 have ht:=mX ht
 conv=>whnf
 repeat (refine⟨⟨_,rfl⟩,?_⟩;conv=>whnf)
 refine S_Heavy (r:=r) aT.vsl (fun _=> ?_) (fun hr10 hHv=> ?_)
 · conv=>whnf
   repeat (refine⟨⟨_,rfl⟩,?_⟩;conv=>whnf)
 conv=>whnf
 repeat (refine⟨⟨_,rfl⟩,?_⟩;conv=>whnf)
 refine aE (fun hr=> ?_) (fun hr=> ?_)
 · conv=>whnf
   repeat (refine⟨⟨_,rfl⟩,?_⟩;conv=>whnf)
 have hr:=of_decide_eq_false hr
 have hr5:r<=5:=by omega
 have hn2:n<=100:=by omega
 have hO:∀ k,k<r->OkD (D k):=fun k hk=>(hD k hk).ok (by have:=(hHv k hk).1;omega) (by have:=(hHv k hk).2;omega)
 have hO2:∀ k,k<r->OkD (D k)/\(D k).nc<=64:=fun k hk=>⟨hO k hk,by have:=(hHv k hk).2;omega⟩
 conv=>whnf
 repeat (refine⟨⟨_,rfl⟩,?_⟩;conv=>whnf)
 refine S_TwinDealers (r:=r) hr10 hHv (fun c1 C1 C2=> ?_)
 conv=>whnf
 repeat (refine⟨⟨_,rfl⟩,?_⟩;conv=>whnf)
 by_cases harg:t<0\/¬ (1<=me/\me<=r)
 · refine S_Post_arg (n:=n) (f:=f) (r:=r) (D:=D) (t:=t) (me:=me) aM.vsl (aT.own rfl (Nat.le_refl _)) (by omega) hf (by omega) harg ?_
   conv=>whnf
   repeat (refine⟨⟨_,rfl⟩,?_⟩;conv=>whnf)
   refine S_RPost_arg (n:=n) (f:=f) (r:=r) (D:=D) (t:=t) (me:=me) aM.vsl aT.vsl (by omega) harg ?_
   conv=>whnf
   repeat (refine⟨⟨_,rfl⟩,?_⟩;conv=>whnf)
   refine pY (k:=0) (i:=false) (x:=0) (y:=0) (s:=nB) (sl:= .nils) (co:= .nils) (sl':= .nils) (co':= .nils) (ns:=0) (S:=fun _ _=>0) (nc:=0) (I:=fun _=>false) (X:=fun _=>0) (Y:=fun _=>0) (ag:=0) (c:=0) (r:=0) rfl rfl aO.nils aO.nils aO.nils aO.nils (by decide) (by decide) (by decide) (by decide) (fun j hj=>absurd hj (by omega)) (fun j hj=>absurd hj (by omega)) ?_
   conv=>whnf
   repeat (refine⟨⟨_,rfl⟩,?_⟩;conv=>whnf)
   refine aCb (n:=n) (f:=f) (r:=r) (D:=D) (i:=i) (j:=me) aM.vsl (aT.own rfl (Nat.le_refl _)) (by omega) hf (by omega) hO2 (fun y b e hy hb he hyw=> ?_)
   conv=>whnf
   repeat (refine⟨⟨_,rfl⟩,?_⟩;conv=>whnf)
   refine vD (n:=n) (f:=f) (r:=r) (D:=D) (i:=i) (j:=me) aM.vsl aT.vsl (by omega) hf (by omega) hO2 (fun y' b' e' hy' hb' he' _=> ?_)
   obtain rfl:y=y':=hy.trans hy'.symm
   obtain rfl:b=b':=hb.trans hb'.symm
   obtain rfl:e=e':=he.trans he'.symm
   clear hy hy' hb hb' he he'
   conv=>whnf
   repeat (refine⟨⟨_,rfl⟩,?_⟩;conv=>whnf)
   refine aS (by simp) ?_
   conv=>whnf
   repeat (refine⟨⟨_,rfl⟩,?_⟩;conv=>whnf)
   refine aS (by simp) ?_
   conv=>whnf
   repeat (refine⟨⟨_,rfl⟩,?_⟩;conv=>whnf)
   refine fL (by simp) ?_
   conv=>whnf
   repeat (refine⟨⟨_,rfl⟩,?_⟩;conv=>whnf)
   refine xJ (n:=n) (f:=f) (r:=r) (D:=D) (i:=i) (j:=me) aM.vsl (aT.own rfl (Nat.le_refl _)) (by omega) hf (by omega) hO2 (fun v hv=> ?_)
   rcases hv with⟨he,rfl⟩ | ⟨he,Q,A,cc,p,hQ,hA,hcc,hp,rfl⟩
   · conv=>whnf
     repeat (refine⟨⟨_,rfl⟩,?_⟩;conv=>whnf)
     refine lQ (n:=n) (f:=f) (r:=r) (D:=D) (i:=i) (j:=me) aM.vsl aT.vsl (by omega) hf (by omega) hO2 (fun v hv=> ?_)
     rcases hv with⟨_,rfl⟩ | ⟨g,_⟩
     rotate_left
     · exact absurd g he
     conv=>whnf
     repeat (refine⟨⟨_,rfl⟩,?_⟩;conv=>whnf)
     refine aS (by simp) ?_
     conv=>whnf
     repeat (refine⟨⟨_,rfl⟩,?_⟩;conv=>whnf)
     refine pY (k:=0) (i:=false) (x:=0) (y:=0) (s:=nB) (sl:= .nils) (co:= .nils) (sl':= .nils) (co':= .nils) (ns:=0) (S:=fun _ _=>0) (nc:=0) (I:=fun _=>false) (X:=fun _=>0) (Y:=fun _=>0) (ag:=0) (c:=0) (r:=0) rfl rfl aO.nils aO.nils aO.nils aO.nils (by decide) (by decide) (by decide) (by decide) (fun j hj=>absurd hj (by omega)) (fun j hj=>absurd hj (by omega)) ?_
     conv=>whnf
     repeat (refine⟨⟨_,rfl⟩,?_⟩;conv=>whnf)
     refine zM (n:=n) (f:=f) (r:=r) (D:=D) (t:=t) (me:=me) aM.vsl (aT.own rfl (Nat.le_refl _)) (by omega) hf (by omega) harg ?_
     conv=>whnf
     repeat (refine⟨⟨_,rfl⟩,?_⟩;conv=>whnf)
     refine zN (n:=n) (f:=f) (r:=r) (D:=D) (t:=t) (me:=me) aM.vsl aT.vsl (by omega) harg ?_
     conv=>whnf
     repeat (refine⟨⟨_,rfl⟩,?_⟩;conv=>whnf)
     refine lO (r:=r) (D:=D) (aT.own rfl (Nat.le_refl _)) aT.vsl (by omega) hO ?_
     conv=>whnf
     repeat (refine⟨⟨_,rfl⟩,?_⟩;conv=>whnf)
     refine pE ?_
     conv=>whnf
     repeat (refine⟨⟨_,rfl⟩,?_⟩;conv=>whnf)
   · conv=>whnf
     repeat (refine⟨⟨_,rfl⟩,?_⟩;conv=>whnf)
     refine lQ (n:=n) (f:=f) (r:=r) (D:=D) (i:=i) (j:=me) aM.vsl aT.vsl (by omega) hf (by omega) hO2 (fun v hv=> ?_)
     rcases hv with⟨g,_⟩ | ⟨_,Q',A',cc',p',hQ',hA',hcc',hp',rfl⟩
     · exact absurd he g
     obtain rfl:Q=Q':=hQ.trans hQ'.symm
     obtain rfl:A=A':=hA.trans hA'.symm
     obtain rfl:cc=cc':=hcc.trans hcc'.symm
     obtain rfl:p=p':=hp.trans hp'.symm
     conv=>whnf
     repeat (refine⟨⟨_,rfl⟩,?_⟩;conv=>whnf)
     refine pY (k:=3) (i:=isI Q) (x:=xN Q) (y:=yN Q) (s:=nB) (sl:= .nils) (co:= .nils) (sl':= .nils) (co':= .nils) (ns:=0) (S:=fun _ _=>0) (nc:=0) (I:=fun _=>false) (X:=fun _=>0) (Y:=fun _=>0) (ag:=i) (c:=cc) (r:=p) rfl rfl aO.nils aO.nils aO.nils aO.nils (xN_w _) (yN_w _) (by decide) (by decide) (fun j hj=>absurd hj (by omega)) (fun j hj=>absurd hj (by omega)) ?_
     conv=>whnf
     repeat (refine⟨⟨_,rfl⟩,?_⟩;conv=>whnf)
     refine zM (n:=n) (f:=f) (r:=r) (D:=D) (t:=t) (me:=me) aM.vsl (aT.own rfl (Nat.le_refl _)) (by omega) hf (by omega) harg ?_
     conv=>whnf
     repeat (refine⟨⟨_,rfl⟩,?_⟩;conv=>whnf)
     refine zN (n:=n) (f:=f) (r:=r) (D:=D) (t:=t) (me:=me) aM.vsl aT.vsl (by omega) harg ?_
     conv=>whnf
     repeat (refine⟨⟨_,rfl⟩,?_⟩;conv=>whnf)
     refine lO (r:=r) (D:=D) (aT.own rfl (Nat.le_refl _)) aT.vsl (by omega) hO ?_
     conv=>whnf
     repeat (refine⟨⟨_,rfl⟩,?_⟩;conv=>whnf)
     refine pE ?_
     conv=>whnf
     repeat (refine⟨⟨_,rfl⟩,?_⟩;conv=>whnf)
 have ht0:0<=t:=by omega
 have hme:1<=me/\me<=r:=by omega
 obtain⟨t,rfl⟩ :∃ q:Nat,t=q:=⟨t.toNat,by omega⟩
 obtain⟨me,rfl⟩ :∃ q:Nat,me=q:=⟨me.toNat,by omega⟩
 by_cases hbad:∃ k,k<r/\¬ nO (D k)
 · refine S_Post_bad (n:=n) (f:=f) (r:=r) (D:=D) (t:=t) (me:=me) aM.vsl (aT.own rfl (Nat.le_refl _)) (by omega) hf (by omega) (by omega) hme (fun k hk=>⟨(hO k hk).1,(hO k hk).2.1⟩) hbad ?_
   conv=>whnf
   repeat (refine⟨⟨_,rfl⟩,?_⟩;conv=>whnf)
   refine S_RPost_bad (n:=n) (f:=f) (r:=r) (D:=D) (t:=t) (me:=me) aM.vsl aT.vsl (by omega) (by omega) hme (fun k hk=>⟨(hO k hk).1,(hO k hk).2.1⟩) hbad ?_
   conv=>whnf
   repeat (refine⟨⟨_,rfl⟩,?_⟩;conv=>whnf)
   refine pY (k:=0) (i:=false) (x:=0) (y:=0) (s:=nB) (sl:= .nils) (co:= .nils) (sl':= .nils) (co':= .nils) (ns:=0) (S:=fun _ _=>0) (nc:=0) (I:=fun _=>false) (X:=fun _=>0) (Y:=fun _=>0) (ag:=0) (c:=0) (r:=0) rfl rfl aO.nils aO.nils aO.nils aO.nils (by decide) (by decide) (by decide) (by decide) (fun j hj=>absurd hj (by omega)) (fun j hj=>absurd hj (by omega)) ?_
   conv=>whnf
   repeat (refine⟨⟨_,rfl⟩,?_⟩;conv=>whnf)
   refine aCb (n:=n) (f:=f) (r:=r) (D:=D) (i:=i) (j:=me) aM.vsl (aT.own rfl (Nat.le_refl _)) (by omega) hf (by omega) hO2 (fun y b e hy hb he hyw=> ?_)
   conv=>whnf
   repeat (refine⟨⟨_,rfl⟩,?_⟩;conv=>whnf)
   refine vD (n:=n) (f:=f) (r:=r) (D:=D) (i:=i) (j:=me) aM.vsl aT.vsl (by omega) hf (by omega) hO2 (fun y' b' e' hy' hb' he' _=> ?_)
   obtain rfl:y=y':=hy.trans hy'.symm
   obtain rfl:b=b':=hb.trans hb'.symm
   obtain rfl:e=e':=he.trans he'.symm
   clear hy hy' hb hb' he he'
   conv=>whnf
   repeat (refine⟨⟨_,rfl⟩,?_⟩;conv=>whnf)
   refine aS (by simp) ?_
   conv=>whnf
   repeat (refine⟨⟨_,rfl⟩,?_⟩;conv=>whnf)
   refine aS (by simp) ?_
   conv=>whnf
   repeat (refine⟨⟨_,rfl⟩,?_⟩;conv=>whnf)
   refine fL (by simp) ?_
   conv=>whnf
   repeat (refine⟨⟨_,rfl⟩,?_⟩;conv=>whnf)
   refine xJ (n:=n) (f:=f) (r:=r) (D:=D) (i:=i) (j:=me) aM.vsl (aT.own rfl (Nat.le_refl _)) (by omega) hf (by omega) hO2 (fun v hv=> ?_)
   rcases hv with⟨he,rfl⟩ | ⟨he,Q,A,cc,p,hQ,hA,hcc,hp,rfl⟩
   · conv=>whnf
     repeat (refine⟨⟨_,rfl⟩,?_⟩;conv=>whnf)
     refine lQ (n:=n) (f:=f) (r:=r) (D:=D) (i:=i) (j:=me) aM.vsl aT.vsl (by omega) hf (by omega) hO2 (fun v hv=> ?_)
     rcases hv with⟨_,rfl⟩ | ⟨g,_⟩
     rotate_left
     · exact absurd g he
     conv=>whnf
     repeat (refine⟨⟨_,rfl⟩,?_⟩;conv=>whnf)
     refine aS (by simp) ?_
     conv=>whnf
     repeat (refine⟨⟨_,rfl⟩,?_⟩;conv=>whnf)
     refine pY (k:=0) (i:=false) (x:=0) (y:=0) (s:=nB) (sl:= .nils) (co:= .nils) (sl':= .nils) (co':= .nils) (ns:=0) (S:=fun _ _=>0) (nc:=0) (I:=fun _=>false) (X:=fun _=>0) (Y:=fun _=>0) (ag:=0) (c:=0) (r:=0) rfl rfl aO.nils aO.nils aO.nils aO.nils (by decide) (by decide) (by decide) (by decide) (fun j hj=>absurd hj (by omega)) (fun j hj=>absurd hj (by omega)) ?_
     conv=>whnf
     repeat (refine⟨⟨_,rfl⟩,?_⟩;conv=>whnf)
     refine aCc (n:=n) (f:=f) (r:=r) (D:=D) (t:=t) (me:=me) aM.vsl (aT.own rfl (Nat.le_refl _)) (by omega) (by omega) hf (by omega) (by omega) hO2 (fun u eu hu hun=> ?_)
     conv=>whnf
     repeat (refine⟨⟨_,rfl⟩,?_⟩;conv=>whnf)
     refine aCf (n:=n) (f:=f) (r:=r) (D:=D) (t:=t) (me:=me) aM.vsl aT.vsl (by omega) (by omega) hf (by omega) (by omega) hO2 (fun u' eu' hu' _=> ?_)
     obtain⟨rfl,rfl⟩ :u=u'/\eu=eu':=by
      have:=hu.trans hu'.symm
      exact⟨congrArg Prod.fst this,congrArg Prod.snd this⟩
     conv=>whnf
     repeat (refine⟨⟨_,rfl⟩,?_⟩;conv=>whnf)
     refine aS (by simp) ?_
     conv=>whnf
     repeat (refine⟨⟨_,rfl⟩,?_⟩;conv=>whnf)
     refine aS (by simp) ?_
     conv=>whnf
     repeat (refine⟨⟨_,rfl⟩,?_⟩;conv=>whnf)
     refine lO (r:=r) (D:=D) (aT.own rfl (Nat.le_refl _)) aT.vsl (by omega) hO ?_
     conv=>whnf
     repeat (refine⟨⟨_,rfl⟩,?_⟩;conv=>whnf)
     refine pE ?_
     conv=>whnf
     repeat (refine⟨⟨_,rfl⟩,?_⟩;conv=>whnf)
   · conv=>whnf
     repeat (refine⟨⟨_,rfl⟩,?_⟩;conv=>whnf)
     refine lQ (n:=n) (f:=f) (r:=r) (D:=D) (i:=i) (j:=me) aM.vsl aT.vsl (by omega) hf (by omega) hO2 (fun v hv=> ?_)
     rcases hv with⟨g,_⟩ | ⟨_,Q',A',cc',p',hQ',hA',hcc',hp',rfl⟩
     · exact absurd he g
     obtain rfl:Q=Q':=hQ.trans hQ'.symm
     obtain rfl:A=A':=hA.trans hA'.symm
     obtain rfl:cc=cc':=hcc.trans hcc'.symm
     obtain rfl:p=p':=hp.trans hp'.symm
     conv=>whnf
     repeat (refine⟨⟨_,rfl⟩,?_⟩;conv=>whnf)
     refine pY (k:=3) (i:=isI Q) (x:=xN Q) (y:=yN Q) (s:=nB) (sl:= .nils) (co:= .nils) (sl':= .nils) (co':= .nils) (ns:=0) (S:=fun _ _=>0) (nc:=0) (I:=fun _=>false) (X:=fun _=>0) (Y:=fun _=>0) (ag:=i) (c:=cc) (r:=p) rfl rfl aO.nils aO.nils aO.nils aO.nils (xN_w _) (yN_w _) (by decide) (by decide) (fun j hj=>absurd hj (by omega)) (fun j hj=>absurd hj (by omega)) ?_
     conv=>whnf
     repeat (refine⟨⟨_,rfl⟩,?_⟩;conv=>whnf)
     refine aCc (n:=n) (f:=f) (r:=r) (D:=D) (t:=t) (me:=me) aM.vsl (aT.own rfl (Nat.le_refl _)) (by omega) (by omega) hf (by omega) (by omega) hO2 (fun u eu hu hun=> ?_)
     conv=>whnf
     repeat (refine⟨⟨_,rfl⟩,?_⟩;conv=>whnf)
     refine aCf (n:=n) (f:=f) (r:=r) (D:=D) (t:=t) (me:=me) aM.vsl aT.vsl (by omega) (by omega) hf (by omega) (by omega) hO2 (fun u' eu' hu' _=> ?_)
     obtain⟨rfl,rfl⟩ :u=u'/\eu=eu':=by
      have:=hu.trans hu'.symm
      exact⟨congrArg Prod.fst this,congrArg Prod.snd this⟩
     conv=>whnf
     repeat (refine⟨⟨_,rfl⟩,?_⟩;conv=>whnf)
     refine aS (by simp) ?_
     conv=>whnf
     repeat (refine⟨⟨_,rfl⟩,?_⟩;conv=>whnf)
     refine aS (by simp) ?_
     conv=>whnf
     repeat (refine⟨⟨_,rfl⟩,?_⟩;conv=>whnf)
     refine lO (r:=r) (D:=D) (aT.own rfl (Nat.le_refl _)) aT.vsl (by omega) hO ?_
     conv=>whnf
     repeat (refine⟨⟨_,rfl⟩,?_⟩;conv=>whnf)
     refine pE ?_
     conv=>whnf
     repeat (refine⟨⟨_,rfl⟩,?_⟩;conv=>whnf)
 have hgd:∀ k,k<r->nO (D k):=fun k hk=>Classical.byContradiction fun h=>hbad ⟨k,hk,h⟩
 obtain⟨M,rfl⟩ :∃ M,r=M+1:=⟨r - 1,by omega⟩
 refine S_PostM (n:=n) (f:=f) (r:=M+1) (D:=D) (t:=t) (me:=me) M rfl aM.vsl (aT.own rfl (Nat.le_refl _)) (by omega) (by omega) hf (by omega) (by omega) (fun k hk=>⟨(hgd k hk).pt.1,(hgd k hk).pt.2,(hO k hk).1,(hO k hk).2.1⟩) (fun S P a1 a2 hS hP=> ?_)
 conv=>whnf
 repeat (refine⟨⟨_,rfl⟩,?_⟩;conv=>whnf)
 refine S_RPost (n:=n) (f:=f) (r:=M+1) (D:=D) (t:=t) (me:=me) M rfl aM.vsl aT.vsl (by omega) (by omega) hf (by omega) (by omega) (fun k hk=>⟨(hgd k hk).pt.1,(hgd k hk).pt.2,(hO k hk).1,(hO k hk).2.1⟩) (fun S' P' b1 b2 hS' hP'=> ?_)
 obtain rfl:S=S':=hS.trans hS'.symm
 obtain rfl:P=P':=hP.trans hP'.symm
 conv=>whnf
 repeat (refine⟨⟨_,rfl⟩,?_⟩;conv=>whnf)
 refine pY (k:=2) (i:=false) (x:=0) (y:=0) (s:=nB) (sl:= .sl 1 0 M a1) (co:= .sl 2 0 (t+1) a2) (sl':= .sl 4 0 M b1) (co':= .sl 5 0 (t+1) b2) (ns:=M) (S:=S) (nc:=t+1) (I:=fun k=>isI (P k)) (X:=fun k=>xN (P k)) (Y:=fun k=>yN (P k)) (ag:=0) (c:=0) (r:=0) rfl rfl (aO.sl rfl (by omega) (fun i j _ _=>⟨by rw [Nat.zero_add],eT⟩)) (aO.sl rfl (by omega) (fun i j _ _=>⟨by rw [Nat.zero_add];rfl,bR⟩)) (aO.sl rfl (by omega) (fun i j _ _=>⟨by rw [Nat.zero_add],eT⟩)) (aO.sl rfl (by omega) (fun i j _ _=>⟨by rw [Nat.zero_add];rfl,bR⟩)) (by decide) (by decide) (by omega) (by omega) (fun j _=>xN_w _) (fun j _=>yN_w _) ?_
 conv=>whnf
 repeat (refine⟨⟨_,rfl⟩,?_⟩;conv=>whnf)
 refine aCb (n:=n) (f:=f) (r:=(M+1)) (D:=D) (i:=i) (j:=me) aM.vsl (aT.own rfl (Nat.le_refl _)) (by omega) hf (by omega) hO2 (fun y b e hy hb he hyw=> ?_)
 conv=>whnf
 repeat (refine⟨⟨_,rfl⟩,?_⟩;conv=>whnf)
 refine vD (n:=n) (f:=f) (r:=(M+1)) (D:=D) (i:=i) (j:=me) aM.vsl aT.vsl (by omega) hf (by omega) hO2 (fun y' b' e' hy' hb' he' _=> ?_)
 obtain rfl:y=y':=hy.trans hy'.symm
 obtain rfl:b=b':=hb.trans hb'.symm
 obtain rfl:e=e':=he.trans he'.symm
 clear hy hy' hb hb' he he'
 conv=>whnf
 repeat (refine⟨⟨_,rfl⟩,?_⟩;conv=>whnf)
 refine aS (by simp) ?_
 conv=>whnf
 repeat (refine⟨⟨_,rfl⟩,?_⟩;conv=>whnf)
 refine aS (by simp) ?_
 conv=>whnf
 repeat (refine⟨⟨_,rfl⟩,?_⟩;conv=>whnf)
 refine fL (by simp) ?_
 conv=>whnf
 repeat (refine⟨⟨_,rfl⟩,?_⟩;conv=>whnf)
 refine xJ (n:=n) (f:=f) (r:=(M+1)) (D:=D) (i:=i) (j:=me) aM.vsl (aT.own rfl (Nat.le_refl _)) (by omega) hf (by omega) hO2 (fun v hv=> ?_)
 rcases hv with⟨he,rfl⟩ | ⟨he,Q,A,cc,p,hQ,hA,hcc,hp,rfl⟩
 · conv=>whnf
   repeat (refine⟨⟨_,rfl⟩,?_⟩;conv=>whnf)
   refine lQ (n:=n) (f:=f) (r:=(M+1)) (D:=D) (i:=i) (j:=me) aM.vsl aT.vsl (by omega) hf (by omega) hO2 (fun v hv=> ?_)
   rcases hv with⟨_,rfl⟩ | ⟨g,_⟩
   rotate_left
   · exact absurd g he
   conv=>whnf
   repeat (refine⟨⟨_,rfl⟩,?_⟩;conv=>whnf)
   refine aS (by simp) ?_
   conv=>whnf
   repeat (refine⟨⟨_,rfl⟩,?_⟩;conv=>whnf)
   refine pY (k:=0) (i:=false) (x:=0) (y:=0) (s:=nB) (sl:= .nils) (co:= .nils) (sl':= .nils) (co':= .nils) (ns:=0) (S:=fun _ _=>0) (nc:=0) (I:=fun _=>false) (X:=fun _=>0) (Y:=fun _=>0) (ag:=0) (c:=0) (r:=0) rfl rfl aO.nils aO.nils aO.nils aO.nils (by decide) (by decide) (by decide) (by decide) (fun j hj=>absurd hj (by omega)) (fun j hj=>absurd hj (by omega)) ?_
   conv=>whnf
   repeat (refine⟨⟨_,rfl⟩,?_⟩;conv=>whnf)
   refine aCc (n:=n) (f:=f) (r:=(M+1)) (D:=D) (t:=t) (me:=me) aM.vsl (aT.own rfl (Nat.le_refl _)) (by omega) (by omega) hf (by omega) (by omega) hO2 (fun u eu hu hun=> ?_)
   conv=>whnf
   repeat (refine⟨⟨_,rfl⟩,?_⟩;conv=>whnf)
   refine aCf (n:=n) (f:=f) (r:=(M+1)) (D:=D) (t:=t) (me:=me) aM.vsl aT.vsl (by omega) (by omega) hf (by omega) (by omega) hO2 (fun u' eu' hu' _=> ?_)
   obtain⟨rfl,rfl⟩ :u=u'/\eu=eu':=by
    have:=hu.trans hu'.symm
    exact⟨congrArg Prod.fst this,congrArg Prod.snd this⟩
   conv=>whnf
   repeat (refine⟨⟨_,rfl⟩,?_⟩;conv=>whnf)
   refine aS (by simp) ?_
   conv=>whnf
   repeat (refine⟨⟨_,rfl⟩,?_⟩;conv=>whnf)
   refine aS (by simp) ?_
   conv=>whnf
   repeat (refine⟨⟨_,rfl⟩,?_⟩;conv=>whnf)
   refine lO (r:=(M+1)) (D:=D) (aT.own rfl (Nat.le_refl _)) aT.vsl (by omega) hO ?_
   conv=>whnf
   repeat (refine⟨⟨_,rfl⟩,?_⟩;conv=>whnf)
   refine pE ?_
   conv=>whnf
   repeat (refine⟨⟨_,rfl⟩,?_⟩;conv=>whnf)
 · conv=>whnf
   repeat (refine⟨⟨_,rfl⟩,?_⟩;conv=>whnf)
   refine lQ (n:=n) (f:=f) (r:=(M+1)) (D:=D) (i:=i) (j:=me) aM.vsl aT.vsl (by omega) hf (by omega) hO2 (fun v hv=> ?_)
   rcases hv with⟨g,_⟩ | ⟨_,Q',A',cc',p',hQ',hA',hcc',hp',rfl⟩
   · exact absurd he g
   obtain rfl:Q=Q':=hQ.trans hQ'.symm
   obtain rfl:A=A':=hA.trans hA'.symm
   obtain rfl:cc=cc':=hcc.trans hcc'.symm
   obtain rfl:p=p':=hp.trans hp'.symm
   conv=>whnf
   repeat (refine⟨⟨_,rfl⟩,?_⟩;conv=>whnf)
   refine pY (k:=3) (i:=isI Q) (x:=xN Q) (y:=yN Q) (s:=nB) (sl:= .nils) (co:= .nils) (sl':= .nils) (co':= .nils) (ns:=0) (S:=fun _ _=>0) (nc:=0) (I:=fun _=>false) (X:=fun _=>0) (Y:=fun _=>0) (ag:=i) (c:=cc) (r:=p) rfl rfl aO.nils aO.nils aO.nils aO.nils (xN_w _) (yN_w _) (by decide) (by decide) (fun j hj=>absurd hj (by omega)) (fun j hj=>absurd hj (by omega)) ?_
   conv=>whnf
   repeat (refine⟨⟨_,rfl⟩,?_⟩;conv=>whnf)
   refine aCc (n:=n) (f:=f) (r:=(M+1)) (D:=D) (t:=t) (me:=me) aM.vsl (aT.own rfl (Nat.le_refl _)) (by omega) (by omega) hf (by omega) (by omega) hO2 (fun u eu hu hun=> ?_)
   conv=>whnf
   repeat (refine⟨⟨_,rfl⟩,?_⟩;conv=>whnf)
   refine aCf (n:=n) (f:=f) (r:=(M+1)) (D:=D) (t:=t) (me:=me) aM.vsl aT.vsl (by omega) (by omega) hf (by omega) (by omega) hO2 (fun u' eu' hu' _=> ?_)
   obtain⟨rfl,rfl⟩ :u=u'/\eu=eu':=by
    have:=hu.trans hu'.symm
    exact⟨congrArg Prod.fst this,congrArg Prod.snd this⟩
   conv=>whnf
   repeat (refine⟨⟨_,rfl⟩,?_⟩;conv=>whnf)
   refine aS (by simp) ?_
   conv=>whnf
   repeat (refine⟨⟨_,rfl⟩,?_⟩;conv=>whnf)
   refine aS (by simp) ?_
   conv=>whnf
   repeat (refine⟨⟨_,rfl⟩,?_⟩;conv=>whnf)
   refine lO (r:=(M+1)) (D:=D) (aT.own rfl (Nat.le_refl _)) aT.vsl (by omega) hO ?_
   conv=>whnf
   repeat (refine⟨⟨_,rfl⟩,?_⟩;conv=>whnf)
   refine pE ?_
   conv=>whnf
   repeat (refine⟨⟨_,rfl⟩,?_⟩;conv=>whnf)
theorem S_row_DealPosts (avs:List AV) (h:okVs [.sl 1 (.int .u8),.int .i64,.sl 26 tDealer,.int .i64,.int .i64] avs):∃ avs',kG avs avs'/\ACall Pg gW avs' [] (fun x _=>x= .bool true):=by
 obtain⟨v1,_,rfl,h1,v2,_,rfl,h2,v3,_,rfl,h3,v4,_,rfl,h4,v5,_,rfl,h5,rfl⟩:=h
 obtain⟨n,cap,f,r1,_,_,hf⟩:=ok_bytes h1
 obtain⟨t,rfl,_,_⟩:=ok_int h2
 obtain⟨r,c0,D,c1,c2,r3,_,_,hD⟩:=ok_dealers h3
 obtain⟨i,rfl,_,_⟩:=ok_int h4
 obtain⟨me,rfl,_,_⟩:=ok_int h5
 exact⟨_,.cons r1 (.cons (dO.refl _) (.cons r3 (.cons (dO.refl _) (.cons (dO.refl _) .nil)))),S_DealPosts n cap f t r c0 D c1 c2 i me hf hD⟩
end Go.Proofs.YtfolpdmbpbbimaaGreat
end

section
namespace Go.Proofs.YtfolpdmbpbbimaaGreat.dealPosts
open Go.ChangeShapes Go.WideShapes Go.ChangeAt Go.RowKit Go.Wit
theorem own:ownKnob Tryz.prog.godebug=none:=by kernel_rfl
theorem laid:laidOutB Tryz.prog=true:=by kernel_rfl
set_option maxRecDepth 100000 in
theorem lifted (os:Os) (started:os.Started) (H:Type) (enc:TypeId × Value->H):
 ReturnsInHanded {} Tryz.checked os 10 .any (Rows.dealPostsSpec.pre6 enc Tryz.prog Tryz.f10 Rows.dealPostsRow.domain false) (Rows.dealPostsSpec.post enc Tryz.prog Tryz.f10 false true false false):=by
 refine returnsInHanded_of_change_sized (C:=Tryz.checked) own started (by kernel_rfl) Tryz.func10
  (ChangeSpec.witness6 (enc:=enc) (C:=Tryz.checked) false ⟨#[],#[.slice none 0 0,.int .i64 0,.slice none 0 0,.int .i64 0,.int .i64 0],[]⟩ 12 (by kernel_rfl) (by kernel_rfl) (by kernel_rfl) (by kernel_rfl)) ?_
 intro W base args ds gs before hval0 hW hcnd hsz0 _
 have hval:∀ (j:Nat) t v,Tryz.f10.params[j]? = some t->args[j]? = some v->Value.okWide Tryz.prog W .any base t v:=hval0
 have hW':=hW
 obtain⟨p,q,hA0,hV,rfl,hfz,hnd⟩:=hW
 have hA:DataW.TrodAll enc Tryz.prog W 0 (fun _=>true) true Tryz.f10.params.toList args.toList ds p:=hA0
 obtain⟨rfl,rfl⟩:=trodVars_none hV
 have l0:ds.length=5:=trod_len hA
 obtain⟨d1,ds1,rfl,l1⟩:=mD l0
 obtain⟨d2,ds2,rfl,l2⟩:=mD l1
 obtain⟨d3,ds3,rfl,l3⟩:=mD l2
 obtain⟨d4,ds4,rfl,l4⟩:=mD l3
 obtain⟨d5,ds5,rfl,l5⟩:=mD l4
 obtain rfl:=nil_of_len l5
 refine(law_open (tys:= [.sl 1 (.int .u8),.int .i64,.sl 26 tDealer,.int .i64,.int .i64]) (by kernel_rfl) (fun j t v h1 h2=>hval j t v (by simpa using h1) (by simpa using h2)) hA S_row_DealPosts).mono fun e W' ⟨he,bel⟩=> ?_
 subst he
 exact⟨_,rfl,_,_,_,[],_,[],hW',trodAll_mk1 (shut_bool Tryz.underlying4 _),shut_vals laid bel (by kernel_rfl) hA,rfl,bel.frame _,fun h=>by cases h⟩
theorem over:Rows.dealPostsRow.holds Tryz.pinned (OpenSpec.ofChange Rows.dealPostsSpec):=
 OpenClaim.holds_of_wide 10 Tryz.f10 rfl rfl rfl rfl rfl rfl rfl ⟨rfl,rfl,rfl,rfl,rfl⟩ rfl rfl rfl rfl rfl (by kernel_rfl) Tryz.func10 (by kernel_rfl)
  (of_decide_eq_true (by kernel_rfl)) (by unfold Func.isWrapper;first | (rw [if_pos (by decide +kernel)];kernel_rfl) | (rw [if_neg (by decide +kernel)];exact⟨rfl,rfl⟩))
  (fun os started H enc _=>lifted os started H enc)
theorem proved:Rows.DealPostsSaid:=over
#print axioms proved
end Go.Proofs.YtfolpdmbpbbimaaGreat.dealPosts
namespace Go.Proofs.YtfolpdmbpbbimaaGreat
theorem dealPosts_holds:Rows.DealPostsSaid:=dealPosts.proved
end Go.Proofs.YtfolpdmbpbbimaaGreat
end

