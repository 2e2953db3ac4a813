/- Texts of a proof, one behind the other; the last of these: The law DealDisputes answers true for all that it may be handed: its row; no condition. -/
import Derived.Test.YtfolpdmbpbbimaaGreatZ10
import Derived.Test.YtfolpdmbpbbimaaGreatRows
import Derived.WalkKit
import Derived.ProofKit
import Derived.OpenShut
import Derived.ShutString
import Derived.ChangeOld
import Derived.Below
import Derived.SizedLaws
set_option linter.unusedVariables false
set_option linter.unusedSimpArgs false
set_option maxRecDepth 100000
section
namespace Go.Proofs.YtfolpdmbpbbimaaGreat
open Go Go.Wit
theorem modK (a:Int) (k:Nat) (hk:1<=k/\k<=1000):∃ w:Nat,w<k/\IntKind.i64.wrap ((IntKind.u64.wrap a).tmod (k:Int))=(w:Int):=by
 have h:0<=IntKind.u64.wrap a:=by rw [IntKind.wrap_u64];omega
 have g1:0<=IntKind.u64.wrap a % (k:Int):=Int.emod_nonneg _ (by omega)
 have g2:IntKind.u64.wrap a % (k:Int)<(k:Int):=Int.emod_lt_of_pos _ (by omega)
 refine⟨((IntKind.u64.wrap a).tmod (k:Int)).toNat,?_,?_⟩
 · rw [Int.tmod_eq_emod_of_nonneg h];omega
 · rw [Int.tmod_eq_emod_of_nonneg h,w64 (by omega) (by omega)];omega
theorem cell_seal {N k i p:Nat} {T:Nat->Nat->Int} (hp:p<32):cellG ⟨32,N,fun i j=>fl0 k (cI T i j)⟩ i (0+(p:Int).toNat*1) 0= .int .u8 (T i p):=by
 rw [show 0+(p:Int).toNat*1=p by simp,cellG_def]
 have:Nat.blt (p+0) 32=true:=by simp [Nat.blt];omega
 show (bif Nat.blt (p+0) 32 then _ else _)=_
 rw [this]
 rfl
theorem chk_dis {P:Pt Fp} {c r:Nat} {ag:Int} {S:Nat->Nat->Int} {I:Nat->Bool} {X Y:Nat->Nat} (oP:On P) (hI:isI P=false) (hc:c<nN) (hr:r<nN) (ha:1<=ag/\ag<=8):chkE 3 (isI P) (xN P) (yN P) nB 0 0 I X Y ag c r=0:=by
 unfold chkE
 rw [if_pos (by decide),if_pos (by unfold empP;simp),if_neg (by decide),if_neg (by decide),if_pos rfl,if_pos ha]
 unfold subE
 rw [if_pos ⟨hI,P,oP,rfl⟩,if_pos ⟨hc,hr⟩]
def tuS (S:Nat->Nat->Int) (w p:Nat) (c:Int):Nat->Nat->Int:=fun q j=>if q=w/\j=p then xorB (S w p) c else S q j
theorem vB {n p w i j:Nat} {S:Nat->Nat->Int} {c:Int} (hp:p<32):updG ⟨32,n,cI S⟩ (0+(w:Int).toNat) (0+(p:Int).toNat*1) 1 [.int .u8 (dA .xor .u8 (S (0+(w:Int).toNat) p) c)] i j=cI (tuS S w p c) i j:=by
 rw [show 0+(p:Int).toNat*1=p by simp,show 0+(w:Int).toNat=w by simp,eM hp]
 show _=AV.int .u8 (tuS S w p c i j)
 unfold tuS
 by_cases h:i=w/\j=p
 · rw [if_pos h,if_pos h];rfl
 · rw [if_neg h,if_neg h];rfl
theorem tu_lt {S:Nat->Nat->Int} {w p:Nat} {c:Int} (hS:∀ q b,0<=S q b/\S q b<=255):∀ q b,0<=tuS S w p c q b/\tuS S w p c q b<=255:=fun q b=>by
 unfold tuS
 split
 · exact gU _ _
 · exact hS q b
set_option maxHeartbeats 800000 in
theorem S_DealDisputes (n cap:Nat) (f:Nat->Int) (at1 tn whom:Int) (hf:∀ i,i<n->0<=f i/\f i<=255) (htn:0<=tn/\tn<=255):
 ACall Pg eH [.vsl 1 n cap (aB f),.int .i64 at1,.int .u8 tn,.int .i64 whom] [] (fun v _=>v= .bool true):=by
 obtain⟨w,hwR,hw⟩:=modK whom 2 (by decide)
 have hw2:IntKind.i64.wrap ((IntKind.u64.wrap whom).tmod 2)=(w:Int):=hw
 obtain⟨p,hpR,hp⟩:=modK at1 32 (by decide)
 have hp2:IntKind.i64.wrap ((IntKind.u64.wrap at1).tmod 32)=(p:Int):=hp
 refine mK ⟨rfl,?_⟩
 conv=>whnf
 repeat (refine⟨⟨_,rfl⟩,?_⟩;conv=>whnf)
 refine aE (fun hn=> ?_) (fun hn=> ?_)
 rotate_left
 · conv=>whnf
   repeat (refine⟨⟨_,rfl⟩,?_⟩;conv=>whnf)
 have hn:=of_eqf hn
 conv=>whnf
 repeat (refine⟨⟨_,rfl⟩,?_⟩;conv=>whnf)
 refine aE (fun h0=> ?_) (fun h0=> ?_)
 · conv=>whnf
   repeat (refine⟨⟨_,rfl⟩,?_⟩;conv=>whnf)
 have h0:tn ≠ 0:=by simpa using h0
 conv=>whnf
 repeat (refine⟨⟨_,rfl⟩,?_⟩;conv=>whnf)
 refine S_PostedS (R:=1) (t:=1) rfl rfl (by decide) (by decide) (by omega) hf (fun c a0 C1 C2=> ?_)
 conv=>whnf
 repeat (refine⟨⟨_,rfl⟩,?_⟩;conv=>whnf)
 refine aE (fun _=> ?_) (fun _ h=>absurd h (by omega))
 conv=>whnf
 repeat (refine⟨⟨_,rfl⟩,?_⟩;conv=>whnf)
 refine xI (n:=n) (f:=f) aQ.vsl (by omega) (fun cap1=> ?_)
 conv=>whnf
 repeat (refine⟨⟨_,rfl⟩,?_⟩;conv=>whnf)
 refine aA (bQ (by first | rfl | simp) rfl rfl (by omega) (by omega)) (fun cap2 hcap2=> ?_)
 conv=>whnf
 repeat (refine⟨⟨_,rfl⟩,?_⟩;conv=>whnf)
 rw [hw2]
 have hw01:w=0\/w=1:=by omega
 rcases hw01 with rfl | rfl
 · refine tU (n:=n+1) (f:=sdF n f 1) (r:=3) (D:=tw (DQ n f 3 1) (dI n f 1 0)) (i:=1) (j:=2) rfl rfl (aQ.slG rfl (Nat.le_of_eq (Nat.zero_add _)) fun i hi=> ?_) (lL (l2:=1) (R:=1) (a0:=a0) (C1:=C1) (C2:=C2) rfl rfl (fun i j _ _=>rfl) rfl (Nat.le_refl _)) (by omega) (kO hf (by omega)) (by decide) (fun k _=>tw_ok jZ k) (fun y b e hy hb he hyw=> ?_)
   · rw [show 0+i=i from Nat.zero_add i]
     exact iJ (by omega) hi rfl rfl
   conv=>whnf
   repeat (refine⟨⟨_,rfl⟩,?_⟩;conv=>whnf)
   have hm:2=2\/2=3:=by decide
   obtain rfl:e=0:=he.trans (tw_E (me:=2) hm)
   have hy1:y=yS n f 1 1 2:=hy.trans ((tw_Y (me:=2) hm).trans (zI (by decide) (fun b _=>rfl)))
   obtain rfl:b=true:=hb.trans ((tw_T (me:=2) hm).2 (zI (by decide) (fun b _=>rfl)))
   clear hy hb he
   conv=>whnf
   repeat (refine⟨⟨_,rfl⟩,?_⟩;conv=>whnf)
   rw [hp2]
   refine aA (by simp only [Bool.and_eq_true,decide_eq_true_eq];omega) ?_
   conv=>whnf
   repeat (refine⟨⟨_,rfl⟩,?_⟩;conv=>whnf)
   rw [cell_seal hpR]
   conv=>whnf
   repeat (refine⟨⟨_,rfl⟩,?_⟩;conv=>whnf)
   refine aA (by simp [bI,Nat.ble_eq];omega) ?_
   conv=>whnf
   repeat (refine⟨⟨_,rfl⟩,?_⟩;conv=>whnf)
   refine aA (by simp only [Bool.and_eq_true,decide_eq_true_eq];omega) ?_
   conv=>whnf
   repeat (refine⟨⟨_,rfl⟩,?_⟩;conv=>whnf)
   refine aA (by simp [bI,Nat.ble_eq];omega) ?_
   conv=>whnf
   repeat (refine⟨⟨_,rfl⟩,?_⟩;conv=>whnf)
   refine tU (n:=n+1) (f:=sdF n f 1) (r:=3) (D:=tw (DQ n f 3 1) (tuS (dI n f 1 0) 0 p tn)) (i:=1) (j:=2) rfl rfl (aQ.slG rfl (Nat.le_of_eq (Nat.zero_add _)) fun i hi=> ?_) (lL (l2:=1) (R:=1) (a0:=a0) (C1:=C1) (C2:=C2) rfl rfl (fun i j _ _=>vB (w:=0) hpR) rfl (Nat.le_refl _)) (by omega) (kO hf (by omega)) (by decide) (fun k _=>tw_ok (tu_lt jZ) k) (fun z b e hz hb he hzw=> ?_)
   · rw [show 0+i=i from Nat.zero_add i]
     exact iJ (by omega) hi rfl rfl
   obtain rfl:e=0:=he.trans (tw_E (me:=2) hm)
   have hbad:opY n f 2 (tuS (dI n f 1 0) 0 p tn (plN 1 (2:Nat)).toNat) ≠ yS n f 1 1 2:=opY_bad (q:=p) (c:=tn) (by decide) hpR htn h0 (if_pos ⟨rfl,rfl⟩)
   have hz1:z=opY n f 2 (tuS (dI n f 1 0) 0 p tn (plN 1 (2:Nat)).toNat):=hz.trans (tw_Y (me:=2) hm)
   have hzy:z ≠ y:=by rw [hz1,hy1];exact hbad
   obtain rfl:b=false:=by
    rw [hb]
    exact Bool.eq_false_iff.2 fun h=>hbad ((tw_T (me:=2) hm).1 h)
   clear hz hb he
   conv=>whnf
   repeat (refine⟨⟨_,rfl⟩,?_⟩;conv=>whnf)
   refine cH (by show (eqX z y == false)=true;rw [gW hzw hyw,decide_eq_false hzy];rfl) ?_
   conv=>whnf
   repeat (refine⟨⟨_,rfl⟩,?_⟩;conv=>whnf)
   refine kY (fun pr hpr=> ?_)
   conv=>whnf
   repeat (refine⟨⟨_,rfl⟩,?_⟩;conv=>whnf)
   refine S_RCmp hzw (by rw [hpr];decide) (fun kk hkk=> ?_)
   conv=>whnf
   repeat (refine⟨⟨_,rfl⟩,?_⟩;conv=>whnf)
   refine aE (fun hlt=> ?_) (fun hlt=> ?_)
   · conv=>whnf
     repeat (refine⟨⟨_,rfl⟩,?_⟩;conv=>whnf)
     refine S_Red_1 hzw (fun u hu=> ?_)
     conv=>whnf
     repeat (refine⟨⟨_,rfl⟩,?_⟩;conv=>whnf)
     refine S_Red_1 hyw (fun v hv=> ?_)
     have hkz:z<nN:=by
      have h1:kk<0:=of_eqt hlt
      rcases mI hkk with⟨h,_⟩ | ⟨_,h | h⟩
      · rw [hpr]at h;exact h
      · omega
      · omega
     have huv:u ≠ v:=by
      rw [hu,hv,Nat.mod_eq_of_lt hkz,Nat.mod_eq_of_lt (by rw [hy1];exact yS_lt)]
      exact hzy
     have hul:u<w256:=by rw [hu];exact Nat.lt_trans (Nat.mod_lt _ (by decide)) (show nN<w256 by decide)
     have hvl:v<w256:=by rw [hv];exact Nat.lt_trans (Nat.mod_lt _ (by decide)) (show nN<w256 by decide)
     conv=>whnf
     repeat (refine⟨⟨_,rfl⟩,?_⟩;conv=>whnf)
     refine cH (by show ((!(false == eqX u v)) == false)=true;rw [gW hul hvl,decide_eq_false huv];rfl) ?_
     conv=>whnf
     repeat (refine⟨⟨_,rfl⟩,?_⟩;conv=>whnf)
     refine oN (n:=n+1) (f:=sdF n f 1) (r:=3) (D:=tw (DQ n f 3 1) (tuS (dI n f 1 0) 0 p tn)) (i:=1) (j:=2) rfl rfl (aQ.slG rfl (Nat.le_of_eq (Nat.zero_add _)) fun i hi=> ?_) (lL (l2:=1) (R:=1) (a0:=a0) (C1:=C1) (C2:=C2) rfl rfl (fun i j _ _=>vB (w:=0) hpR) rfl (Nat.le_refl _)) (by omega) (kO hf (by omega)) (by decide) (fun k _=>tw_ok (tu_lt jZ) k) (fun v hv=> ?_)
     · rw [show 0+i=i from Nat.zero_add i]
       exact iJ (by omega) hi rfl rfl
     rcases hv with⟨g,_⟩ | ⟨_,Q,A,cc,pp,hQ,hA,hcc,hpp,rfl⟩
     · exact absurd (tw_E (me:=2) hm) g
     have hQK:Q=KS n f 1 2:=hQ.trans (tw_Q (me:=2))
     have hRI:isI Q=false:=by rw [hQK];exact zK tW (tQ kM kN) kM kN
     have hcN:cc<nN:=by rw [hcc];exact chN_lt
     have hpN:pp<nN:=by rw [hpp];exact Nat.mod_lt _ (by decide)
     conv=>whnf
     repeat (refine⟨⟨_,rfl⟩,?_⟩;conv=>whnf)
     refine xI (n:=n) (f:=f) aQ.vsl (by omega) (fun cap3=> ?_)
     conv=>whnf
     repeat (refine⟨⟨_,rfl⟩,?_⟩;conv=>whnf)
     refine aA (bQ (by first | rfl | simp) rfl rfl (by omega) (by omega)) (fun cap4 hcap4=> ?_)
     conv=>whnf
     repeat (refine⟨⟨_,rfl⟩,?_⟩;conv=>whnf)
     refine oY (n:=n+1) (f:=sdF n f 0) (aQ.slG rfl (Nat.le_of_eq (Nat.zero_add _)) fun i hi=> ?_) (by omega) (kO hf (by omega)) (fun _ s0 hs0 hs01 _=> ?_) (fun h=>absurd h (by omega))
     · rw [show 0+i=i from Nat.zero_add i]
       exact iJ (by omega) hi rfl rfl
     conv=>whnf
     repeat (refine⟨⟨_,rfl⟩,?_⟩;conv=>whnf)
     have eBi:0+(IntKind.i64.wrap (IntKind.i64.wrap (2+((0:Nat):Int)) - 1)).toNat=2 - 1:=by decide
     refine zW (n:=s0) (P:=PK n f (0+(IntKind.i64.wrap (IntKind.i64.wrap (2+((0:Nat):Int)) - 1)).toNat)) rfl rfl (Nat.lt_trans hs01 (by decide)) tW (fun R oR hR=> ?_)
     rw [eBi]at hR
     have hRQ:R=Q:=by rw [hQK,KS_sym,hR,hs0];rfl
     subst hRQ
     conv=>whnf
     repeat (refine⟨⟨_,rfl⟩,?_⟩;conv=>whnf)
     refine lT (i:=isI R) (x:=xN R) (y:=yN R) rfl rfl (xN_w _) (yN_w _) ?_
     conv=>whnf
     repeat (refine⟨⟨_,rfl⟩,?_⟩;conv=>whnf)
     refine zY (k:=3) (i:=isI R) (x:=xN R) (y:=yN R) (s:=nB) (sl:= .nils) (co:= .nils) (ns:=0) (S:=fun _ _=>0) (nc:=0) (I:=fun _=>false) (X:=fun _=>0) (Y:=fun _=>0) (ag:=1) (c:=cc) (r:=pp) rfl bW.nils bW.nils (xN_w R) (yN_w R) (Nat.lt_trans hcN (by decide)) (Nat.lt_trans hpN (by decide)) (by decide) (fun j hj=>absurd hj (by omega)) (fun j hj=>absurd hj (by omega)) (fun ee hee=> ?_)
     rw [chk_dis (S:=fun _ _=>0) oR hRI hcN hpN (by decide)]at hee
     subst hee
     conv=>whnf
     repeat (refine⟨⟨_,rfl⟩,?_⟩;conv=>whnf)
     refine tR ?_
     conv=>whnf
     repeat (refine⟨⟨_,rfl⟩,?_⟩;conv=>whnf)
   · conv=>whnf
     repeat (refine⟨⟨_,rfl⟩,?_⟩;conv=>whnf)
     refine oN (n:=n+1) (f:=sdF n f 1) (r:=3) (D:=tw (DQ n f 3 1) (tuS (dI n f 1 0) 0 p tn)) (i:=1) (j:=2) rfl rfl (aQ.slG rfl (Nat.le_of_eq (Nat.zero_add _)) fun i hi=> ?_) (lL (l2:=1) (R:=1) (a0:=a0) (C1:=C1) (C2:=C2) rfl rfl (fun i j _ _=>vB (w:=0) hpR) rfl (Nat.le_refl _)) (by omega) (kO hf (by omega)) (by decide) (fun k _=>tw_ok (tu_lt jZ) k) (fun v hv=> ?_)
     · rw [show 0+i=i from Nat.zero_add i]
       exact iJ (by omega) hi rfl rfl
     rcases hv with⟨g,_⟩ | ⟨_,Q,A,cc,pp,hQ,hA,hcc,hpp,rfl⟩
     · exact absurd (tw_E (me:=2) hm) g
     have hQK:Q=KS n f 1 2:=hQ.trans (tw_Q (me:=2))
     have hRI:isI Q=false:=by rw [hQK];exact zK tW (tQ kM kN) kM kN
     have hcN:cc<nN:=by rw [hcc];exact chN_lt
     have hpN:pp<nN:=by rw [hpp];exact Nat.mod_lt _ (by decide)
     conv=>whnf
     repeat (refine⟨⟨_,rfl⟩,?_⟩;conv=>whnf)
     refine xI (n:=n) (f:=f) aQ.vsl (by omega) (fun cap3=> ?_)
     conv=>whnf
     repeat (refine⟨⟨_,rfl⟩,?_⟩;conv=>whnf)
     refine aA (bQ (by first | rfl | simp) rfl rfl (by omega) (by omega)) (fun cap4 hcap4=> ?_)
     conv=>whnf
     repeat (refine⟨⟨_,rfl⟩,?_⟩;conv=>whnf)
     refine oY (n:=n+1) (f:=sdF n f 0) (aQ.slG rfl (Nat.le_of_eq (Nat.zero_add _)) fun i hi=> ?_) (by omega) (kO hf (by omega)) (fun _ s0 hs0 hs01 _=> ?_) (fun h=>absurd h (by omega))
     · rw [show 0+i=i from Nat.zero_add i]
       exact iJ (by omega) hi rfl rfl
     conv=>whnf
     repeat (refine⟨⟨_,rfl⟩,?_⟩;conv=>whnf)
     have eBi:0+(IntKind.i64.wrap (IntKind.i64.wrap (2+((0:Nat):Int)) - 1)).toNat=2 - 1:=by decide
     refine zW (n:=s0) (P:=PK n f (0+(IntKind.i64.wrap (IntKind.i64.wrap (2+((0:Nat):Int)) - 1)).toNat)) rfl rfl (Nat.lt_trans hs01 (by decide)) tW (fun R oR hR=> ?_)
     rw [eBi]at hR
     have hRQ:R=Q:=by rw [hQK,KS_sym,hR,hs0];rfl
     subst hRQ
     conv=>whnf
     repeat (refine⟨⟨_,rfl⟩,?_⟩;conv=>whnf)
     refine lT (i:=isI R) (x:=xN R) (y:=yN R) rfl rfl (xN_w _) (yN_w _) ?_
     conv=>whnf
     repeat (refine⟨⟨_,rfl⟩,?_⟩;conv=>whnf)
     refine zY (k:=3) (i:=isI R) (x:=xN R) (y:=yN R) (s:=nB) (sl:= .nils) (co:= .nils) (ns:=0) (S:=fun _ _=>0) (nc:=0) (I:=fun _=>false) (X:=fun _=>0) (Y:=fun _=>0) (ag:=1) (c:=cc) (r:=pp) rfl bW.nils bW.nils (xN_w R) (yN_w R) (Nat.lt_trans hcN (by decide)) (Nat.lt_trans hpN (by decide)) (by decide) (fun j hj=>absurd hj (by omega)) (fun j hj=>absurd hj (by omega)) (fun ee hee=> ?_)
     rw [chk_dis (S:=fun _ _=>0) oR hRI hcN hpN (by decide)]at hee
     subst hee
     conv=>whnf
     repeat (refine⟨⟨_,rfl⟩,?_⟩;conv=>whnf)
     refine tR ?_
     conv=>whnf
     repeat (refine⟨⟨_,rfl⟩,?_⟩;conv=>whnf)
 · refine tU (n:=n+1) (f:=sdF n f 2) (r:=3) (D:=tw (DQ n f 3 1) (dI n f 1 0)) (i:=1) (j:=3) rfl rfl (aQ.slG rfl (Nat.le_of_eq (Nat.zero_add _)) fun i hi=> ?_) (lL (l2:=1) (R:=1) (a0:=a0) (C1:=C1) (C2:=C2) rfl rfl (fun i j _ _=>rfl) rfl (Nat.le_refl _)) (by omega) (kO hf (by omega)) (by decide) (fun k _=>tw_ok jZ k) (fun y b e hy hb he hyw=> ?_)
   · rw [show 0+i=i from Nat.zero_add i]
     exact iJ (by omega) hi rfl rfl
   conv=>whnf
   repeat (refine⟨⟨_,rfl⟩,?_⟩;conv=>whnf)
   have hm:3=2\/3=3:=by decide
   obtain rfl:e=0:=he.trans (tw_E (me:=3) hm)
   have hy1:y=yS n f 1 1 3:=hy.trans ((tw_Y (me:=3) hm).trans (zI (by decide) (fun b _=>rfl)))
   obtain rfl:b=true:=hb.trans ((tw_T (me:=3) hm).2 (zI (by decide) (fun b _=>rfl)))
   clear hy hb he
   conv=>whnf
   repeat (refine⟨⟨_,rfl⟩,?_⟩;conv=>whnf)
   rw [hp2]
   refine aA (by simp only [Bool.and_eq_true,decide_eq_true_eq];omega) ?_
   conv=>whnf
   repeat (refine⟨⟨_,rfl⟩,?_⟩;conv=>whnf)
   rw [cell_seal hpR]
   conv=>whnf
   repeat (refine⟨⟨_,rfl⟩,?_⟩;conv=>whnf)
   refine aA (by simp [bI,Nat.ble_eq];omega) ?_
   conv=>whnf
   repeat (refine⟨⟨_,rfl⟩,?_⟩;conv=>whnf)
   refine aA (by simp only [Bool.and_eq_true,decide_eq_true_eq];omega) ?_
   conv=>whnf
   repeat (refine⟨⟨_,rfl⟩,?_⟩;conv=>whnf)
   refine aA (by simp [bI,Nat.ble_eq];omega) ?_
   conv=>whnf
   repeat (refine⟨⟨_,rfl⟩,?_⟩;conv=>whnf)
   refine tU (n:=n+1) (f:=sdF n f 2) (r:=3) (D:=tw (DQ n f 3 1) (tuS (dI n f 1 0) 1 p tn)) (i:=1) (j:=3) rfl rfl (aQ.slG rfl (Nat.le_of_eq (Nat.zero_add _)) fun i hi=> ?_) (lL (l2:=1) (R:=1) (a0:=a0) (C1:=C1) (C2:=C2) rfl rfl (fun i j _ _=>vB (w:=1) hpR) rfl (Nat.le_refl _)) (by omega) (kO hf (by omega)) (by decide) (fun k _=>tw_ok (tu_lt jZ) k) (fun z b e hz hb he hzw=> ?_)
   · rw [show 0+i=i from Nat.zero_add i]
     exact iJ (by omega) hi rfl rfl
   obtain rfl:e=0:=he.trans (tw_E (me:=3) hm)
   have hbad:opY n f 3 (tuS (dI n f 1 0) 1 p tn (plN 1 (3:Nat)).toNat) ≠ yS n f 1 1 3:=opY_bad (q:=p) (c:=tn) (by decide) hpR htn h0 (if_pos ⟨rfl,rfl⟩)
   have hz1:z=opY n f 3 (tuS (dI n f 1 0) 1 p tn (plN 1 (3:Nat)).toNat):=hz.trans (tw_Y (me:=3) hm)
   have hzy:z ≠ y:=by rw [hz1,hy1];exact hbad
   obtain rfl:b=false:=by
    rw [hb]
    exact Bool.eq_false_iff.2 fun h=>hbad ((tw_T (me:=3) hm).1 h)
   clear hz hb he
   conv=>whnf
   repeat (refine⟨⟨_,rfl⟩,?_⟩;conv=>whnf)
   refine cH (by show (eqX z y == false)=true;rw [gW hzw hyw,decide_eq_false hzy];rfl) ?_
   conv=>whnf
   repeat (refine⟨⟨_,rfl⟩,?_⟩;conv=>whnf)
   refine kY (fun pr hpr=> ?_)
   conv=>whnf
   repeat (refine⟨⟨_,rfl⟩,?_⟩;conv=>whnf)
   refine S_RCmp hzw (by rw [hpr];decide) (fun kk hkk=> ?_)
   conv=>whnf
   repeat (refine⟨⟨_,rfl⟩,?_⟩;conv=>whnf)
   refine aE (fun hlt=> ?_) (fun hlt=> ?_)
   · conv=>whnf
     repeat (refine⟨⟨_,rfl⟩,?_⟩;conv=>whnf)
     refine S_Red_1 hzw (fun u hu=> ?_)
     conv=>whnf
     repeat (refine⟨⟨_,rfl⟩,?_⟩;conv=>whnf)
     refine S_Red_1 hyw (fun v hv=> ?_)
     have hkz:z<nN:=by
      have h1:kk<0:=of_eqt hlt
      rcases mI hkk with⟨h,_⟩ | ⟨_,h | h⟩
      · rw [hpr]at h;exact h
      · omega
      · omega
     have huv:u ≠ v:=by
      rw [hu,hv,Nat.mod_eq_of_lt hkz,Nat.mod_eq_of_lt (by rw [hy1];exact yS_lt)]
      exact hzy
     have hul:u<w256:=by rw [hu];exact Nat.lt_trans (Nat.mod_lt _ (by decide)) (show nN<w256 by decide)
     have hvl:v<w256:=by rw [hv];exact Nat.lt_trans (Nat.mod_lt _ (by decide)) (show nN<w256 by decide)
     conv=>whnf
     repeat (refine⟨⟨_,rfl⟩,?_⟩;conv=>whnf)
     refine cH (by show ((!(false == eqX u v)) == false)=true;rw [gW hul hvl,decide_eq_false huv];rfl) ?_
     conv=>whnf
     repeat (refine⟨⟨_,rfl⟩,?_⟩;conv=>whnf)
     refine oN (n:=n+1) (f:=sdF n f 2) (r:=3) (D:=tw (DQ n f 3 1) (tuS (dI n f 1 0) 1 p tn)) (i:=1) (j:=3) rfl rfl (aQ.slG rfl (Nat.le_of_eq (Nat.zero_add _)) fun i hi=> ?_) (lL (l2:=1) (R:=1) (a0:=a0) (C1:=C1) (C2:=C2) rfl rfl (fun i j _ _=>vB (w:=1) hpR) rfl (Nat.le_refl _)) (by omega) (kO hf (by omega)) (by decide) (fun k _=>tw_ok (tu_lt jZ) k) (fun v hv=> ?_)
     · rw [show 0+i=i from Nat.zero_add i]
       exact iJ (by omega) hi rfl rfl
     rcases hv with⟨g,_⟩ | ⟨_,Q,A,cc,pp,hQ,hA,hcc,hpp,rfl⟩
     · exact absurd (tw_E (me:=3) hm) g
     have hQK:Q=KS n f 1 3:=hQ.trans (tw_Q (me:=3))
     have hRI:isI Q=false:=by rw [hQK];exact zK tW (tQ kM kN) kM kN
     have hcN:cc<nN:=by rw [hcc];exact chN_lt
     have hpN:pp<nN:=by rw [hpp];exact Nat.mod_lt _ (by decide)
     conv=>whnf
     repeat (refine⟨⟨_,rfl⟩,?_⟩;conv=>whnf)
     refine xI (n:=n) (f:=f) aQ.vsl (by omega) (fun cap3=> ?_)
     conv=>whnf
     repeat (refine⟨⟨_,rfl⟩,?_⟩;conv=>whnf)
     refine aA (bQ (by first | rfl | simp) rfl rfl (by omega) (by omega)) (fun cap4 hcap4=> ?_)
     conv=>whnf
     repeat (refine⟨⟨_,rfl⟩,?_⟩;conv=>whnf)
     refine oY (n:=n+1) (f:=sdF n f 0) (aQ.slG rfl (Nat.le_of_eq (Nat.zero_add _)) fun i hi=> ?_) (by omega) (kO hf (by omega)) (fun _ s0 hs0 hs01 _=> ?_) (fun h=>absurd h (by omega))
     · rw [show 0+i=i from Nat.zero_add i]
       exact iJ (by omega) hi rfl rfl
     conv=>whnf
     repeat (refine⟨⟨_,rfl⟩,?_⟩;conv=>whnf)
     have eBi:0+(IntKind.i64.wrap (IntKind.i64.wrap (2+((1:Nat):Int)) - 1)).toNat=3 - 1:=by decide
     refine zW (n:=s0) (P:=PK n f (0+(IntKind.i64.wrap (IntKind.i64.wrap (2+((1:Nat):Int)) - 1)).toNat)) rfl rfl (Nat.lt_trans hs01 (by decide)) tW (fun R oR hR=> ?_)
     rw [eBi]at hR
     have hRQ:R=Q:=by rw [hQK,KS_sym,hR,hs0];rfl
     subst hRQ
     conv=>whnf
     repeat (refine⟨⟨_,rfl⟩,?_⟩;conv=>whnf)
     refine lT (i:=isI R) (x:=xN R) (y:=yN R) rfl rfl (xN_w _) (yN_w _) ?_
     conv=>whnf
     repeat (refine⟨⟨_,rfl⟩,?_⟩;conv=>whnf)
     refine zY (k:=3) (i:=isI R) (x:=xN R) (y:=yN R) (s:=nB) (sl:= .nils) (co:= .nils) (ns:=0) (S:=fun _ _=>0) (nc:=0) (I:=fun _=>false) (X:=fun _=>0) (Y:=fun _=>0) (ag:=1) (c:=cc) (r:=pp) rfl bW.nils bW.nils (xN_w R) (yN_w R) (Nat.lt_trans hcN (by decide)) (Nat.lt_trans hpN (by decide)) (by decide) (fun j hj=>absurd hj (by omega)) (fun j hj=>absurd hj (by omega)) (fun ee hee=> ?_)
     rw [chk_dis (S:=fun _ _=>0) oR hRI hcN hpN (by decide)]at hee
     subst hee
     conv=>whnf
     repeat (refine⟨⟨_,rfl⟩,?_⟩;conv=>whnf)
     refine tR ?_
     conv=>whnf
     repeat (refine⟨⟨_,rfl⟩,?_⟩;conv=>whnf)
   · conv=>whnf
     repeat (refine⟨⟨_,rfl⟩,?_⟩;conv=>whnf)
     refine oN (n:=n+1) (f:=sdF n f 2) (r:=3) (D:=tw (DQ n f 3 1) (tuS (dI n f 1 0) 1 p tn)) (i:=1) (j:=3) rfl rfl (aQ.slG rfl (Nat.le_of_eq (Nat.zero_add _)) fun i hi=> ?_) (lL (l2:=1) (R:=1) (a0:=a0) (C1:=C1) (C2:=C2) rfl rfl (fun i j _ _=>vB (w:=1) hpR) rfl (Nat.le_refl _)) (by omega) (kO hf (by omega)) (by decide) (fun k _=>tw_ok (tu_lt jZ) k) (fun v hv=> ?_)
     · rw [show 0+i=i from Nat.zero_add i]
       exact iJ (by omega) hi rfl rfl
     rcases hv with⟨g,_⟩ | ⟨_,Q,A,cc,pp,hQ,hA,hcc,hpp,rfl⟩
     · exact absurd (tw_E (me:=3) hm) g
     have hQK:Q=KS n f 1 3:=hQ.trans (tw_Q (me:=3))
     have hRI:isI Q=false:=by rw [hQK];exact zK tW (tQ kM kN) kM kN
     have hcN:cc<nN:=by rw [hcc];exact chN_lt
     have hpN:pp<nN:=by rw [hpp];exact Nat.mod_lt _ (by decide)
     conv=>whnf
     repeat (refine⟨⟨_,rfl⟩,?_⟩;conv=>whnf)
     refine xI (n:=n) (f:=f) aQ.vsl (by omega) (fun cap3=> ?_)
     conv=>whnf
     repeat (refine⟨⟨_,rfl⟩,?_⟩;conv=>whnf)
     refine aA (bQ (by first | rfl | simp) rfl rfl (by omega) (by omega)) (fun cap4 hcap4=> ?_)
     conv=>whnf
     repeat (refine⟨⟨_,rfl⟩,?_⟩;conv=>whnf)
     refine oY (n:=n+1) (f:=sdF n f 0) (aQ.slG rfl (Nat.le_of_eq (Nat.zero_add _)) fun i hi=> ?_) (by omega) (kO hf (by omega)) (fun _ s0 hs0 hs01 _=> ?_) (fun h=>absurd h (by omega))
     · rw [show 0+i=i from Nat.zero_add i]
       exact iJ (by omega) hi rfl rfl
     conv=>whnf
     repeat (refine⟨⟨_,rfl⟩,?_⟩;conv=>whnf)
     have eBi:0+(IntKind.i64.wrap (IntKind.i64.wrap (2+((1:Nat):Int)) - 1)).toNat=3 - 1:=by decide
     refine zW (n:=s0) (P:=PK n f (0+(IntKind.i64.wrap (IntKind.i64.wrap (2+((1:Nat):Int)) - 1)).toNat)) rfl rfl (Nat.lt_trans hs01 (by decide)) tW (fun R oR hR=> ?_)
     rw [eBi]at hR
     have hRQ:R=Q:=by rw [hQK,KS_sym,hR,hs0];rfl
     subst hRQ
     conv=>whnf
     repeat (refine⟨⟨_,rfl⟩,?_⟩;conv=>whnf)
     refine lT (i:=isI R) (x:=xN R) (y:=yN R) rfl rfl (xN_w _) (yN_w _) ?_
     conv=>whnf
     repeat (refine⟨⟨_,rfl⟩,?_⟩;conv=>whnf)
     refine zY (k:=3) (i:=isI R) (x:=xN R) (y:=yN R) (s:=nB) (sl:= .nils) (co:= .nils) (ns:=0) (S:=fun _ _=>0) (nc:=0) (I:=fun _=>false) (X:=fun _=>0) (Y:=fun _=>0) (ag:=1) (c:=cc) (r:=pp) rfl bW.nils bW.nils (xN_w R) (yN_w R) (Nat.lt_trans hcN (by decide)) (Nat.lt_trans hpN (by decide)) (by decide) (fun j hj=>absurd hj (by omega)) (fun j hj=>absurd hj (by omega)) (fun ee hee=> ?_)
     rw [chk_dis (S:=fun _ _=>0) oR hRI hcN hpN (by decide)]at hee
     subst hee
     conv=>whnf
     repeat (refine⟨⟨_,rfl⟩,?_⟩;conv=>whnf)
     refine tR ?_
     conv=>whnf
     repeat (refine⟨⟨_,rfl⟩,?_⟩;conv=>whnf)
theorem tS (avs:List AV) (h:okVs [.sl 1 (.int .u8),.int .i64,.int .u8,.int .i64] avs):∃ avs',pJ avs avs'/\ACall Pg eH avs' [] (fun x _=>x= .bool true):=by
 obtain⟨v1,_,rfl,h1,v2,_,rfl,h2,v3,_,rfl,h3,v4,_,rfl,h4,rfl⟩:=h
 obtain⟨n,cap,f,r1,_,_,hf⟩:=ok_bytes h1
 obtain⟨x,rfl,_,_⟩:=ok_int h2
 obtain⟨c,rfl,hc⟩:=ok_int h3
 obtain⟨y,rfl,_,_⟩:=ok_int h4
 exact⟨_,.cons r1 (.cons (fU.refl _) (.cons (fU.refl _) (.cons (fU.refl _) .nil))),S_DealDisputes n cap f x c y hf hc⟩
end Go.Proofs.YtfolpdmbpbbimaaGreat
end

section
namespace Go.Proofs.YtfolpdmbpbbimaaGreat.dealDisputes
open Go.ChangeShapes Go.WideShapes Go.ChangeAt Go.RowKit Go.Wit
theorem own:ownKnob Tryz.prog.godebug=none:=by kernel_rfl
theorem laid:laidOutB Tryz.prog=true:=by kernel_rfl
set_option maxRecDepth 100000 in
theorem lifted (os:Os) (started:os.Started) (H:Type) (enc:TypeId × Value->H):
 ReturnsInHanded {} Tryz.checked os 9 .any (Rows.dealDisputesSpec.pre6 enc Tryz.prog Tryz.f9 Rows.dealDisputesRow.domain false) (Rows.dealDisputesSpec.post enc Tryz.prog Tryz.f9 false true false false):=by
 refine returnsInHanded_of_change_sized (C:=Tryz.checked) own started (by kernel_rfl) Tryz.func9
  (ChangeSpec.witness6 (enc:=enc) (C:=Tryz.checked) false ⟨#[],#[.slice none 0 0,.int .i64 0,.int .u8 0,.int .i64 0],[]⟩ 12 (by kernel_rfl) (by kernel_rfl) (by kernel_rfl) (by kernel_rfl)) ?_
 intro W base args ds gs before hval0 hW hcnd hsz0 _
 have hval:∀ (j:Nat) t v,Tryz.f9.params[j]? = some t->args[j]? = some v->Value.okWide Tryz.prog W .any base t v:=hval0
 have hW':=hW
 obtain⟨p,q,hA0,hV,rfl,hfz,hnd⟩:=hW
 have hA:DataW.TrodAll enc Tryz.prog W 0 (fun _=>true) true Tryz.f9.params.toList args.toList ds p:=hA0
 obtain⟨rfl,rfl⟩:=trodVars_none hV
 have l0:ds.length=4:=trod_len hA
 obtain⟨d1,ds1,rfl,l1⟩:=nV l0
 obtain⟨d2,ds2,rfl,l2⟩:=nV l1
 obtain⟨d3,ds3,rfl,l3⟩:=nV l2
 obtain⟨d4,ds4,rfl,l4⟩:=nV l3
 obtain rfl:=nil_of_len l4
 refine(law_open (tys:= [.sl 1 (.int .u8),.int .i64,.int .u8,.int .i64]) (by kernel_rfl) (fun j t v h1 h2=>hval j t v (by simpa using h1) (by simpa using h2)) hA tS).mono fun e W' ⟨he,bel⟩=> ?_
 subst he
 exact⟨_,rfl,_,_,_,[],_,[],hW',trodAll_mk1 (shut_bool Tryz.underlying4 _),shut_vals laid bel (by kernel_rfl) hA,rfl,bel.frame _,fun h=>by cases h⟩
theorem over:Rows.dealDisputesRow.holds Tryz.pinned (OpenSpec.ofChange Rows.dealDisputesSpec):=
 OpenClaim.holds_of_wide 9 Tryz.f9 rfl rfl rfl rfl rfl rfl rfl ⟨rfl,rfl,rfl,rfl,rfl⟩ rfl rfl rfl rfl rfl (by kernel_rfl) Tryz.func9 (by kernel_rfl)
  (of_decide_eq_true (by kernel_rfl)) (by unfold Func.isWrapper;first | (rw [if_pos (by decide +kernel)];kernel_rfl) | (rw [if_neg (by decide +kernel)];exact⟨rfl,rfl⟩))
  (fun os started H enc _=>lifted os started H enc)
theorem proved:Rows.DealDisputesSaid:=over
#print axioms proved
end Go.Proofs.YtfolpdmbpbbimaaGreat.dealDisputes
namespace Go.Proofs.YtfolpdmbpbbimaaGreat
theorem dealDisputes_holds:Rows.DealDisputesSaid:=dealDisputes.proved
end Go.Proofs.YtfolpdmbpbbimaaGreat
end

