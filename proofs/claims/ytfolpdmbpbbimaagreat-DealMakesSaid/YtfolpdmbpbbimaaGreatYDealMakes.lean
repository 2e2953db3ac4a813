/- Texts of a proof, one behind the other; the last of these: The law DealMakes answers true for all that it may be handed: its row; no condition. -/
import Derived.Test.YtfolpdmbpbbimaaGreatZ9
import Derived.Test.YtfolpdmbpbbimaaGreatRows
import Derived.WalkKit
import Derived.ProofKit
import Derived.OpenShut
import Derived.ShutString
import Derived.ChangeOld
import Derived.Below
import Derived.SizedLaws
set_option linter.unusedVariables false
set_option linter.unusedSimpArgs false
set_option maxRecDepth 100000
section
namespace Go.Proofs.YtfolpdmbpbbimaaGreat
open Go Go.Wit
theorem chk_sub {P:Pt Fp} {c r:Nat} {S:Nat->Nat->Int} {I:Nat->Bool} {X Y:Nat->Nat} (oP:On P) (hI:isI P=false) (hc:c<nN) (hr:r<nN):chkE 4 (isI P) (xN P) (yN P) nB 0 0 I X Y 0 c r=0:=by
 unfold chkE
 rw [if_pos (by decide),if_pos (by unfold empP;simp),if_neg (by decide),if_neg (by decide),if_neg (by decide),if_pos rfl]
 unfold subE
 rw [if_pos ⟨hI,P,oP,rfl⟩,if_pos ⟨hc,hr⟩]
theorem chk_reg {P:Pt Fp} {s:ByteArray} {I:Nat->Bool} {X Y:Nat->Nat} (oP:On P) (hI:isI P=false) (hs:qL s=true):chkE 1 (isI P) (xN P) (yN P) s 0 0 I X Y 0 0 0=0:=by
 unfold chkE
 rw [if_pos (by decide),if_pos (by unfold empP;simp),if_pos rfl,if_pos ⟨hI,P,oP,rfl⟩,if_pos hs]
theorem S_DealMakes (n cap:Nat) (f:Nat->Int) (t:Int) (s:ByteArray) (hf:∀ i,i<n->0<=f i/\f i<=255):
 ACall Pg fL [.vsl 1 n cap (aD f),.int .i64 t,.str s] [] (fun v _=>v= .bool true):=by
 refine nO ⟨rfl,?_⟩
 conv=>whnf
 repeat (refine⟨⟨_,rfl⟩,?_⟩;conv=>whnf)
 refine aA (fun hn=> ?_) (fun hn=> ?_)
 rotate_left
 · conv=>whnf
   repeat (refine⟨⟨_,rfl⟩,?_⟩;conv=>whnf)
 have hn:=lU hn
 conv=>whnf
 repeat (refine⟨⟨_,rfl⟩,?_⟩;conv=>whnf)
 refine aA (fun hs=> ?_) (fun hs=> ?_)
 rotate_left
 · conv=>whnf
   repeat (refine⟨⟨_,rfl⟩,?_⟩;conv=>whnf)
 have hs:=lU hs
 conv=>whnf
 repeat (refine⟨⟨_,rfl⟩,?_⟩;conv=>whnf)
 refine aA (fun ht=> ?_) (fun ht=> ?_)
 · conv=>whnf
   repeat (refine⟨⟨_,rfl⟩,?_⟩;conv=>whnf)
 have ht:=of_decide_eq_false ht
 have hn2:n<=100:=by omega
 have hs2:s.size<=1000000000:=by omega
 conv=>whnf
 repeat (refine⟨⟨_,rfl⟩,?_⟩;conv=>whnf)
 refine S_Twin (n:=n) (f:=f) aO.vsl (by omega) (fun c1=> ?_)
 conv=>whnf
 repeat (refine⟨⟨_,rfl⟩,?_⟩;conv=>whnf)
 refine S_Secret (n:=n) (f:=f) (aO.slG rfl (Nat.le_of_eq (Nat.zero_add _)) (fun j hj=>by rw [Nat.zero_add];rfl)) (by omega) hf (fun _ a ha ha1 ha0=> ?_) (fun h=>absurd h (by omega))
 conv=>whnf
 repeat (refine⟨⟨_,rfl⟩,?_⟩;conv=>whnf)
 by_cases ht0:t<0
 · refine S_Poly_arg (n:=n) (f:=f) (aO.slG rfl (Nat.le_of_eq (Nat.zero_add _)) (fun j hj=>by rw [Nat.zero_add];rfl)) (by omega) (.inl ht0) (fun cap2 g=> ?_)
   conv=>whnf
   repeat (refine⟨⟨_,rfl⟩,?_⟩;conv=>whnf)
   refine qG (n:=n) (f:=f) (s:=s) (aO.slG rfl (Nat.le_of_eq (Nat.zero_add _)) (fun j hj=>by rw [Nat.zero_add];rfl)) (by omega) hs2 hf (fun _ hl R u hu oR hR=> ?_) (fun _ hl=> ?_) (fun h=>absurd h (by omega))
   · conv=>whnf
     repeat (refine⟨⟨_,rfl⟩,?_⟩;conv=>whnf)
     refine zI (n:=n) (f:=f) (aO.slG rfl (Nat.le_of_eq (Nat.zero_add _)) (fun j hj=>by rw [Nat.zero_add];rfl)) (by omega) hf (fun _ A ac ar oA hA hac har hc1 hr1=> ?_) (fun h=>absurd h (by omega))
     conv=>whnf
     repeat (refine⟨⟨_,rfl⟩,?_⟩;conv=>whnf)
     refine S_Bytes (n1:=n) (n2:=n) (f:=f) (g:=f) (aO.slG rfl (Nat.le_of_eq (Nat.zero_add _)) (fun j hj=>by rw [Nat.zero_add];rfl)) aO.vsl (by omega) ?_
     rw [show rW n f n f=true by simp [rW]]
     conv=>whnf
     repeat (refine⟨⟨_,rfl⟩,?_⟩;conv=>whnf)
     refine pO (n:=n) (f:=f) aO.vsl (by omega) hf (fun a' ha' _ _=> ?_)
     obtain rfl:a=a':=ha.trans ha'.symm
     conv=>whnf
     repeat (refine⟨⟨_,rfl⟩,?_⟩;conv=>whnf)
     refine bP (by simp) ?_
     conv=>whnf
     repeat (refine⟨⟨_,rfl⟩,?_⟩;conv=>whnf)
     refine sS (n:=n) (f:=f) aO.vsl (by omega) hf (fun A' ac' ar' _ hA' hac' har' _ _=> ?_)
     obtain rfl:A=A':=hA.trans hA'.symm
     obtain rfl:ac=ac':=hac.trans hac'.symm
     obtain rfl:ar=ar':=har.trans har'.symm
     conv=>whnf
     repeat (refine⟨⟨_,rfl⟩,?_⟩;conv=>whnf)
     refine pN (k:=4) (i:=isI A) (x:=xN A) (y:=yN A) (s:=nB) (sl:= .nils) (co:= .nils) (sl':= .nils) (co':= .nils) (ns:=0) (S:=fun _ _=>0) (nc:=0) (I:=fun _=>false) (X:=fun _=>0) (Y:=fun _=>0) (ag:=0) (c:=ac) (r:=ar) rfl rfl aU.nils aU.nils aU.nils aU.nils (xN_w _) (yN_w _) (by decide) (by decide) (fun j hj=>absurd hj (by omega)) (fun j hj=>absurd hj (by omega)) ?_
     conv=>whnf
     repeat (refine⟨⟨_,rfl⟩,?_⟩;conv=>whnf)
     refine bP (decide_eq_true ht0) ?_
     conv=>whnf
     repeat (refine⟨⟨_,rfl⟩,?_⟩;conv=>whnf)
     refine S_Label hs2 ?_
     rw [hl]
     conv=>whnf
     repeat (refine⟨⟨_,rfl⟩,?_⟩;conv=>whnf)
     refine S_RRegister (n:=n) (f:=f) (s:=s) aO.vsl (by omega) hf (fun R' u' hu' _ hR'=> ?_)
     obtain rfl:R=R':=hR.trans hR'.symm
     obtain rfl:u=u':=hu.trans hu'.symm
     conv=>whnf
     repeat (refine⟨⟨_,rfl⟩,?_⟩;conv=>whnf)
     refine pN (k:=1) (i:=isI R) (x:=xN R) (y:=yN R) (s:=u) (sl:= .nils) (co:= .nils) (sl':= .nils) (co':= .nils) (ns:=0) (S:=fun _ _=>0) (nc:=0) (I:=fun _=>false) (X:=fun _=>0) (Y:=fun _=>0) (ag:=0) (c:=0) (r:=0) rfl rfl aU.nils aU.nils aU.nils aU.nils (xN_w _) (yN_w _) (by decide) (by decide) (fun j hj=>absurd hj (by omega)) (fun j hj=>absurd hj (by omega)) ?_
     conv=>whnf
     repeat (refine⟨⟨_,rfl⟩,?_⟩;conv=>whnf)
     have hRI:isI R=false:=by rw [hR];exact base_fin secN_ne secN_lt
     have hAI:isI A=false:=by rw [hA];exact nmul_fin h_on rfl coN_ne coN_lt
     refine zH (k:=1) (i:=isI R) (x:=xN R) (y:=yN R) (s:=u) (sl:= .nils) (co:= .nils) (ns:=0) (S:=fun _ _=>0) (nc:=0) (I:=fun _=>false) (X:=fun _=>0) (Y:=fun _=>0) (ag:=0) (c:=0) (r:=0) rfl aU.nils aU.nils (xN_w R) (yN_w R) (by decide) (by decide) (by rw [hu];omega) (fun j hj=>absurd hj (by omega)) (fun j hj=>absurd hj (by omega)) (fun e he=> ?_)
     rw [chk_reg oR hRI (by rw [hu];exact hl)]at he
     subst he
     conv=>whnf
     repeat (refine⟨⟨_,rfl⟩,?_⟩;conv=>whnf)
     refine zH (k:=4) (i:=isI A) (x:=xN A) (y:=yN A) (s:=nB) (sl:= .nils) (co:= .nils) (ns:=0) (S:=fun _ _=>0) (nc:=0) (I:=fun _=>false) (X:=fun _=>0) (Y:=fun _=>0) (ag:=0) (c:=ac) (r:=ar) rfl aU.nils aU.nils (xN_w A) (yN_w A) (Nat.lt_trans hc1 (by decide)) (Nat.lt_trans hr1 (by decide)) (by decide) (fun j hj=>absurd hj (by omega)) (fun j hj=>absurd hj (by omega)) (fun e he=> ?_)
     rw [chk_sub (S:=fun _ _=>0) oA hAI hc1 hr1]at he
     subst he
     conv=>whnf
     repeat (refine⟨⟨_,rfl⟩,?_⟩;conv=>whnf)
     refine sQ ?_
     conv=>whnf
     repeat (refine⟨⟨_,rfl⟩,?_⟩;conv=>whnf)
   · conv=>whnf
     repeat (refine⟨⟨_,rfl⟩,?_⟩;conv=>whnf)
     refine zI (n:=n) (f:=f) (aO.slG rfl (Nat.le_of_eq (Nat.zero_add _)) (fun j hj=>by rw [Nat.zero_add];rfl)) (by omega) hf (fun _ A ac ar oA hA hac har hc1 hr1=> ?_) (fun h=>absurd h (by omega))
     conv=>whnf
     repeat (refine⟨⟨_,rfl⟩,?_⟩;conv=>whnf)
     refine S_Bytes (n1:=n) (n2:=n) (f:=f) (g:=f) (aO.slG rfl (Nat.le_of_eq (Nat.zero_add _)) (fun j hj=>by rw [Nat.zero_add];rfl)) aO.vsl (by omega) ?_
     rw [show rW n f n f=true by simp [rW]]
     conv=>whnf
     repeat (refine⟨⟨_,rfl⟩,?_⟩;conv=>whnf)
     refine pO (n:=n) (f:=f) aO.vsl (by omega) hf (fun a' ha' _ _=> ?_)
     obtain rfl:a=a':=ha.trans ha'.symm
     conv=>whnf
     repeat (refine⟨⟨_,rfl⟩,?_⟩;conv=>whnf)
     refine bP (by simp) ?_
     conv=>whnf
     repeat (refine⟨⟨_,rfl⟩,?_⟩;conv=>whnf)
     refine sS (n:=n) (f:=f) aO.vsl (by omega) hf (fun A' ac' ar' _ hA' hac' har' _ _=> ?_)
     obtain rfl:A=A':=hA.trans hA'.symm
     obtain rfl:ac=ac':=hac.trans hac'.symm
     obtain rfl:ar=ar':=har.trans har'.symm
     conv=>whnf
     repeat (refine⟨⟨_,rfl⟩,?_⟩;conv=>whnf)
     refine pN (k:=4) (i:=isI A) (x:=xN A) (y:=yN A) (s:=nB) (sl:= .nils) (co:= .nils) (sl':= .nils) (co':= .nils) (ns:=0) (S:=fun _ _=>0) (nc:=0) (I:=fun _=>false) (X:=fun _=>0) (Y:=fun _=>0) (ag:=0) (c:=ac) (r:=ar) rfl rfl aU.nils aU.nils aU.nils aU.nils (xN_w _) (yN_w _) (by decide) (by decide) (fun j hj=>absurd hj (by omega)) (fun j hj=>absurd hj (by omega)) ?_
     conv=>whnf
     repeat (refine⟨⟨_,rfl⟩,?_⟩;conv=>whnf)
     refine bP (decide_eq_true ht0) ?_
     conv=>whnf
     repeat (refine⟨⟨_,rfl⟩,?_⟩;conv=>whnf)
     refine S_Label hs2 ?_
     rw [hl]
     conv=>whnf
     repeat (refine⟨⟨_,rfl⟩,?_⟩;conv=>whnf)
     refine pN (k:=0) (i:=false) (x:=0) (y:=0) (s:=nB) (sl:= .nils) (co:= .nils) (sl':= .nils) (co':= .nils) (ns:=0) (S:=fun _ _=>0) (nc:=0) (I:=fun _=>false) (X:=fun _=>0) (Y:=fun _=>0) (ag:=0) (c:=0) (r:=0) rfl rfl aU.nils aU.nils aU.nils aU.nils (by decide) (by decide) (by decide) (by decide) (fun j hj=>absurd hj (by omega)) (fun j hj=>absurd hj (by omega)) ?_
     conv=>whnf
     repeat (refine⟨⟨_,rfl⟩,?_⟩;conv=>whnf)
     refine sQ ?_
     conv=>whnf
     repeat (refine⟨⟨_,rfl⟩,?_⟩;conv=>whnf)
 · obtain⟨t,rfl⟩ :∃ q:Nat,t=q:=⟨t.toNat,by omega⟩
   refine S_Poly (n:=n) (t:=t) (f:=f) (aO.slG rfl (Nat.le_of_eq (Nat.zero_add _)) (fun j hj=>by rw [Nat.zero_add];rfl)) (by omega) (by omega) hf (fun c cc hc hcN _=> ?_)
   conv=>whnf
   repeat (refine⟨⟨_,rfl⟩,?_⟩;conv=>whnf)
   refine qG (n:=n) (f:=f) (s:=s) (aO.slG rfl (Nat.le_of_eq (Nat.zero_add _)) (fun j hj=>by rw [Nat.zero_add];rfl)) (by omega) hs2 hf (fun _ hl R u hu oR hR=> ?_) (fun _ hl=> ?_) (fun h=>absurd h (by omega))
   · conv=>whnf
     repeat (refine⟨⟨_,rfl⟩,?_⟩;conv=>whnf)
     refine zI (n:=n) (f:=f) (aO.slG rfl (Nat.le_of_eq (Nat.zero_add _)) (fun j hj=>by rw [Nat.zero_add];rfl)) (by omega) hf (fun _ A ac ar oA hA hac har hc1 hr1=> ?_) (fun h=>absurd h (by omega))
     conv=>whnf
     repeat (refine⟨⟨_,rfl⟩,?_⟩;conv=>whnf)
     refine S_Bytes (n1:=n) (n2:=n) (f:=f) (g:=f) (aO.slG rfl (Nat.le_of_eq (Nat.zero_add _)) (fun j hj=>by rw [Nat.zero_add];rfl)) aO.vsl (by omega) ?_
     rw [show rW n f n f=true by simp [rW]]
     conv=>whnf
     repeat (refine⟨⟨_,rfl⟩,?_⟩;conv=>whnf)
     refine pO (n:=n) (f:=f) aO.vsl (by omega) hf (fun a' ha' _ _=> ?_)
     obtain rfl:a=a':=ha.trans ha'.symm
     conv=>whnf
     repeat (refine⟨⟨_,rfl⟩,?_⟩;conv=>whnf)
     refine bP (by simp) ?_
     conv=>whnf
     repeat (refine⟨⟨_,rfl⟩,?_⟩;conv=>whnf)
     refine sS (n:=n) (f:=f) aO.vsl (by omega) hf (fun A' ac' ar' _ hA' hac' har' _ _=> ?_)
     obtain rfl:A=A':=hA.trans hA'.symm
     obtain rfl:ac=ac':=hac.trans hac'.symm
     obtain rfl:ar=ar':=har.trans har'.symm
     conv=>whnf
     repeat (refine⟨⟨_,rfl⟩,?_⟩;conv=>whnf)
     refine pN (k:=4) (i:=isI A) (x:=xN A) (y:=yN A) (s:=nB) (sl:= .nils) (co:= .nils) (sl':= .nils) (co':= .nils) (ns:=0) (S:=fun _ _=>0) (nc:=0) (I:=fun _=>false) (X:=fun _=>0) (Y:=fun _=>0) (ag:=0) (c:=ac) (r:=ar) rfl rfl aU.nils aU.nils aU.nils aU.nils (xN_w _) (yN_w _) (by decide) (by decide) (fun j hj=>absurd hj (by omega)) (fun j hj=>absurd hj (by omega)) ?_
     conv=>whnf
     repeat (refine⟨⟨_,rfl⟩,?_⟩;conv=>whnf)
     refine S_RPoly (n:=n) (t:=t) (f:=f) aO.vsl (by omega) (by omega) hf (fun c' cc' hc' _ _=> ?_)
     obtain rfl:c=c':=hc.trans hc'.symm
     conv=>whnf
     repeat (refine⟨⟨_,rfl⟩,?_⟩;conv=>whnf)
     refine S_kNums (n:=t+1) (c:=c) (aU.sl rfl (by omega) (fun i j _ _=>⟨by rw [Nat.zero_add],cW⟩)) (aU.sl rfl (by omega) (fun i j _ _=>⟨by rw [Nat.zero_add],cW⟩)) (fun i _=>Nat.lt_trans (hcN i) (by decide)) (by omega) ?_
     conv=>whnf
     repeat (refine⟨⟨_,rfl⟩,?_⟩;conv=>whnf)
     refine S_Label hs2 ?_
     rw [hl]
     conv=>whnf
     repeat (refine⟨⟨_,rfl⟩,?_⟩;conv=>whnf)
     refine S_RRegister (n:=n) (f:=f) (s:=s) aO.vsl (by omega) hf (fun R' u' hu' _ hR'=> ?_)
     obtain rfl:R=R':=hR.trans hR'.symm
     obtain rfl:u=u':=hu.trans hu'.symm
     conv=>whnf
     repeat (refine⟨⟨_,rfl⟩,?_⟩;conv=>whnf)
     refine pN (k:=1) (i:=isI R) (x:=xN R) (y:=yN R) (s:=u) (sl:= .nils) (co:= .nils) (sl':= .nils) (co':= .nils) (ns:=0) (S:=fun _ _=>0) (nc:=0) (I:=fun _=>false) (X:=fun _=>0) (Y:=fun _=>0) (ag:=0) (c:=0) (r:=0) rfl rfl aU.nils aU.nils aU.nils aU.nils (xN_w _) (yN_w _) (by decide) (by decide) (fun j hj=>absurd hj (by omega)) (fun j hj=>absurd hj (by omega)) ?_
     conv=>whnf
     repeat (refine⟨⟨_,rfl⟩,?_⟩;conv=>whnf)
     have hRI:isI R=false:=by rw [hR];exact base_fin secN_ne secN_lt
     have hAI:isI A=false:=by rw [hA];exact nmul_fin h_on rfl coN_ne coN_lt
     refine zH (k:=1) (i:=isI R) (x:=xN R) (y:=yN R) (s:=u) (sl:= .nils) (co:= .nils) (ns:=0) (S:=fun _ _=>0) (nc:=0) (I:=fun _=>false) (X:=fun _=>0) (Y:=fun _=>0) (ag:=0) (c:=0) (r:=0) rfl aU.nils aU.nils (xN_w R) (yN_w R) (by decide) (by decide) (by rw [hu];omega) (fun j hj=>absurd hj (by omega)) (fun j hj=>absurd hj (by omega)) (fun e he=> ?_)
     rw [chk_reg oR hRI (by rw [hu];exact hl)]at he
     subst he
     conv=>whnf
     repeat (refine⟨⟨_,rfl⟩,?_⟩;conv=>whnf)
     refine zH (k:=4) (i:=isI A) (x:=xN A) (y:=yN A) (s:=nB) (sl:= .nils) (co:= .nils) (ns:=0) (S:=fun _ _=>0) (nc:=0) (I:=fun _=>false) (X:=fun _=>0) (Y:=fun _=>0) (ag:=0) (c:=ac) (r:=ar) rfl aU.nils aU.nils (xN_w A) (yN_w A) (Nat.lt_trans hc1 (by decide)) (Nat.lt_trans hr1 (by decide)) (by decide) (fun j hj=>absurd hj (by omega)) (fun j hj=>absurd hj (by omega)) (fun e he=> ?_)
     rw [chk_sub (S:=fun _ _=>0) oA hAI hc1 hr1]at he
     subst he
     conv=>whnf
     repeat (refine⟨⟨_,rfl⟩,?_⟩;conv=>whnf)
     refine sQ ?_
     conv=>whnf
     repeat (refine⟨⟨_,rfl⟩,?_⟩;conv=>whnf)
   · conv=>whnf
     repeat (refine⟨⟨_,rfl⟩,?_⟩;conv=>whnf)
     refine zI (n:=n) (f:=f) (aO.slG rfl (Nat.le_of_eq (Nat.zero_add _)) (fun j hj=>by rw [Nat.zero_add];rfl)) (by omega) hf (fun _ A ac ar oA hA hac har hc1 hr1=> ?_) (fun h=>absurd h (by omega))
     conv=>whnf
     repeat (refine⟨⟨_,rfl⟩,?_⟩;conv=>whnf)
     refine S_Bytes (n1:=n) (n2:=n) (f:=f) (g:=f) (aO.slG rfl (Nat.le_of_eq (Nat.zero_add _)) (fun j hj=>by rw [Nat.zero_add];rfl)) aO.vsl (by omega) ?_
     rw [show rW n f n f=true by simp [rW]]
     conv=>whnf
     repeat (refine⟨⟨_,rfl⟩,?_⟩;conv=>whnf)
     refine pO (n:=n) (f:=f) aO.vsl (by omega) hf (fun a' ha' _ _=> ?_)
     obtain rfl:a=a':=ha.trans ha'.symm
     conv=>whnf
     repeat (refine⟨⟨_,rfl⟩,?_⟩;conv=>whnf)
     refine bP (by simp) ?_
     conv=>whnf
     repeat (refine⟨⟨_,rfl⟩,?_⟩;conv=>whnf)
     refine sS (n:=n) (f:=f) aO.vsl (by omega) hf (fun A' ac' ar' _ hA' hac' har' _ _=> ?_)
     obtain rfl:A=A':=hA.trans hA'.symm
     obtain rfl:ac=ac':=hac.trans hac'.symm
     obtain rfl:ar=ar':=har.trans har'.symm
     conv=>whnf
     repeat (refine⟨⟨_,rfl⟩,?_⟩;conv=>whnf)
     refine pN (k:=4) (i:=isI A) (x:=xN A) (y:=yN A) (s:=nB) (sl:= .nils) (co:= .nils) (sl':= .nils) (co':= .nils) (ns:=0) (S:=fun _ _=>0) (nc:=0) (I:=fun _=>false) (X:=fun _=>0) (Y:=fun _=>0) (ag:=0) (c:=ac) (r:=ar) rfl rfl aU.nils aU.nils aU.nils aU.nils (xN_w _) (yN_w _) (by decide) (by decide) (fun j hj=>absurd hj (by omega)) (fun j hj=>absurd hj (by omega)) ?_
     conv=>whnf
     repeat (refine⟨⟨_,rfl⟩,?_⟩;conv=>whnf)
     refine S_RPoly (n:=n) (t:=t) (f:=f) aO.vsl (by omega) (by omega) hf (fun c' cc' hc' _ _=> ?_)
     obtain rfl:c=c':=hc.trans hc'.symm
     conv=>whnf
     repeat (refine⟨⟨_,rfl⟩,?_⟩;conv=>whnf)
     refine S_kNums (n:=t+1) (c:=c) (aU.sl rfl (by omega) (fun i j _ _=>⟨by rw [Nat.zero_add],cW⟩)) (aU.sl rfl (by omega) (fun i j _ _=>⟨by rw [Nat.zero_add],cW⟩)) (fun i _=>Nat.lt_trans (hcN i) (by decide)) (by omega) ?_
     conv=>whnf
     repeat (refine⟨⟨_,rfl⟩,?_⟩;conv=>whnf)
     refine S_Label hs2 ?_
     rw [hl]
     conv=>whnf
     repeat (refine⟨⟨_,rfl⟩,?_⟩;conv=>whnf)
     refine pN (k:=0) (i:=false) (x:=0) (y:=0) (s:=nB) (sl:= .nils) (co:= .nils) (sl':= .nils) (co':= .nils) (ns:=0) (S:=fun _ _=>0) (nc:=0) (I:=fun _=>false) (X:=fun _=>0) (Y:=fun _=>0) (ag:=0) (c:=0) (r:=0) rfl rfl aU.nils aU.nils aU.nils aU.nils (by decide) (by decide) (by decide) (by decide) (fun j hj=>absurd hj (by omega)) (fun j hj=>absurd hj (by omega)) ?_
     conv=>whnf
     repeat (refine⟨⟨_,rfl⟩,?_⟩;conv=>whnf)
     refine sQ ?_
     conv=>whnf
     repeat (refine⟨⟨_,rfl⟩,?_⟩;conv=>whnf)
theorem S_row_DealMakes (avs:List AV) (h:okVs [.sl 1 (.int .u8),.int .i64,.str] avs):∃ avs',nH avs avs'/\ACall Pg fL avs' [] (fun x _=>x= .bool true):=by
 obtain⟨v1,_,rfl,h1,v2,_,rfl,h2,v3,_,rfl,h3,rfl⟩:=h
 obtain⟨n,cap,f,r1,_,_,hf⟩:=ok_bytes h1
 obtain⟨t,rfl,_,_⟩:=ok_int h2
 obtain⟨s,rfl,_⟩:=ok_str h3
 exact⟨_,.cons r1 (.cons (fW.refl _) (.cons (fW.refl _) .nil)),S_DealMakes n cap f t s hf⟩
end Go.Proofs.YtfolpdmbpbbimaaGreat
end

section
namespace Go.Proofs.YtfolpdmbpbbimaaGreat.dealMakes
open Go.ChangeShapes Go.WideShapes Go.ChangeAt Go.RowKit Go.Wit
theorem own:ownKnob Tryz.prog.godebug=none:=by kernel_rfl
theorem laid:laidOutB Tryz.prog=true:=by kernel_rfl
set_option maxRecDepth 100000 in
theorem lifted (os:Os) (started:os.Started) (H:Type) (enc:TypeId × Value->H):
 ReturnsInHanded {} Tryz.checked os 8 .any (Rows.dealMakesSpec.pre6 enc Tryz.prog Tryz.f8 Rows.dealMakesRow.domain false) (Rows.dealMakesSpec.post enc Tryz.prog Tryz.f8 false true false false):=by
 refine returnsInHanded_of_change_sized (C:=Tryz.checked) own started (by kernel_rfl) Tryz.func8
  (ChangeSpec.witness6 (enc:=enc) (C:=Tryz.checked) false ⟨#[],#[.slice none 0 0,.int .i64 0,.string ⟨#[]⟩],[]⟩ 12 (by kernel_rfl) (by kernel_rfl) (by kernel_rfl) (by kernel_rfl)) ?_
 intro W base args ds gs before hval0 hW hcnd hsz0 _
 have hval:∀ (j:Nat) t v,Tryz.f8.params[j]? = some t->args[j]? = some v->Value.okWide Tryz.prog W .any base t v:=hval0
 have hW':=hW
 obtain⟨p,q,hA0,hV,rfl,hfz,hnd⟩:=hW
 have hA:DataW.TrodAll enc Tryz.prog W 0 (fun _=>true) true Tryz.f8.params.toList args.toList ds p:=hA0
 obtain⟨rfl,rfl⟩:=trodVars_none hV
 have l0:ds.length=3:=trod_len hA
 obtain⟨d1,ds1,rfl,l1⟩:=rB l0
 obtain⟨d2,ds2,rfl,l2⟩:=rB l1
 obtain⟨d3,ds3,rfl,l3⟩:=rB l2
 obtain rfl:=nil_of_len l3
 refine(law_open (tys:= [.sl 1 (.int .u8),.int .i64,.str]) (by kernel_rfl) (fun j t v h1 h2=>hval j t v (by simpa using h1) (by simpa using h2)) hA S_row_DealMakes).mono fun e W' ⟨he,bel⟩=> ?_
 subst he
 exact⟨_,rfl,_,_,_,[],_,[],hW',trodAll_mk1 (shut_bool Tryz.underlying4 _),shut_vals laid bel (by kernel_rfl) hA,rfl,bel.frame _,fun h=>by cases h⟩
theorem over:Rows.dealMakesRow.holds Tryz.pinned (OpenSpec.ofChange Rows.dealMakesSpec):=
 OpenClaim.holds_of_wide 8 Tryz.f8 rfl rfl rfl rfl rfl rfl rfl ⟨rfl,rfl,rfl,rfl,rfl⟩ rfl rfl rfl rfl rfl (by kernel_rfl) Tryz.func8 (by kernel_rfl)
  (of_decide_eq_true (by kernel_rfl)) (by unfold Func.isWrapper;first | (rw [if_pos (by decide +kernel)];kernel_rfl) | (rw [if_neg (by decide +kernel)];exact⟨rfl,rfl⟩))
  (fun os started H enc _=>lifted os started H enc)
theorem proved:Rows.DealMakesSaid:=over
#print axioms proved
end Go.Proofs.YtfolpdmbpbbimaaGreat.dealMakes
namespace Go.Proofs.YtfolpdmbpbbimaaGreat
theorem dealMakes_holds:Rows.DealMakesSaid:=dealMakes.proved
end Go.Proofs.YtfolpdmbpbbimaaGreat
end

