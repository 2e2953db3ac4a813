/- Texts of a proof, one behind the other; the last of these: Whether a share fits, and what a dispute tells; no condition. -/
import Derived.Test.YtfolpdmbpbbimaaGreatZ8
set_option linter.unusedVariables false
set_option linter.unusedSimpArgs false
set_option maxRecDepth 100000
section
namespace Go.Proofs.YtfolpdmbpbbimaaGreat
open Go Go.Wit
def actL (k:Int) (i:Bool) (x y:Nat) (s:ByteArray) (sl co:AV) (ag:Int) (c r:Nat):List AV:= [.int .i64 k,.bool i,.int .u64 (lim x 0),.int .u64 (lim x 1),.int .u64 (lim x 2),.int .u64 (lim x 3),.int .u64 (lim y 0),.int .u64 (lim y 1),.int .u64 (lim y 2),.int .u64 (lim y 3),.str s,sl,co,.int .i64 ag,
 .int .u64 (lim c 0),.int .u64 (lim c 1),.int .u64 (lim c 2),.int .u64 (lim c 3),.int .u64 (lim r 0),.int .u64 (lim r 1),.int .u64 (lim r 2),.int .u64 (lim r 3)]
def actA (k:Int) (i:Bool) (x y:Nat) (s:ByteArray) (sl co:AV) (ag:Int) (c r:Nat):AV:= .agg (actL k i x y s sl co ag c r)
abbrev nB:ByteArray:=⟨#[]⟩
abbrev act0:AV:=actA 0 false 0 0 nB .nils .nils 0 0 0
theorem flat_actA {nv:Bool} {k:Int} {i:Bool} {x y:Nat} {s:ByteArray} {sl co:AV} {ag:Int} {c r:Nat} (h1:Flat nv sl) (h2:Flat nv co):Flat nv (actA k i x y s sl co ag c r):=by
 unfold actA actL
 refine .agg _ ?_
 repeat (first | exact .nil | refine .cons _ _ (.int _ _) ?_ | refine .cons _ _ (.bool _) ?_ | refine .cons _ _ (.str _) ?_ | refine .cons _ _ h1 ?_ | refine .cons _ _ h2 ?_)
theorem pA {k:Int} {i:Bool} {x y:Nat} {s:ByteArray} {ag:Int} {c r:Nat} {e:Int}:Flat true (.tup [actA k i x y s .nils .nils ag c r,.int .i64 e]):= .tup _ (.cons _ _ (flat_actA .nils .nils) (.cons _ _ (.int _ _) .nil))
theorem S_Register0 (n cap:Nat) (f:Nat->Int) (s:ByteArray) (hn:n<=1000000) (hs:s.size<=1000000000) (hf:∀ i,i<n->0<=f i/\f i<=255):ACall Pg iG [.vsl 1 n cap (aB f),.str s] []
    (fun v _=>v=(if n<=16384 then (if labOK s then .tup [actA 1 (isI (nmul (secN n f) gG)) (xN (nmul (secN n f) gG)) (yN (nmul (secN n f) gG)) s .nils .nils 0 0 0,.int .i64 0]else .tup [act0,.int .i64 8])else .tup [act0,.int .i64 4])/\Flat true v):=by
  refine B_deal_Register ⟨rfl,?_⟩
  conv=>whnf
  repeat (refine⟨⟨_,rfl⟩,?_⟩;conv=>whnf)
  refine aCd (n:=n) (f:=f) aM.vsl hn hf (fun hn2 a ha ha1 ha0=> ?_) (fun hn2=> ?_)
  · rw [if_pos hn2]
    conv=>whnf
    repeat (refine⟨⟨_,rfl⟩,?_⟩;conv=>whnf)
    refine S_label hs ?_
    cases hl:labOK s with
    | true =>
      rw [if_pos rfl,if_pos rfl]
      conv=>whnf
      repeat (refine⟨⟨_,rfl⟩,?_⟩;conv=>whnf)
      refine T_Base (n:=a) (Nat.lt_trans ha1 (by decide)) (fun P oP hP=> ?_)
      rw [<- ha,<- hP]
      conv=>whnf
      repeat (refine⟨⟨_,rfl⟩,?_⟩;conv=>whnf)
      refine⟨rfl,?_⟩
      show Flat true (.tup [actA 1 (isI P) (xN P) (yN P) s .nils .nils 0 0 0,.int .i64 0])
      exact pA
    | false =>
      rw [if_neg (by decide),if_neg (by decide)]
      conv=>whnf
      repeat (refine⟨⟨_,rfl⟩,?_⟩;conv=>whnf)
      refine⟨rfl,?_⟩
      show Flat true (.tup [act0,.int .i64 8])
      exact pA
  · rw [if_neg (by omega)]
    conv=>whnf
    repeat (refine⟨⟨_,rfl⟩,?_⟩;conv=>whnf)
    refine⟨rfl,?_⟩
    show Flat true (.tup [act0,.int .i64 4])
    exact pA
theorem S_Register {m:Mem} {x:AV} {K:AV->Mem->Prop} {n:Nat} {f:Nat->Int} {s:ByteArray} (hx:aM m x n f) (hn:n<=1000000) (hs:s.size<=1000000000) (hf:∀ i,i<n->0<=f i/\f i<=255)
 (h1:n<=16384->labOK s=true->∀ P t,t=s->On P->P=nmul (secN n f) gG->K (.tup [actA 1 (isI P) (xN P) (yN P) t .nils .nils 0 0 0,.int .i64 0]) m)
 (h2:n<=16384->labOK s=false->K (.tup [act0,.int .i64 8]) m) (h3:16384<n->K (.tup [act0,.int .i64 4]) m):ACall Pg iG [x,.str s] m K:=by
 obtain⟨cap,hl⟩:=hx
 refine aC (S_Register0 n cap f s hn hs hf) (.cons _ _ _ _ hl (.cons _ _ _ _ (aI (.str _)) .nil)) ?_
 rintro v rfl
 by_cases h:n<=16384
 · rw [if_pos h]
   by_cases hl:labOK s=true
   · rw [if_pos hl];exact h1 h hl _ _ rfl (on_G.nmul crvP _) rfl
   · rw [if_neg hl];exact h2 h (by simpa using hl)
 · rw [if_neg h];exact h3 (by omega)
theorem isI_inf {P:Pt Fp} (h:isI P=true):P= .inf:=by
 cases P with
 | inf=>rfl
 | aff x y=>cases h
theorem base_fin {a:Nat} (h0:a ≠ 0) (h1:a<nN):isI (nmul a gG)=false:=by
  cases h:isI (nmul a gG)with
  | false=>rfl
  | true =>
    have:=nmul_G_inf (isI_inf h)
    have:=Nat.le_of_dvd (by omega) this
    omega
theorem lab_x:labOK ⟨#[120]⟩=true:=by decide +kernel
theorem lab_sx:labOK ⟨#[32,120]⟩=false:=by decide +kernel
theorem pE {m:Mem} {K:AV->Mem->Prop} (h:K (.bool true) m):ACall Pg hZ [] m K:=by
 have h0:ACall Pg hZ [] [] (fun v _=>v= .bool true/\Flat true v):=by
  refine vU ⟨rfl,?_⟩
  conv=>whnf
  repeat (refine⟨⟨_,rfl⟩,?_⟩;conv=>whnf)
  refine S_Register (n:=1) (f:=fun _=>1) (s:=⟨#[32,120]⟩) (aM.one rfl rfl) (by decide) (by decide) (fun _ _=>by decide) (fun _ h=>absurd h (by rw [lab_sx];decide)) (fun _ _=> ?_) (fun h=>absurd h (by decide))
  conv=>whnf
  repeat (refine⟨⟨_,rfl⟩,?_⟩;conv=>whnf)
  refine S_Register (n:=1) (f:=fun _=>1) (s:=⟨#[120]⟩) (aM.one rfl rfl) (by decide) (by decide) (fun _ _=>by decide) (fun _ _ P t ht oP hP=> ?_) (fun _ h=>absurd h (by rw [lab_x];decide)) (fun h=>absurd h (by decide))
  have hI:isI P=false:=by rw [hP];exact base_fin secN_ne secN_lt
  rw [hI]
  clear hP hI
  conv=>whnf
  repeat (refine⟨⟨_,rfl⟩,?_⟩;conv=>whnf)
  refine aS (by rw [ht];decide +kernel) ?_
  conv=>whnf
  repeat (refine⟨⟨_,rfl⟩,?_⟩;conv=>whnf)
  exact⟨rfl,.bool _⟩
 refine aC h0 .nil ?_
 rintro v rfl
 exact h
end Go.Proofs.YtfolpdmbpbbimaaGreat
end

section
namespace Go.Proofs.YtfolpdmbpbbimaaGreat
open Go Go.Wit
theorem eqX_refl9 {a:Nat}:eqX a a=true:=by simp [eqX]
theorem S_kProof0 (c r:Nat):ACall Pg iO [prA c r,prA c r] [] (fun v _=>v= .bool true/\Flat true v):=by
 refine yA ⟨rfl,?_⟩
 conv=>whnf
 repeat (refine⟨⟨_,rfl⟩,?_⟩;conv=>whnf)
 refine aS (by show (eqX c c == true)=true;rw [eqX_refl9];rfl) ?_
 conv=>whnf
 repeat (refine⟨⟨_,rfl⟩,?_⟩;conv=>whnf)
 have e:eqX r r=true:=eqX_refl9
 refine⟨?_,.bool _⟩
 show AV.bool (eqX r r)=_
 rw [e]
theorem S_kProof {m:Mem} {K:AV->Mem->Prop} {x y:AV} {c r:Nat} (hx:x=prA c r) (hy:y=prA c r) (h:K (.bool true) m):ACall Pg iO [x,y] m K:=by
 subst hx hy
 refine aC (S_kProof0 c r) (.cons _ _ _ _ (aI aBw) (.cons _ _ _ _ (aI aBw) .nil)) ?_
 rintro v rfl
 exact h
end Go.Proofs.YtfolpdmbpbbimaaGreat
end

section
namespace Go.Proofs.YtfolpdmbpbbimaaGreat
open Go Go.Wit
theorem flat_ii {a b:Int}:Flat true (.tup [.int .i64 a,.int .i64 b]):= .tup _ (.cons _ _ (.int _ _) (.cons _ _ (.int _ _) .nil))
theorem mX {p:Prop} [Decidable p] (h:(decide p == false)=true):¬ p:=by simpa using h
theorem nL {p:Prop} [Decidable p] (h:(decide p == false)=false):p:=by simpa using h
theorem of_eqt {p:Prop} [Decidable p] (h:(decide p == true)=true):p:=by simpa using h
theorem of_neqt {p:Prop} [Decidable p] (h:(decide p == true)=false):¬ p:=by simpa using h
end Go.Proofs.YtfolpdmbpbbimaaGreat
end

section
namespace Go.Proofs.YtfolpdmbpbbimaaGreat
open Go Go.Wit
end Go.Proofs.YtfolpdmbpbbimaaGreat
end

section
namespace Go.Proofs.YtfolpdmbpbbimaaGreat
open Go Go.Wit
structure AcT where
 k:Int
 i:Bool
 x:Nat
 y:Nat
 s:ByteArray
 ns:Nat
 S:Nat->Nat->Int
 nc:Nat
 I:Nat->Bool
 X:Nat->Nat
 Y:Nat->Nat
 ag:Int
 c:Nat
 r:Nat
def fN (S:Nat->Nat->Int):Nat->Nat->AV:=fun i j=> .int .u8 (S i j)
theorem eT {nv:Bool} {S:Nat->Nat->Int} {i j:Nat}:Flat nv (fN S i j):= .int _ _
theorem lM {n cap:Nat} {S:Nat->Nat->Int}:Flat false (.vsl 32 n cap (fN S)):= .vsl _ _ _ _ rfl fun _ _ _ _=>eT
theorem flat_raws {n cap:Nat} {I:Nat->Bool} {X Y:Nat->Nat}:Flat false (.vsl 9 n cap (cW I X Y)):= .vsl _ _ _ _ rfl fun _ _ _ _=>bR
def actV (k:Int) (i:Bool) (x y:Nat) (s:ByteArray) (ns c1:Nat) (S:Nat->Nat->Int) (nc c2:Nat) (I:Nat->Bool) (X Y:Nat->Nat) (ag:Int) (c r:Nat):AV:=actA k i x y s (.vsl 32 ns c1 (fN S)) (.vsl 9 nc c2 (cW I X Y)) ag c r
end Go.Proofs.YtfolpdmbpbbimaaGreat
end

section
namespace Go.Proofs.YtfolpdmbpbbimaaGreat
open Go Go.Wit
theorem S_Commit {m:Mem} {x:AV} {K:AV->Mem->Prop} {n:Nat} {c:Nat->Nat} (hx:aO m x 4 n (cV c)) (hc:∀ i,i<n->c i<w256)
 (h1:n<=64->∀ P cap,P=(fun i=>nmul (c i) gG)->memK (m++ [some ⟨9,n,ptsG P⟩]) (K (.tup [.sl m.length 0 n cap,.int .i64 0])))
 (h2:64<n->∀ G cap,memK (m++ [some ⟨9,0,ptsG G⟩]) (K (.tup [.sl m.length 0 0 cap,.int .i64 4]))):ACall Pg lH [x] m K:=by
 simp only [cU]at h1 h2
 obtain⟨cap,hl⟩:=hx
 refine lift_tupG (S_Commit0 n cap c hc) (fun n G vs hR i j _ _=> ?_) (.cons _ _ _ _ hl .nil) ?_
 · rcases hR with⟨_,_,rfl,_⟩ | ⟨_,_,⟨P,rfl⟩,_⟩ <;> exact bN
 rintro n' G cap' vs (⟨a,rfl,rfl,rfl⟩ | ⟨a,rfl,⟨P,rfl⟩,rfl⟩)
 · exact h1 a _ cap' rfl
 · exact h2 a P cap'
theorem S_points0 (n cap:Nat) (P:Nat->Pt Fp) (oP:∀ i,i<n->On (P i)) (hn:n<=140737488355328):ACall Pg iQ [.vsl 9 n cap (ptsG P)] [] (fun v _=>v= .bool true/\Flat true v):=by
 refine vZ ⟨rfl,?_⟩
 conv=>whnf
 repeat (refine⟨⟨[],rfl⟩,?_⟩;conv=>whnf)
 refine aU aH (I:=fun q l m=>∃ (k:Nat),l= [(2,.bool false),(5,.vsl 9 n cap (ptsG P)),(6,.int .i64 n),(7,.int .i64 k)] /\ m= [] /\ q+k=n) n
  (l0:= [(2,.bool false),(5,.vsl 9 n cap (ptsG P)),(6,.int .i64 n),(7,.int .i64 (0:Nat))]) (m0:= []) [] ⟨0,rfl,rfl,rfl⟩ ?_ ?_
 · exact .mk0 ⟨Flat.b rfl,.eq _ _ rfl (.vsl _ _ _ _ rfl (fun _ _ _ _=>bN)),Flat.i rfl,Flat.i rfl,trivial⟩ trivial rfl rfl
 · rintro q l m ⟨k,rfl,rfl,hq⟩
   conv=>whnf
   repeat (refine⟨⟨[],rfl⟩,?_⟩;conv=>whnf)
   refine aE (fun hb=> ?_) (fun hb=> ?_)
   · have hb:k<n:=by simp at hb;omega
     conv=>whnf
     repeat (refine⟨⟨[],rfl⟩,?_⟩;conv=>whnf)
     refine aA (by simp;omega) ?_
     conv=>whnf
     repeat (refine⟨⟨[],rfl⟩,?_⟩;conv=>whnf)
     refine kK (P:=P k) (oP k hb) ?_
     conv=>whnf
     repeat (refine⟨⟨[],rfl⟩,?_⟩;conv=>whnf)
     have e5:IntKind.i64.wrap ((k:Int)+1)=((k+1:Nat):Int):=by rw [w64 (by omega) (by omega)];omega
     refine⟨q - 1,[(2,.bool false),(5,.vsl 9 n cap (ptsG P)),(6,.int .i64 n),(7,.int .i64 ((k+1:Nat):Int))],[],[],by omega,⟨k+1,rfl,rfl,by omega⟩,?_⟩
     exact .mk0 ⟨Flat.b rfl,.eq _ _ rfl (.vsl _ _ _ _ rfl (fun _ _ _ _=>bN)),Flat.i rfl,Flat.i e5,trivial⟩ trivial rfl rfl
   · conv=>whnf
     repeat (refine⟨⟨[],rfl⟩,?_⟩;conv=>whnf)
     exact⟨rfl,.bool _⟩
theorem S_points_bad0 (n cap:Nat) (I:Nat->Bool) (X Y:Nat->Nat) (hX:∀ i,i<n->X i<w256) (hY:∀ i,i<n->Y i<w256) (b:Nat) (hbn:b<n) (hb:Bad (I b) (X b) (Y b)) (hg:∀ k,k<b->∃ P,On P/\rawA (I k) (X k) (Y k)=ptA P) (hn:n<=140737488355328):ACall Pg iQ [.vsl 9 n cap (cW I X Y)] [] (fun v _=>v= .bool false/\Flat true v):=by
 refine vZ ⟨rfl,?_⟩
 conv=>whnf
 repeat (refine⟨⟨[],rfl⟩,?_⟩;conv=>whnf)
 refine aU aH (I:=fun q l m=>∃ (k:Nat),l= [(2,.bool false),(5,.vsl 9 n cap (cW I X Y)),(6,.int .i64 n),(7,.int .i64 k)] /\ m= [] /\ q+k=n/\k<=b) n
  (l0:= [(2,.bool false),(5,.vsl 9 n cap (cW I X Y)),(6,.int .i64 n),(7,.int .i64 (0:Nat))]) (m0:= []) [] ⟨0,rfl,rfl,rfl,Nat.zero_le _⟩ ?_ ?_
 · exact .mk0 ⟨Flat.b rfl,.eq _ _ rfl (.vsl _ _ _ _ rfl (fun _ _ _ _=>bR)),Flat.i rfl,Flat.i rfl,trivial⟩ trivial rfl rfl
 · rintro q l m ⟨k,rfl,rfl,hq,hkb⟩
   conv=>whnf
   repeat (refine⟨⟨[],rfl⟩,?_⟩;conv=>whnf)
   refine aE (fun hc=> ?_) (fun hc=> ?_)
   · have hc:k<n:=by simp at hc;omega
     conv=>whnf
     repeat (refine⟨⟨[],rfl⟩,?_⟩;conv=>whnf)
     refine aA (by simp;omega) ?_
     conv=>whnf
     repeat (refine⟨⟨[],rfl⟩,?_⟩;conv=>whnf)
     refine S_Check (i:=I k) (x:=X k) (y:=Y k) (hX k hc) (hY k hc) (fun P oP e=> ?_) (fun hbk=> ?_)
     · have hne:k ≠ b:=fun h=>hb P oP (h ▸ e)
       conv=>whnf
       repeat (refine⟨⟨[],rfl⟩,?_⟩;conv=>whnf)
       have e5:IntKind.i64.wrap ((k:Int)+1)=((k+1:Nat):Int):=by rw [w64 (by omega) (by omega)];omega
       refine⟨q - 1,[(2,.bool false),(5,.vsl 9 n cap (cW I X Y)),(6,.int .i64 n),(7,.int .i64 ((k+1:Nat):Int))],[],[],by omega,⟨k+1,rfl,rfl,by omega,by omega⟩,?_⟩
       exact .mk0 ⟨Flat.b rfl,.eq _ _ rfl (.vsl _ _ _ _ rfl (fun _ _ _ _=>bR)),Flat.i rfl,Flat.i e5,trivial⟩ trivial rfl rfl
     · conv=>whnf
       repeat (refine⟨⟨[],rfl⟩,?_⟩;conv=>whnf)
       exact⟨rfl,.bool _⟩
   · have hc:¬ k<n:=by simp at hc;omega
     omega
theorem S_points {m:Mem} {x:AV} {K:AV->Mem->Prop} {n:Nat} {P:Nat->Pt Fp} (hx:aO m x 9 n (ptsG P)) (oP:∀ i,i<n->On (P i)) (hn:n<=140737488355328) (h:K (.bool true) m):ACall Pg iQ [x] m K:=by
 obtain⟨cap,hl⟩:=hx
 refine aC (S_points0 n cap P oP hn) (.cons _ _ _ _ hl .nil) ?_
 rintro v rfl
 exact h
theorem S_points_bad {m:Mem} {x:AV} {K:AV->Mem->Prop} {n:Nat} {I:Nat->Bool} {X Y:Nat->Nat} (hx:aO m x 9 n (cW I X Y)) (hX:∀ i,i<n->X i<w256) (hY:∀ i,i<n->Y i<w256) {b:Nat} (hbn:b<n) (hb:Bad (I b) (X b) (Y b)) (hg:∀ k,k<b->∃ P,On P/\rawA (I k) (X k) (Y k)=ptA P) (hn:n<=140737488355328) (h:K (.bool false) m):ACall Pg iQ [x] m K:=by
 obtain⟨cap,hl⟩:=hx
 refine aC (S_points_bad0 n cap I X Y hX hY b hbn hb hg hn) (.cons _ _ _ _ hl .nil) ?_
 rintro v rfl
 exact h
noncomputable def polyP (P:Nat->Pt Fp) (x:Nat):Nat->Pt Fp:=Nat.rec (motive:=fun _=>Pt Fp) .inf (fun k ih=>padd ih (nmul (x ^ k) (P k)))
theorem polyP_0 {P:Nat->Pt Fp} {x:Nat}:polyP P x 0= .inf:=rfl
theorem polyP_succ {P:Nat->Pt Fp} {x k:Nat}:polyP P x (k+1)=padd (polyP P x k) (nmul (x ^ k) (P k)):=rfl
theorem On.polyP {P:Nat->Pt Fp} {x n:Nat} (oP:∀ i,i<n->On (P i)):On (polyP P x n):=by
 induction n with
 | zero=>trivial
 | succ n ih=>exact (ih fun i hi=>oP i (by omega)).add crvP ((oP n (by omega)).nmul crvP _)
def z9:List AV:= [.bool false,.int .u64 0,.int .u64 0,.int .u64 0,.int .u64 0,.int .u64 0,.int .u64 0,.int .u64 0,.int .u64 0]
theorem flat_z9 {nv:Bool} {i:Nat}:Flat nv (z9.getD i .un):=by
 unfold z9
 match i with
 | 0=>exact .bool _
 | 1=>exact .int _ _
 | 2=>exact .int _ _
 | 3=>exact .int _ _
 | 4=>exact .int _ _
 | 5=>exact .int _ _
 | 6=>exact .int _ _
 | 7=>exact .int _ _
 | 8=>exact .int _ _
 | i+9=>simp;exact .un
theorem rv_one {nv:Bool} {σ:Nat->Option Nat} {l:List AV} {es i j:Nat} (hi:i<1) (hf:Flat nv (l.getD j .un)):RV nv σ (l.getD j .un) (lstG es l i j):=by
 obtain rfl:i=0:=by omega
 refine .eq _ _ ?_ hf
 show _=l.getD (0*es+j) .un
 rw [Nat.zero_mul,Nat.zero_add]
theorem iI {nv:Bool} {n i j:Nat}:Flat nv (lstG 1 (numL n) i j):=aJ
theorem flat_ptG9 {nv:Bool} {P:Pt Fp} {i j:Nat}:Flat nv (lstG 9 (rawL (isI P) (xN P) (yN P)) i j):=qZ
theorem S_At0 (n cap:Nat) (P:Nat->Pt Fp) (x:Nat) (hx:x<w256) (oP:∀ i,i<n->On (P i)) (hn:n<=64):ACall Pg pI [.vsl 9 n cap (ptsG P),numA x] [] (fun v _=>v= .tup [ptA (polyP P x n),.int .i64 0] /\ Flat true v):=by
 refine B_feld_At ⟨rfl,?_⟩
 conv=>whnf
 repeat (refine⟨⟨[],rfl⟩,?_⟩;conv=>whnf)
 refine aE (fun h=> ?_) (fun h=> ?_)
 · exfalso;simp at h;omega
 conv=>whnf
 repeat (refine⟨⟨[],rfl⟩,?_⟩;conv=>whnf)
 refine S_points (P:=P) (aO.vsl fun _ _ _ _=>bN) oP (by omega) ?_
 conv=>whnf
 repeat (refine⟨⟨[],rfl⟩,?_⟩;conv=>whnf)
 refine aU aH (I:=fun q l m=>∃ (k:Nat) (O:Pt Fp) (w:Nat),l= [(3,.ptr 0 0 0),(4,.ptr 1 0 0),(6,.ptr 2 0 0),(7,.ptr 3 0 0),(22,.vsl 9 n cap (ptsG P)),(23,.int .i64 n),(24,.int .i64 k)] /\
  m= [some ⟨1,4,lstG 1 (numL x)⟩,some ⟨9,1,lstG 9 z9⟩,some ⟨9,1,lstG 9 (rawL (isI O) (xN O) (yN O))⟩,some ⟨1,4,lstG 1 (numL w)⟩] /\ q+k=n/\O=polyP P x k/\w=x ^ k % nN) n
  (l0:= [(3,.ptr 0 0 0),(4,.ptr 1 0 0),(6,.ptr 2 0 0),(7,.ptr 3 0 0),(22,.vsl 9 n cap (ptsG P)),(23,.int .i64 n),(24,.int .i64 (0:Nat))])
  (m0:= [some ⟨1,4,lstG 1 (numL x)⟩,some ⟨9,1,lstG 9 z9⟩,some ⟨9,1,lstG 9 (rawL true 0 0)⟩,some ⟨1,4,lstG 1 (numL 1)⟩]) [some 0,some 1,some 2,some 3] ⟨0,.inf,1,rfl,rfl,rfl,rfl,by rw [Nat.pow_zero,Nat.mod_eq_of_lt (by decide)]⟩ ?_ ?_
 · refine .mk0 ⟨.ptr _ _ _ _ rfl,.ptr _ _ _ _ rfl,.ptr _ _ _ _ rfl,.ptr _ _ _ _ rfl,.eq _ _ rfl (.vsl _ _ _ _ rfl (fun _ _ _ _=>bN)),Flat.i rfl,Flat.i rfl,trivial⟩ ⟨.old 0 0 _ _ rfl rfl ⟨rfl,Nat.le_refl _,fun i j hi hj=> .eq _ _ rfl aJ⟩,
    .old 1 1 _ _ rfl rfl ⟨rfl,Nat.le_refl _,fun i j hi hj=>rv_one (l:=z9) hi flat_z9⟩,.old 2 2 _ _ rfl rfl ⟨rfl,Nat.le_refl _,fun i j hi hj=> ?_⟩,.old 3 3 _ _ rfl rfl ⟨rfl,Nat.le_refl _,fun i j hi hj=> ?_⟩,trivial⟩ rfl rfl
   · have hj:j<9:=hj
     have hi:i<1:=hi
     obtain rfl:i=0:=by omega
     have:j=0\/j=1\/j=2\/j=3\/j=4\/j=5\/j=6\/j=7\/j=8:=by omega
     rcases this with rfl | rfl | rfl | rfl | rfl | rfl | rfl | rfl | rfl
     · exact .eq _ _ rfl (.bool _)
     all_goals exact .eq _ _ rfl (.int _ _)
   · have hj:j<1:=hj
     have hi:i<4:=hi
     obtain rfl:j=0:=by omega
     have:i=0\/i=1\/i=2\/i=3:=by omega
     rcases this with rfl | rfl | rfl | rfl <;> exact .eq _ _ rfl (.int _ _)
 · rintro q l m ⟨k,O,w,rfl,rfl,hq,hO,hw⟩
   have hw1:w<w256:=by rw [hw];exact Nat.lt_trans (Nat.mod_lt _ (by decide)) (by decide)
   conv=>whnf
   repeat (refine⟨⟨[],rfl⟩,?_⟩;conv=>whnf)
   refine aE (fun hb=> ?_) (fun hb=> ?_)
   · have hb:k<n:=by simp at hb;omega
     have oO:On O:=by rw [hO];exact On.polyP fun i hi=>oP i (by omega)
     conv=>whnf
     repeat (refine⟨⟨[],rfl⟩,?_⟩;conv=>whnf)
     refine aA (by simp;omega) ?_
     conv=>whnf
     repeat (refine⟨⟨[],rfl⟩,?_⟩;conv=>whnf)
     refine T_Two (n:=1) (k:=w) (P:=O) (Q:=P k) (by decide) hw1 oO (oP k hb) (fun R oR hR=> ?_)
     have hR:R=polyP P x (k+1):=by rw [hR,nmul_one',hw,zK (oP k hb),polyP_succ,hO]
     conv=>whnf
     repeat (refine⟨⟨[],rfl⟩,?_⟩;conv=>whnf)
     refine S_FMul_1 hw1 hx (fun v hv=> ?_)
     have hv:v=x ^ (k+1) % nN:=by rw [hv,hw,Nat.mod_mul_mod,Nat.pow_succ]
     conv=>whnf
     repeat (refine⟨⟨[],rfl⟩,?_⟩;conv=>whnf)
     have e5:IntKind.i64.wrap ((k:Int)+1)=((k+1:Nat):Int):=by rw [w64 (by omega) (by omega)];omega
     refine⟨q - 1,_,_,[some 0,some 1,some 2,some 3],by omega,⟨k+1,R,v,rfl,rfl,by omega,hR,hv⟩,?_⟩
     refine .mk0 ⟨.ptr _ _ _ _ rfl,.ptr _ _ _ _ rfl,.ptr _ _ _ _ rfl,.ptr _ _ _ _ rfl,.eq _ _ rfl (.vsl _ _ _ _ rfl (fun _ _ _ _=>bN)),Flat.i rfl,Flat.i e5,trivial⟩ ⟨.old 0 0 _ _ rfl rfl ⟨rfl,Nat.le_refl _,fun i j hi hj=> .eq _ _ rfl iI⟩,
      .old 1 1 _ _ rfl rfl ⟨rfl,Nat.le_refl _,fun i j hi hj=> .eq _ _ rfl flat_z9⟩,.old 2 2 _ _ rfl rfl ⟨rfl,Nat.le_refl _,fun i j hi hj=> .eq _ _ rfl flat_ptG9⟩,.old 3 3 _ _ rfl rfl ⟨rfl,Nat.le_refl _,fun i j hi hj=> .eq _ _ rfl iI⟩,trivial⟩ rfl rfl
   · have hb:k=n:=by simp at hb;omega
     subst hb
     conv=>whnf
     repeat (refine⟨⟨[],rfl⟩,?_⟩;conv=>whnf)
     rw [<- hO]
     exact⟨rfl,.tup _ (.cons _ _ bK (.cons _ _ (.int _ _) .nil))⟩
end Go.Proofs.YtfolpdmbpbbimaaGreat
end

section
namespace Go.Proofs.YtfolpdmbpbbimaaGreat
open Go Go.Wit
end Go.Proofs.YtfolpdmbpbbimaaGreat
end

section
namespace Go.Proofs.YtfolpdmbpbbimaaGreat
open Go Go.Wit
end Go.Proofs.YtfolpdmbpbbimaaGreat
end

section
namespace Go.Proofs.YtfolpdmbpbbimaaGreat
open Go Go.Wit
end Go.Proofs.YtfolpdmbpbbimaaGreat
end

section
namespace Go.Proofs.YtfolpdmbpbbimaaGreat
open Go Go.Wit
theorem rowAtE {s:Nat->Int} {g:Nat->Nat->AV} {i p:Nat} {A:AV} (hi:i<32) (hp:p=i) (hA:A=updG ⟨1,32,g⟩ 0 0 32 ((List.range 32).map fun i=> .int .u8 (s i)) p 0):A= .int .u8 (s i):=by
 subst hp hA
 rw [mT (by omega) hi,List.getD_eq_getElem?_getD,List.getElem?_map,List.getElem?_range hi]
 rfl
theorem xorW {nv:Bool} {σ:Nat->Option Nat} {P:Nat->Int} {c:Int} {k i j N p:Nat} {x y:Int} {A:AV} (hj:j<1) (hx:x=dU .xor .u8 y c) (hy:y=P k) (hp:p=k) (hA:A=updG ⟨1,N,aB (fun i=>if i<k then xorB (P i) c else 0)⟩ p 0 1 [.int .u8 x] i j):
 RV nv σ A (aB (fun i=>if i<k+1 then xorB (P i) c else 0) i j):=by
 subst hp
 exact updB (a:=fun i=>xorB (P i) c) (z:=fun _=>0) hj (by rw [hx,hy];rfl) hA
theorem zeroW {nv:Bool} {σ:Nat->Option Nat} {P:Nat->Int} {c:Int} {i j:Nat} {A:AV} (hj:j<1) (hA:A= [AV.int IntKind.u8 0].getD j AV.un):RV nv σ A (aB (fun i=>if i<0 then xorB (P i) c else 0) i j):=by
 obtain rfl:j=0:=by omega
 exact zeroB (j:=0) (a:=fun i=>xorB (P i) c) (z:=fun _=>0) (hA.trans rfl)
set_option maxHeartbeats 1000000 in
theorem S_RMac0 (n c1:Nat) (f:Nat->Int) (k c2:Nat) (g:Nat->Int) (hn:n<=900000) (hk:k<=900000) (hf:∀ i,i<n->0<=f i/\f i<=255) (hg:∀ i,i<k->0<=g i/\g i<=255):
 ACall Pg jC [.vsl 1 n c1 (aB f),.vsl 1 k c2 (aB g)] [] (fun v _=>v= .agg (rowL (macB n f k g))/\Flat true v):=by
 have hP:∀ i,64<n->keyP n f i=if i<32 then sumB n f i else 0:=fun i h=>by simp only [keyP,keyN,keyG,if_pos h]
 have hP':∀ i,¬ 64<n->keyP n f i=if i<n then f i else 0:=fun i h=>by simp only [keyP,keyN,keyG,if_neg h]
 have hM:macB n f k g=sumB 96 (outF (keyP n f) (sumB (64+k) (inF (keyP n f) g))):=rfl
 generalize keyP n f=P at*
 generalize hM2:macB n f k g=M at*
 refine zY ⟨rfl,?_⟩
 conv=>whnf
 repeat (refine⟨⟨_,rfl⟩,?_⟩;conv=>whnf)
 refine aE (fun hc=> ?_) (fun hc=> ?_)
 · have hc:64<n:=by simp at hc;omega
   have hPs:∀ i,i<32->P i=sumB n f i:=fun i h=>by rw [hP i hc,if_pos h]
   have hP0:∀ i,¬ i<32->P i=0:=fun i h=>by rw [hP i hc,if_neg h]
   conv=>whnf
   repeat (refine⟨⟨_,rfl⟩,?_⟩;conv=>whnf)
   refine mG (f:=f) aM.vsl (by omega) hf (fun s hs hsb=> ?_)
   rw [<- hs]at hPs
   rw [rowL]
   conv=>whnf
   repeat (refine⟨⟨_,rfl⟩,?_⟩;conv=>whnf)
   obtain⟨cap0,hcap0⟩ :∃ c:Nat,c=32:=⟨_,rfl⟩
   refine aU aH (I:=fun q l m=>∃ (j:Nat),l= [(0,.sl 3 0 32 32),(1,.vsl 1 k c2 (aB g)),(4,.ptr 0 0 0),(5,.ptr 1 0 0),(6,.ptr 2 0 0),(8,.int .i64 j)] /\ m= [some ⟨1,32,fun _ _=> .int .u8 0⟩,some ⟨1,64,aB (fun i=>if i<j then xorB (P i) 54 else 0)⟩,some ⟨1,64,aB (fun i=>if i<j then xorB (P i) 92 else 0)⟩,some ⟨1,32,aB s⟩] /\ q+j=64) 64
    (l0:= [(0,.sl 3 0 32 32),(1,.vsl 1 k c2 (aB g)),(4,.ptr 0 0 0),(5,.ptr 1 0 0),(6,.ptr 2 0 0),(8,.int .i64 (0:Nat))]) (m0:= [some ⟨1,32,fun _ _=> .int .u8 0⟩,some ⟨1,64,aB (fun i=>if i<0 then xorB (P i) 54 else 0)⟩,some ⟨1,64,aB (fun i=>if i<0 then xorB (P i) 92 else 0)⟩,some ⟨1,32,aB s⟩]) [some 0,some 1,some 2,some 3] ⟨0,rfl,rfl,rfl⟩ ?_ ?_
   · exact .mk0 ⟨.sl _ _ _ _ _ rfl,.eq _ _ rfl (.vsl _ _ _ _ rfl (fun _ _ _ _=> .int _ _)),.ptr _ _ _ _ rfl,.ptr _ _ _ _ rfl,.ptr _ _ _ _ rfl,Flat.i rfl,trivial⟩ ⟨.old 0 0 _ _ rfl rfl ⟨rfl,Nat.le_refl _,fun i j hi hj=>oneU0 hj rfl⟩,.old 1 1 _ _ rfl rfl ⟨rfl,Nat.le_refl _,fun i j hi hj=>zeroW hj rfl⟩,.old 2 2 _ _ rfl rfl ⟨rfl,Nat.le_refl _,fun i j hi hj=>zeroW hj rfl⟩,.old 3 3 _ _ rfl rfl ⟨rfl,Nat.le_refl _,fun i j hi hj=>sumBlk hi hj rfl⟩,trivial⟩ rfl rfl
   · rintro q l m ⟨j,rfl,rfl,hq⟩
     conv=>whnf
     repeat (refine⟨⟨_,rfl⟩,?_⟩;conv=>whnf)
     refine aE (fun hb=> ?_) (fun hb=> ?_)
     · have hb:j<64:=by simp at hb;omega
       conv=>whnf
       repeat (refine⟨⟨_,rfl⟩,?_⟩;conv=>whnf)
       refine aE (fun hb2=> ?_) (fun hb2=> ?_)
       · have hb2:j<32:=by simp at hb2;omega
         conv=>whnf
         repeat (refine⟨⟨_,rfl⟩,?_⟩;conv=>whnf)
         refine aA (by simp;omega) ?_
         conv=>whnf
         repeat (refine⟨⟨_,rfl⟩,?_⟩;conv=>whnf)
         refine aA (by simp [cI,Nat.ble_eq];omega) ?_
         conv=>whnf
         repeat (refine⟨⟨_,rfl⟩,?_⟩;conv=>whnf)
         refine aA (by simp;omega) ?_
         conv=>whnf
         repeat (refine⟨⟨_,rfl⟩,?_⟩;conv=>whnf)
         refine aA (by simp [cI,Nat.ble_eq];omega) ?_
         conv=>whnf
         repeat (refine⟨⟨_,rfl⟩,?_⟩;conv=>whnf)
         refine aA (by simp;omega) ?_
         conv=>whnf
         repeat (refine⟨⟨_,rfl⟩,?_⟩;conv=>whnf)
         refine aA (by simp [cI,Nat.ble_eq];omega) ?_
         conv=>whnf
         repeat (refine⟨⟨_,rfl⟩,?_⟩;conv=>whnf)
         have e5:IntKind.i64.wrap ((j:Int)+1)=((j+1:Nat):Int):=by rw [w64 (by omega) (by omega)];omega
         refine⟨q - 1,[(0,.sl 3 0 32 32),(1,.vsl 1 k c2 (aB g)),(4,.ptr 0 0 0),(5,.ptr 1 0 0),(6,.ptr 2 0 0),(8,.int .i64 ((j+1:Nat):Int))],[some ⟨1,32,fun _ _=> .int .u8 0⟩,some ⟨1,64,aB (fun i=>if i<j+1 then xorB (P i) 54 else 0)⟩,some ⟨1,64,aB (fun i=>if i<j+1 then xorB (P i) 92 else 0)⟩,some ⟨1,32,aB s⟩],[some 0,some 1,some 2,some 3],by omega,⟨j+1,rfl,rfl,by omega⟩,?_⟩
         exact .mk0 ⟨.sl _ _ _ _ _ rfl,.eq _ _ rfl (.vsl _ _ _ _ rfl (fun _ _ _ _=> .int _ _)),.ptr _ _ _ _ rfl,.ptr _ _ _ _ rfl,.ptr _ _ _ _ rfl,Flat.i e5,trivial⟩ ⟨.old 0 0 _ _ rfl rfl ⟨rfl,Nat.le_refl _,fun i j hi hj=> .eq _ _ rfl (.int _ _)⟩,.old 1 1 _ _ rfl rfl ⟨rfl,Nat.le_refl _,fun a b ha hb=>xorW hb rfl (by rw [Nat.zero_add];exact(hPs j hb2).symm) (Nat.zero_add _) rfl⟩,.old 2 2 _ _ rfl rfl ⟨rfl,Nat.le_refl _,fun a b ha hb=>xorW hb rfl (by rw [Nat.zero_add];exact(hPs j hb2).symm) (Nat.zero_add _) rfl⟩,.old 3 3 _ _ rfl rfl ⟨rfl,Nat.le_refl _,fun i j hi hj=> .eq _ _ rfl (.int _ _)⟩,trivial⟩ rfl rfl
       · have hb2:¬ j<32:=by simp at hb2;omega
         conv=>whnf
         repeat (refine⟨⟨_,rfl⟩,?_⟩;conv=>whnf)
         refine aA (by simp;omega) ?_
         conv=>whnf
         repeat (refine⟨⟨_,rfl⟩,?_⟩;conv=>whnf)
         refine aA (by simp [cI,Nat.ble_eq];omega) ?_
         conv=>whnf
         repeat (refine⟨⟨_,rfl⟩,?_⟩;conv=>whnf)
         refine aA (by simp;omega) ?_
         conv=>whnf
         repeat (refine⟨⟨_,rfl⟩,?_⟩;conv=>whnf)
         refine aA (by simp [cI,Nat.ble_eq];omega) ?_
         conv=>whnf
         repeat (refine⟨⟨_,rfl⟩,?_⟩;conv=>whnf)
         have e5:IntKind.i64.wrap ((j:Int)+1)=((j+1:Nat):Int):=by rw [w64 (by omega) (by omega)];omega
         refine⟨q - 1,[(0,.sl 3 0 32 32),(1,.vsl 1 k c2 (aB g)),(4,.ptr 0 0 0),(5,.ptr 1 0 0),(6,.ptr 2 0 0),(8,.int .i64 ((j+1:Nat):Int))],[some ⟨1,32,fun _ _=> .int .u8 0⟩,some ⟨1,64,aB (fun i=>if i<j+1 then xorB (P i) 54 else 0)⟩,some ⟨1,64,aB (fun i=>if i<j+1 then xorB (P i) 92 else 0)⟩,some ⟨1,32,aB s⟩],[some 0,some 1,some 2,some 3],by omega,⟨j+1,rfl,rfl,by omega⟩,?_⟩
         exact .mk0 ⟨.sl _ _ _ _ _ rfl,.eq _ _ rfl (.vsl _ _ _ _ rfl (fun _ _ _ _=> .int _ _)),.ptr _ _ _ _ rfl,.ptr _ _ _ _ rfl,.ptr _ _ _ _ rfl,Flat.i e5,trivial⟩ ⟨.old 0 0 _ _ rfl rfl ⟨rfl,Nat.le_refl _,fun i j hi hj=> .eq _ _ rfl (.int _ _)⟩,.old 1 1 _ _ rfl rfl ⟨rfl,Nat.le_refl _,fun a b ha hb=>xorW hb rfl (hP0 j hb2).symm (Nat.zero_add _) rfl⟩,.old 2 2 _ _ rfl rfl ⟨rfl,Nat.le_refl _,fun a b ha hb=>xorW hb rfl (hP0 j hb2).symm (Nat.zero_add _) rfl⟩,.old 3 3 _ _ rfl rfl ⟨rfl,Nat.le_refl _,fun i j hi hj=> .eq _ _ rfl (.int _ _)⟩,trivial⟩ rfl rfl
     · have hb:j=64:=by simp at hb;omega
       subst hb
       conv=>whnf
       repeat (refine⟨⟨_,rfl⟩,?_⟩;conv=>whnf)
       refine tH (n:=64) (k:=k) (f:=fun i=>if i<64 then xorB (P i) 54 else 0) (g:=g) (fP.sl rfl (Nat.le_refl 2) (fun i hi=> ?_)) (by decide) (by omega) (fun cap2 h0 hh0=> ?_)
       · have:i=0\/i=1:=by omega
         rcases this with rfl | rfl
         · exact aM.sl rfl (Nat.le_refl _) fun i hi=>by rw [Nat.zero_add];rfl
         · exact aM.vsl
       conv=>whnf
       repeat (refine⟨⟨_,rfl⟩,?_⟩;conv=>whnf)
       refine mG (n:=64+k) (f:=inF P g) (aM.sl rfl (Nat.le_of_eq (Nat.zero_add _)) fun i hi=> ?_) (by omega) (fun i hi=> ?_) (fun s1 hs1 hsb1=> ?_)
       · rw [Nat.zero_add,hh0];unfold inF catB
         by_cases h:i<64
         · rw [if_pos h,if_pos h];exact(if_pos h).symm
         · rw [if_neg h,if_neg h]
       · unfold inF;split
         · exact jQ _ _
         · exact hg _ (by omega)
       rw [rowL]
       conv=>whnf
       repeat (refine⟨⟨_,rfl⟩,?_⟩;conv=>whnf)
       refine tH (n:=64) (k:=32) (f:=fun i=>if i<64 then xorB (P i) 92 else 0) (g:=s1) (fP.sl rfl (Nat.le_refl 2) (fun i hi=> ?_)) (by decide) (by decide) (fun cap3 h1 hh1=> ?_)
       · have:i=0\/i=1:=by omega
         rcases this with rfl | rfl
         · exact aM.sl rfl (Nat.le_refl _) fun i hi=>by rw [Nat.zero_add];rfl
         · exact aM.any rfl (Nat.le_refl _) fun i hi=>rowAtE hi (by omega) rfl
       conv=>whnf
       repeat (refine⟨⟨_,rfl⟩,?_⟩;conv=>whnf)
       refine mG (n:=96) (f:=outF P s1) (aM.sl rfl (Nat.le_of_eq (Nat.zero_add _)) fun i hi=> ?_) (by decide) (fun i hi=> ?_) (fun s2 hs2 hsb2=> ?_)
       · rw [Nat.zero_add,hh1];unfold outF catB
         by_cases h:i<64
         · rw [if_pos h,if_pos h];exact(if_pos h).symm
         · rw [if_neg h,if_neg h]
       · unfold outF;split
         · exact jQ _ _
         · exact hsb1 _
       rw [rowL]
       conv=>whnf
       repeat (refine⟨⟨_,rfl⟩,?_⟩;conv=>whnf)
       have e9:s2=M:=by rw [hs2,hM,hs1]
       subst e9
       exact kY rfl
 · have hc:¬ 64<n:=by simp at hc;omega
   have hPs:∀ i,i<n->P i=f i:=fun i h=>by rw [hP' i hc,if_pos h]
   have hP0:∀ i,¬ i<n->P i=0:=fun i h=>by rw [hP' i hc,if_neg h]
   conv=>whnf
   repeat (refine⟨⟨_,rfl⟩,?_⟩;conv=>whnf)
   refine aU aH (I:=fun q l m=>∃ (j:Nat),l= [(0,.vsl 1 n c1 (aB f)),(1,.vsl 1 k c2 (aB g)),(4,.ptr 0 0 0),(5,.ptr 1 0 0),(6,.ptr 2 0 0),(8,.int .i64 j)] /\ m= [some ⟨1,32,fun _ _=> .int .u8 0⟩,some ⟨1,64,aB (fun i=>if i<j then xorB (P i) 54 else 0)⟩,some ⟨1,64,aB (fun i=>if i<j then xorB (P i) 92 else 0)⟩] /\ q+j=64) 64
    (l0:= [(0,.vsl 1 n c1 (aB f)),(1,.vsl 1 k c2 (aB g)),(4,.ptr 0 0 0),(5,.ptr 1 0 0),(6,.ptr 2 0 0),(8,.int .i64 (0:Nat))]) (m0:= [some ⟨1,32,fun _ _=> .int .u8 0⟩,some ⟨1,64,aB (fun i=>if i<0 then xorB (P i) 54 else 0)⟩,some ⟨1,64,aB (fun i=>if i<0 then xorB (P i) 92 else 0)⟩]) [some 0,some 1,some 2] ⟨0,rfl,rfl,rfl⟩ ?_ ?_
   · exact .mk0 ⟨.eq _ _ rfl (.vsl _ _ _ _ rfl (fun _ _ _ _=> .int _ _)),.eq _ _ rfl (.vsl _ _ _ _ rfl (fun _ _ _ _=> .int _ _)),.ptr _ _ _ _ rfl,.ptr _ _ _ _ rfl,.ptr _ _ _ _ rfl,Flat.i rfl,trivial⟩ ⟨.old 0 0 _ _ rfl rfl ⟨rfl,Nat.le_refl _,fun i j hi hj=>oneU0 hj rfl⟩,.old 1 1 _ _ rfl rfl ⟨rfl,Nat.le_refl _,fun i j hi hj=>zeroW hj rfl⟩,.old 2 2 _ _ rfl rfl ⟨rfl,Nat.le_refl _,fun i j hi hj=>zeroW hj rfl⟩,trivial⟩ rfl rfl
   · rintro q l m ⟨j,rfl,rfl,hq⟩
     conv=>whnf
     repeat (refine⟨⟨_,rfl⟩,?_⟩;conv=>whnf)
     refine aE (fun hb=> ?_) (fun hb=> ?_)
     · have hb:j<64:=by simp at hb;omega
       conv=>whnf
       repeat (refine⟨⟨_,rfl⟩,?_⟩;conv=>whnf)
       refine aE (fun hb2=> ?_) (fun hb2=> ?_)
       · have hb2:j<n:=by simp at hb2;omega
         conv=>whnf
         repeat (refine⟨⟨_,rfl⟩,?_⟩;conv=>whnf)
         refine aA (by simp;omega) ?_
         conv=>whnf
         repeat (refine⟨⟨_,rfl⟩,?_⟩;conv=>whnf)
         refine aA (by simp;omega) ?_
         conv=>whnf
         repeat (refine⟨⟨_,rfl⟩,?_⟩;conv=>whnf)
         refine aA (by simp [cI,Nat.ble_eq];omega) ?_
         conv=>whnf
         repeat (refine⟨⟨_,rfl⟩,?_⟩;conv=>whnf)
         refine aA (by simp;omega) ?_
         conv=>whnf
         repeat (refine⟨⟨_,rfl⟩,?_⟩;conv=>whnf)
         refine aA (by simp [cI,Nat.ble_eq];omega) ?_
         conv=>whnf
         repeat (refine⟨⟨_,rfl⟩,?_⟩;conv=>whnf)
         have e5:IntKind.i64.wrap ((j:Int)+1)=((j+1:Nat):Int):=by rw [w64 (by omega) (by omega)];omega
         refine⟨q - 1,[(0,.vsl 1 n c1 (aB f)),(1,.vsl 1 k c2 (aB g)),(4,.ptr 0 0 0),(5,.ptr 1 0 0),(6,.ptr 2 0 0),(8,.int .i64 ((j+1:Nat):Int))],[some ⟨1,32,fun _ _=> .int .u8 0⟩,some ⟨1,64,aB (fun i=>if i<j+1 then xorB (P i) 54 else 0)⟩,some ⟨1,64,aB (fun i=>if i<j+1 then xorB (P i) 92 else 0)⟩],[some 0,some 1,some 2],by omega,⟨j+1,rfl,rfl,by omega⟩,?_⟩
         exact .mk0 ⟨.eq _ _ rfl (.vsl _ _ _ _ rfl (fun _ _ _ _=> .int _ _)),.eq _ _ rfl (.vsl _ _ _ _ rfl (fun _ _ _ _=> .int _ _)),.ptr _ _ _ _ rfl,.ptr _ _ _ _ rfl,.ptr _ _ _ _ rfl,Flat.i e5,trivial⟩ ⟨.old 0 0 _ _ rfl rfl ⟨rfl,Nat.le_refl _,fun i j hi hj=> .eq _ _ rfl (.int _ _)⟩,.old 1 1 _ _ rfl rfl ⟨rfl,Nat.le_refl _,fun a b ha hb=>xorW hb rfl (hPs j hb2).symm (Nat.zero_add _) rfl⟩,.old 2 2 _ _ rfl rfl ⟨rfl,Nat.le_refl _,fun a b ha hb=>xorW hb rfl (hPs j hb2).symm (Nat.zero_add _) rfl⟩,trivial⟩ rfl rfl
       · have hb2:¬ j<n:=by simp at hb2;omega
         conv=>whnf
         repeat (refine⟨⟨_,rfl⟩,?_⟩;conv=>whnf)
         refine aA (by simp;omega) ?_
         conv=>whnf
         repeat (refine⟨⟨_,rfl⟩,?_⟩;conv=>whnf)
         refine aA (by simp [cI,Nat.ble_eq];omega) ?_
         conv=>whnf
         repeat (refine⟨⟨_,rfl⟩,?_⟩;conv=>whnf)
         refine aA (by simp;omega) ?_
         conv=>whnf
         repeat (refine⟨⟨_,rfl⟩,?_⟩;conv=>whnf)
         refine aA (by simp [cI,Nat.ble_eq];omega) ?_
         conv=>whnf
         repeat (refine⟨⟨_,rfl⟩,?_⟩;conv=>whnf)
         have e5:IntKind.i64.wrap ((j:Int)+1)=((j+1:Nat):Int):=by rw [w64 (by omega) (by omega)];omega
         refine⟨q - 1,[(0,.vsl 1 n c1 (aB f)),(1,.vsl 1 k c2 (aB g)),(4,.ptr 0 0 0),(5,.ptr 1 0 0),(6,.ptr 2 0 0),(8,.int .i64 ((j+1:Nat):Int))],[some ⟨1,32,fun _ _=> .int .u8 0⟩,some ⟨1,64,aB (fun i=>if i<j+1 then xorB (P i) 54 else 0)⟩,some ⟨1,64,aB (fun i=>if i<j+1 then xorB (P i) 92 else 0)⟩],[some 0,some 1,some 2],by omega,⟨j+1,rfl,rfl,by omega⟩,?_⟩
         exact .mk0 ⟨.eq _ _ rfl (.vsl _ _ _ _ rfl (fun _ _ _ _=> .int _ _)),.eq _ _ rfl (.vsl _ _ _ _ rfl (fun _ _ _ _=> .int _ _)),.ptr _ _ _ _ rfl,.ptr _ _ _ _ rfl,.ptr _ _ _ _ rfl,Flat.i e5,trivial⟩ ⟨.old 0 0 _ _ rfl rfl ⟨rfl,Nat.le_refl _,fun i j hi hj=> .eq _ _ rfl (.int _ _)⟩,.old 1 1 _ _ rfl rfl ⟨rfl,Nat.le_refl _,fun a b ha hb=>xorW hb rfl (hP0 j hb2).symm (Nat.zero_add _) rfl⟩,.old 2 2 _ _ rfl rfl ⟨rfl,Nat.le_refl _,fun a b ha hb=>xorW hb rfl (hP0 j hb2).symm (Nat.zero_add _) rfl⟩,trivial⟩ rfl rfl
     · have hb:j=64:=by simp at hb;omega
       subst hb
       conv=>whnf
       repeat (refine⟨⟨_,rfl⟩,?_⟩;conv=>whnf)
       refine tH (n:=64) (k:=k) (f:=fun i=>if i<64 then xorB (P i) 54 else 0) (g:=g) (fP.sl rfl (Nat.le_refl 2) (fun i hi=> ?_)) (by decide) (by omega) (fun cap2 h0 hh0=> ?_)
       · have:i=0\/i=1:=by omega
         rcases this with rfl | rfl
         · exact aM.sl rfl (Nat.le_refl _) fun i hi=>by rw [Nat.zero_add];rfl
         · exact aM.vsl
       conv=>whnf
       repeat (refine⟨⟨_,rfl⟩,?_⟩;conv=>whnf)
       refine mG (n:=64+k) (f:=inF P g) (aM.sl rfl (Nat.le_of_eq (Nat.zero_add _)) fun i hi=> ?_) (by omega) (fun i hi=> ?_) (fun s1 hs1 hsb1=> ?_)
       · rw [Nat.zero_add,hh0];unfold inF catB
         by_cases h:i<64
         · rw [if_pos h,if_pos h];exact(if_pos h).symm
         · rw [if_neg h,if_neg h]
       · unfold inF;split
         · exact jQ _ _
         · exact hg _ (by omega)
       rw [rowL]
       conv=>whnf
       repeat (refine⟨⟨_,rfl⟩,?_⟩;conv=>whnf)
       refine tH (n:=64) (k:=32) (f:=fun i=>if i<64 then xorB (P i) 92 else 0) (g:=s1) (fP.sl rfl (Nat.le_refl 2) (fun i hi=> ?_)) (by decide) (by decide) (fun cap3 h1 hh1=> ?_)
       · have:i=0\/i=1:=by omega
         rcases this with rfl | rfl
         · exact aM.sl rfl (Nat.le_refl _) fun i hi=>by rw [Nat.zero_add];rfl
         · exact aM.any rfl (Nat.le_refl _) fun i hi=>rowAtE hi (by omega) rfl
       conv=>whnf
       repeat (refine⟨⟨_,rfl⟩,?_⟩;conv=>whnf)
       refine mG (n:=96) (f:=outF P s1) (aM.sl rfl (Nat.le_of_eq (Nat.zero_add _)) fun i hi=> ?_) (by decide) (fun i hi=> ?_) (fun s2 hs2 hsb2=> ?_)
       · rw [Nat.zero_add,hh1];unfold outF catB
         by_cases h:i<64
         · rw [if_pos h,if_pos h];exact(if_pos h).symm
         · rw [if_neg h,if_neg h]
       · unfold outF;split
         · exact jQ _ _
         · exact hsb1 _
       rw [rowL]
       conv=>whnf
       repeat (refine⟨⟨_,rfl⟩,?_⟩;conv=>whnf)
       have e9:s2=M:=by rw [hs2,hM,hs1]
       subst e9
       exact kY rfl
theorem S_RMac {m:Mem} {x y:AV} {n k:Nat} {f g:Nat->Int} {K:AV->Mem->Prop} (hx:aM m x n f) (hy:aM m y k g) (hn:n<=900000) (hk:k<=900000) (hf:∀ i,i<n->0<=f i/\f i<=255) (hg:∀ i,i<k->0<=g i/\g i<=255)
 (h:∀ s,s=macB n f k g->(∀ i,0<=s i/\s i<=255)->K (.agg (rowL s)) m):ACall Pg jC [x,y] m K:=by
 obtain⟨c1,h1⟩:=hx
 obtain⟨c2,h2⟩:=hy
 refine aC (S_RMac0 n c1 f k c2 g hn hk hf hg) (.cons _ _ _ _ h1 (.cons _ _ _ _ h2 .nil)) ?_
 rintro v rfl
 exact h _ rfl (sumB_lt _ _)
end Go.Proofs.YtfolpdmbpbbimaaGreat
end

section
namespace Go.Proofs.YtfolpdmbpbbimaaGreat
open Go Go.Wit
noncomputable def tryP (n:Nat) (f:Nat->Int) (c:Nat):Except Int (Pt Fp):=rd 33 (catB 1 (fun _=>2) (sumB (n+4) (catB n f (beF c 4))))
def PtRes (n:Nat) (f:Nat->Int) (v:AV):Prop:=
 (∃ c P,c<256/\(∀ d,d<c->∃ e,tryP n f d= .error e)/\tryP n f c= .ok P/\On P/\v= .tup [ptA P,.int .i64 ((c+1:Nat):Int),.int .i64 0])\/
 ((∀ d,d<256->∃ e,tryP n f d= .error e)/\v= .tup [noPt,.int .i64 0,.int .i64 5])
theorem PtRes.same {n:Nat} {f:Nat->Int} {v w:AV} (h1:PtRes n f v) (h2:PtRes n f w):v=w:=by
 rcases h1 with⟨c,P,hc,hd,hP,_,rfl⟩ | ⟨hd,rfl⟩
 · rcases h2 with⟨c2,P2,hc2,hd2,hP2,_,rfl⟩ | ⟨hd2,rfl⟩
   · obtain rfl:c=c2:=by
      rcases Nat.lt_trichotomy c c2 with h | h | h
      · obtain⟨e,he⟩:=hd2 c h;rw [hP]at he;cases he
      · exact h
      · obtain⟨e,he⟩:=hd c2 h;rw [hP2]at he;cases he
     rw [hP]at hP2
     obtain rfl:P=P2:=by injection hP2
     rfl
   · obtain⟨e,he⟩:=hd2 c hc;rw [hP]at he;cases he
 · rcases h2 with⟨c2,P2,hc2,hd2,hP2,_,rfl⟩ | ⟨hd2,rfl⟩
   · obtain⟨e,he⟩:=hd c2 hc2;rw [hP2]at he;cases he
   · rfl
end Go.Proofs.YtfolpdmbpbbimaaGreat
end

section
namespace Go.Proofs.YtfolpdmbpbbimaaGreat
open Go Go.Wit
end Go.Proofs.YtfolpdmbpbbimaaGreat
end

section
namespace Go.Proofs.YtfolpdmbpbbimaaGreat
open Go Go.Wit
theorem lend_act {m:Mem} {B:List Nat} {k:Int} {i:Bool} {x y:Nat} {s:ByteArray} {sl co sl' co':AV} {ag:Int} {c r:Nat} (h1:Lend (fun _=>none) B m sl sl') (h2:Lend (fun _=>none) B m co co'):
 Lend (fun _=>none) B m (actA k i x y s sl co ag c r) (actA k i x y s sl' co' ag c r):=by
 refine .aggR _ _ rfl (fun j hj=> ?_)
 have hj:j<22:=hj
 have:j=0\/j=1\/j=2\/j=3\/j=4\/j=5\/j=6\/j=7\/j=8\/j=9\/j=10\/j=11\/j=12\/j=13\/j=14\/j=15\/j=16\/j=17\/j=18\/j=19\/j=20\/j=21:=by omega
 rcases this with rfl | rfl | rfl | rfl | rfl | rfl | rfl | rfl | rfl | rfl | rfl | rfl | rfl | rfl | rfl | rfl | rfl | rfl | rfl | rfl | rfl | rfl
 all_goals first
  | exact h1
  | exact h2
  | exact .rv _ _ (.eq _ _ rfl (.int _ _))
  | exact .rv _ _ (.eq _ _ rfl (.bool _))
  | exact .rv _ _ (.eq _ _ rfl (.str _))
theorem S_ProveE {m:Mem} {K:AV->Mem->Prop} {v w u:AV} {s k:Nat} {b:Pt Fp} (hv:v=numA s) (hw:w=numA k) (hu:u=ptA b) (hs:s<w256) (hk:k<w256) (ob:On b) (h:∀ c r,c=prfC s k b->r=prfR s k c->c<nN->r<nN->K (.tup [prA c r,.int .i64 0]) m):ACall Pg kU [v,w,u] m K:=by
 subst hv hw hu;exact S_Prove hs hk ob h
end Go.Proofs.YtfolpdmbpbbimaaGreat
end

section
namespace Go.Proofs.YtfolpdmbpbbimaaGreat
open Go Go.Wit
set_option maxHeartbeats 1000000 in
theorem S_Mac0 (n c1:Nat) (f:Nat->Int) (k c2:Nat) (g:Nat->Int) (hn:n<=900000) (hk:k<=900000) (hf:∀ i,i<n->0<=f i/\f i<=255) (hg:∀ i,i<k->0<=g i/\g i<=255):
 ACall Pg vH [.vsl 1 n c1 (aB f),.vsl 1 k c2 (aB g)] [] (fun v _=>v= .agg (rowL (macB n f k g))/\Flat true v):=by
 have hP:∀ i,64<n->keyP n f i=if i<32 then sumB n f i else 0:=fun i h=>by simp only [keyP,keyN,keyG,if_pos h]
 have hP':∀ i,¬ 64<n->keyP n f i=if i<n then f i else 0:=fun i h=>by simp only [keyP,keyN,keyG,if_neg h]
 have hM:macB n f k g=sumB 96 (outF (keyP n f) (sumB (64+k) (inF (keyP n f) g))):=rfl
 generalize keyP n f=P at*
 generalize hM2:macB n f k g=M at*
 refine B_sha_Mac ⟨rfl,?_⟩
 conv=>whnf
 repeat (refine⟨⟨_,rfl⟩,?_⟩;conv=>whnf)
 refine aE (fun hc=> ?_) (fun hc=> ?_)
 · have hc:64<n:=by simp at hc;omega
   conv=>whnf
   repeat (refine⟨⟨_,rfl⟩,?_⟩;conv=>whnf)
   refine S_SumR (f:=f) aM.vsl (by omega) hf (fun s hs hsb=> ?_)
   rw [rowL]
   conv=>whnf
   repeat (refine⟨⟨_,rfl⟩,?_⟩;conv=>whnf)
   refine aU aH (I:=fun q l m=>∃ (j:Nat),l= [(1,.vsl 1 k c2 (aB g)),(4,.ptr 0 0 0),(6,.sl 1 0 64 64),(7,.sl 2 0 64 64),(25,.int .i64 (64:Nat)),(26,.int .i64 j)] /\
    m= [some ⟨1,32,fun _ _=> .int .u8 0⟩,some ⟨1,64,aB (fun i=>if i<j then xorB (P i) 54 else P i)⟩,some ⟨1,64,aB (fun i=>if i<j then xorB (P i) 92 else P i)⟩] /\ q+j=64) 64
    (l0:= [(1,.vsl 1 k c2 (aB g)),(4,.ptr 0 0 0),(6,.sl 1 0 64 64),(7,.sl 2 0 64 64),(25,.int .i64 (64:Nat)),(26,.int .i64 (0:Nat))]) (m0:= [some ⟨1,32,fun _ _=> .int .u8 0⟩,some ⟨1,64,aB (fun i=>if i<0 then xorB (P i) 54 else P i)⟩,some ⟨1,64,aB (fun i=>if i<0 then xorB (P i) 92 else P i)⟩]) [some 0,some 2,some 3] ⟨0,rfl,rfl,rfl⟩ ?_ ?_
   · refine .mk0 ⟨.eq _ _ rfl (.vsl _ _ _ _ rfl (fun _ _ _ _=> .int _ _)),.ptr _ _ _ _ rfl,.sl _ _ _ _ _ rfl,.sl _ _ _ _ _ rfl,Flat.i rfl,Flat.i rfl,trivial⟩ ⟨.old 0 0 _ _ rfl rfl ⟨rfl,Nat.le_refl _,fun i j hi hj=>oneU0 hj rfl⟩,.old 1 2 _ _ rfl rfl ⟨rfl,Nat.le_refl _,fun i j hi hj=> ?_⟩,.old 2 3 _ _ rfl rfl ⟨rfl,Nat.le_refl _,fun i j hi hj=> ?_⟩,trivial⟩ rfl rfl
     · have hj:j<1:=hj
       obtain rfl:j=0:=by omega
       exact keyW2 (P:=P) (s:=s) (a:=fun i=>xorB (P i) 54) hj (by rw [hP i hc,hs]) rfl
     · have hj:j<1:=hj
       obtain rfl:j=0:=by omega
       exact keyW2 (P:=P) (s:=s) (a:=fun i=>xorB (P i) 92) hj (by rw [hP i hc,hs]) rfl
   · rintro q l m ⟨j,rfl,rfl,hq⟩
     conv=>whnf
     repeat (refine⟨⟨_,rfl⟩,?_⟩;conv=>whnf)
     refine aE (fun hb=> ?_) (fun hb=> ?_)
     · have hb:j<64:=by simp at hb;omega
       conv=>whnf
       repeat (refine⟨⟨_,rfl⟩,?_⟩;conv=>whnf)
       refine aA (by simp;omega) ?_
       conv=>whnf
       repeat (refine⟨⟨_,rfl⟩,?_⟩;conv=>whnf)
       simp only [Int.toNat_natCast,Nat.zero_add]
       refine aA (by simp [cI,Nat.ble_eq];omega) ?_
       conv=>whnf
       repeat (refine⟨⟨_,rfl⟩,?_⟩;conv=>whnf)
       refine aA (by simp;omega) ?_
       conv=>whnf
       repeat (refine⟨⟨_,rfl⟩,?_⟩;conv=>whnf)
       simp only [Int.toNat_natCast,Nat.zero_add]
       refine aA (by simp [cI,Nat.ble_eq];omega) ?_
       conv=>whnf
       repeat (refine⟨⟨_,rfl⟩,?_⟩;conv=>whnf)
       refine aA (by simp;omega) ?_
       conv=>whnf
       repeat (refine⟨⟨_,rfl⟩,?_⟩;conv=>whnf)
       simp only [Int.toNat_natCast,Nat.zero_add]
       refine aA (by simp [cI,Nat.ble_eq];omega) ?_
       conv=>whnf
       repeat (refine⟨⟨_,rfl⟩,?_⟩;conv=>whnf)
       refine aA (by simp;omega) ?_
       conv=>whnf
       repeat (refine⟨⟨_,rfl⟩,?_⟩;conv=>whnf)
       simp only [Int.toNat_natCast,Nat.zero_add]
       refine aA (by simp [cI,Nat.ble_eq];omega) ?_
       conv=>whnf
       repeat (refine⟨⟨_,rfl⟩,?_⟩;conv=>whnf)
       have e5:IntKind.i64.wrap ((j:Int)+1)=((j+1:Nat):Int):=by rw [w64 (by omega) (by omega)];omega
       have e6:∀ x,dU .xor .u8 (if j<j then x else P j) 54=xorB (P j) 54:=fun x=>by rw [if_neg (Nat.lt_irrefl _)];rfl
       have e7:∀ x,dU .xor .u8 (if j<j then x else P j) 92=xorB (P j) 92:=fun x=>by rw [if_neg (Nat.lt_irrefl _)];rfl
       refine⟨q - 1,[(1,.vsl 1 k c2 (aB g)),(4,.ptr 0 0 0),(6,.sl 1 0 64 64),(7,.sl 2 0 64 64),(25,.int .i64 (64:Nat)),(26,.int .i64 ((j+1:Nat):Int))],[some ⟨1,32,fun _ _=> .int .u8 0⟩,some ⟨1,64,aB (fun i=>if i<j+1 then xorB (P i) 54 else P i)⟩,some ⟨1,64,aB (fun i=>if i<j+1 then xorB (P i) 92 else P i)⟩],[some 0,some 1,some 2],by omega,⟨j+1,rfl,rfl,by omega⟩,?_⟩
       refine .mk0 ⟨.eq _ _ rfl (.vsl _ _ _ _ rfl (fun _ _ _ _=> .int _ _)),.ptr _ _ _ _ rfl,.sl _ _ _ _ _ rfl,.sl _ _ _ _ _ rfl,Flat.i rfl,Flat.i e5,trivial⟩ ⟨.old 0 0 _ _ rfl rfl ⟨rfl,Nat.le_refl _,fun i j hi hj=> .eq _ _ rfl (.int _ _)⟩,.old 1 1 _ _ rfl rfl ⟨rfl,Nat.le_refl _,fun a b ha hb=> ?_⟩,.old 2 2 _ _ rfl rfl ⟨rfl,Nat.le_refl _,fun a b ha hb=> ?_⟩,trivial⟩ rfl rfl
       · exact updB (a:=fun i=>xorB (P i) 54) (z:=P) hb (e6 _) rfl
       · exact updB (a:=fun i=>xorB (P i) 92) (z:=P) hb (e7 _) rfl
     · have hb:j=64:=by simp at hb;omega
       subst hb
       conv=>whnf
       repeat (refine⟨⟨_,rfl⟩,?_⟩;conv=>whnf)
       refine aA (cH (by simp) rfl rfl (by omega) (by omega)) (fun cap1 hcap1=> ?_)
       conv=>whnf
       repeat (refine⟨⟨_,rfl⟩,?_⟩;conv=>whnf)
       refine S_SumR (n:=64+k) (f:=inF P g) (aM.any rfl (by simp) (fun i hi=> ?_)) (by omega) (fun i hi=> ?_) (fun s1 hs1 hsb1=> ?_)
       · exact catP (fun i h=>by simp only [inF,if_pos h]) (fun i h=>by simp only [inF];rw [if_neg (by omega),show 64+i - 64=i by omega]) (k:=k) (fun i h=>rfl) hi
       · by_cases h:i<64
         · simp only [inF,if_pos h];exact jQ _ _
         · simp only [inF,if_neg h];exact hg _ (by omega)
       rw [rowL]
       conv=>whnf
       repeat (refine⟨⟨_,rfl⟩,?_⟩;conv=>whnf)
       intro cap2 hcap2
       conv=>whnf
       repeat (refine⟨⟨_,rfl⟩,?_⟩;conv=>whnf)
       refine S_SumR (n:=96) (f:=outF P s1) (aM.any rfl (by simp) (fun i hi=> ?_)) (by omega) (fun i hi=> ?_) (fun s2 hs2 hsb2=> ?_)
       · exact catP (fun i h=>by simp only [outF,if_pos h]) (fun i h=>by simp only [outF];rw [if_neg (by omega),show 64+i - 64=i by omega]) (k:=32) (fun i h=>rowAt h rfl) hi
       · by_cases h:i<64
         · simp only [outF,if_pos h];exact jQ _ _
         · simp only [outF,if_neg h];exact hsb1 _
       rw [rowL]
       conv=>whnf
       repeat (refine⟨⟨_,rfl⟩,?_⟩;conv=>whnf)
       have e9:s2=M:=by rw [hs2,hM,hs1]
       subst e9
       exact kY rfl
 · have hc:¬ 64<n:=by simp at hc;omega
   conv=>whnf
   repeat (refine⟨⟨_,rfl⟩,?_⟩;conv=>whnf)
   refine aU aH (I:=fun q l m=>∃ (j:Nat),l= [(1,.vsl 1 k c2 (aB g)),(4,.ptr 0 0 0),(6,.sl 1 0 64 64),(7,.sl 2 0 64 64),(25,.int .i64 (64:Nat)),(26,.int .i64 j)] /\
    m= [some ⟨1,32,fun _ _=> .int .u8 0⟩,some ⟨1,64,aB (fun i=>if i<j then xorB (P i) 54 else P i)⟩,some ⟨1,64,aB (fun i=>if i<j then xorB (P i) 92 else P i)⟩] /\ q+j=64) 64
    (l0:= [(1,.vsl 1 k c2 (aB g)),(4,.ptr 0 0 0),(6,.sl 1 0 64 64),(7,.sl 2 0 64 64),(25,.int .i64 (64:Nat)),(26,.int .i64 (0:Nat))]) (m0:= [some ⟨1,32,fun _ _=> .int .u8 0⟩,some ⟨1,64,aB (fun i=>if i<0 then xorB (P i) 54 else P i)⟩,some ⟨1,64,aB (fun i=>if i<0 then xorB (P i) 92 else P i)⟩]) [some 0,some 1,some 2] ⟨0,rfl,rfl,rfl⟩ ?_ ?_
   · refine .mk0 ⟨.eq _ _ rfl (.vsl _ _ _ _ rfl (fun _ _ _ _=> .int _ _)),.ptr _ _ _ _ rfl,.sl _ _ _ _ _ rfl,.sl _ _ _ _ _ rfl,Flat.i rfl,Flat.i rfl,trivial⟩ ⟨.old 0 0 _ _ rfl rfl ⟨rfl,Nat.le_refl _,fun i j hi hj=>oneU0 hj rfl⟩,.old 1 1 _ _ rfl rfl ⟨rfl,Nat.le_refl _,fun i j hi hj=> ?_⟩,.old 2 2 _ _ rfl rfl ⟨rfl,Nat.le_refl _,fun i j hi hj=> ?_⟩,trivial⟩ rfl rfl
     · have hj:j<1:=hj
       obtain rfl:j=0:=by omega
       exact keyW1 (P:=P) (f:=f) (n:=n) (a:=fun i=>xorB (P i) 54) hj (by omega) (hP' i hc) rfl
     · have hj:j<1:=hj
       obtain rfl:j=0:=by omega
       exact keyW1 (P:=P) (f:=f) (n:=n) (a:=fun i=>xorB (P i) 92) hj (by omega) (hP' i hc) rfl
   · rintro q l m ⟨j,rfl,rfl,hq⟩
     conv=>whnf
     repeat (refine⟨⟨_,rfl⟩,?_⟩;conv=>whnf)
     refine aE (fun hb=> ?_) (fun hb=> ?_)
     · have hb:j<64:=by simp at hb;omega
       conv=>whnf
       repeat (refine⟨⟨_,rfl⟩,?_⟩;conv=>whnf)
       refine aA (by simp;omega) ?_
       conv=>whnf
       repeat (refine⟨⟨_,rfl⟩,?_⟩;conv=>whnf)
       simp only [Int.toNat_natCast,Nat.zero_add]
       refine aA (by simp [cI,Nat.ble_eq];omega) ?_
       conv=>whnf
       repeat (refine⟨⟨_,rfl⟩,?_⟩;conv=>whnf)
       refine aA (by simp;omega) ?_
       conv=>whnf
       repeat (refine⟨⟨_,rfl⟩,?_⟩;conv=>whnf)
       simp only [Int.toNat_natCast,Nat.zero_add]
       refine aA (by simp [cI,Nat.ble_eq];omega) ?_
       conv=>whnf
       repeat (refine⟨⟨_,rfl⟩,?_⟩;conv=>whnf)
       refine aA (by simp;omega) ?_
       conv=>whnf
       repeat (refine⟨⟨_,rfl⟩,?_⟩;conv=>whnf)
       simp only [Int.toNat_natCast,Nat.zero_add]
       refine aA (by simp [cI,Nat.ble_eq];omega) ?_
       conv=>whnf
       repeat (refine⟨⟨_,rfl⟩,?_⟩;conv=>whnf)
       refine aA (by simp;omega) ?_
       conv=>whnf
       repeat (refine⟨⟨_,rfl⟩,?_⟩;conv=>whnf)
       simp only [Int.toNat_natCast,Nat.zero_add]
       refine aA (by simp [cI,Nat.ble_eq];omega) ?_
       conv=>whnf
       repeat (refine⟨⟨_,rfl⟩,?_⟩;conv=>whnf)
       have e5:IntKind.i64.wrap ((j:Int)+1)=((j+1:Nat):Int):=by rw [w64 (by omega) (by omega)];omega
       have e6:∀ x,dU .xor .u8 (if j<j then x else P j) 54=xorB (P j) 54:=fun x=>by rw [if_neg (Nat.lt_irrefl _)];rfl
       have e7:∀ x,dU .xor .u8 (if j<j then x else P j) 92=xorB (P j) 92:=fun x=>by rw [if_neg (Nat.lt_irrefl _)];rfl
       refine⟨q - 1,[(1,.vsl 1 k c2 (aB g)),(4,.ptr 0 0 0),(6,.sl 1 0 64 64),(7,.sl 2 0 64 64),(25,.int .i64 (64:Nat)),(26,.int .i64 ((j+1:Nat):Int))],[some ⟨1,32,fun _ _=> .int .u8 0⟩,some ⟨1,64,aB (fun i=>if i<j+1 then xorB (P i) 54 else P i)⟩,some ⟨1,64,aB (fun i=>if i<j+1 then xorB (P i) 92 else P i)⟩],[some 0,some 1,some 2],by omega,⟨j+1,rfl,rfl,by omega⟩,?_⟩
       refine .mk0 ⟨.eq _ _ rfl (.vsl _ _ _ _ rfl (fun _ _ _ _=> .int _ _)),.ptr _ _ _ _ rfl,.sl _ _ _ _ _ rfl,.sl _ _ _ _ _ rfl,Flat.i rfl,Flat.i e5,trivial⟩ ⟨.old 0 0 _ _ rfl rfl ⟨rfl,Nat.le_refl _,fun i j hi hj=> .eq _ _ rfl (.int _ _)⟩,.old 1 1 _ _ rfl rfl ⟨rfl,Nat.le_refl _,fun a b ha hb=> ?_⟩,.old 2 2 _ _ rfl rfl ⟨rfl,Nat.le_refl _,fun a b ha hb=> ?_⟩,trivial⟩ rfl rfl
       · exact updB (a:=fun i=>xorB (P i) 54) (z:=P) hb (e6 _) rfl
       · exact updB (a:=fun i=>xorB (P i) 92) (z:=P) hb (e7 _) rfl
     · have hb:j=64:=by simp at hb;omega
       subst hb
       conv=>whnf
       repeat (refine⟨⟨_,rfl⟩,?_⟩;conv=>whnf)
       refine aA (cH (by simp) rfl rfl (by omega) (by omega)) (fun cap1 hcap1=> ?_)
       conv=>whnf
       repeat (refine⟨⟨_,rfl⟩,?_⟩;conv=>whnf)
       refine S_SumR (n:=64+k) (f:=inF P g) (aM.any rfl (by simp) (fun i hi=> ?_)) (by omega) (fun i hi=> ?_) (fun s1 hs1 hsb1=> ?_)
       · exact catP (fun i h=>by simp only [inF,if_pos h]) (fun i h=>by simp only [inF];rw [if_neg (by omega),show 64+i - 64=i by omega]) (k:=k) (fun i h=>rfl) hi
       · by_cases h:i<64
         · simp only [inF,if_pos h];exact jQ _ _
         · simp only [inF,if_neg h];exact hg _ (by omega)
       rw [rowL]
       conv=>whnf
       repeat (refine⟨⟨_,rfl⟩,?_⟩;conv=>whnf)
       intro cap2 hcap2
       conv=>whnf
       repeat (refine⟨⟨_,rfl⟩,?_⟩;conv=>whnf)
       refine S_SumR (n:=96) (f:=outF P s1) (aM.any rfl (by simp) (fun i hi=> ?_)) (by omega) (fun i hi=> ?_) (fun s2 hs2 hsb2=> ?_)
       · exact catP (fun i h=>by simp only [outF,if_pos h]) (fun i h=>by simp only [outF];rw [if_neg (by omega),show 64+i - 64=i by omega]) (k:=32) (fun i h=>rowAt h rfl) hi
       · by_cases h:i<64
         · simp only [outF,if_pos h];exact jQ _ _
         · simp only [outF,if_neg h];exact hsb1 _
       rw [rowL]
       conv=>whnf
       repeat (refine⟨⟨_,rfl⟩,?_⟩;conv=>whnf)
       have e9:s2=M:=by rw [hs2,hM,hs1]
       subst e9
       exact kY rfl
theorem S_Mac {m:Mem} {x y:AV} {n k:Nat} {f g:Nat->Int} {K:AV->Mem->Prop} (hx:aM m x n f) (hy:aM m y k g) (hn:n<=900000) (hk:k<=900000) (hf:∀ i,i<n->0<=f i/\f i<=255) (hg:∀ i,i<k->0<=g i/\g i<=255)
 (h:∀ s,s=macB n f k g->(∀ i,0<=s i/\s i<=255)->K (.agg (rowL s)) m):ACall Pg vH [x,y] m K:=by
 obtain⟨c1,hl⟩:=hx
 obtain⟨c2,hl2⟩:=hy
 refine aC (S_Mac0 n c1 f k c2 g hn hk hf hg) (.cons _ _ _ _ hl (.cons _ _ _ _ hl2 .nil)) ?_
 rintro v rfl
 exact h _ rfl (sumB_lt _ _)
end Go.Proofs.YtfolpdmbpbbimaaGreat
end

section
namespace Go.Proofs.YtfolpdmbpbbimaaGreat
open Go Go.Wit
def stF (k:Nat) (f:Nat->Int) (i:Nat):Int:=macB k f 8 (beF (i / 32:Nat) 8) (i % 32)
theorem stW {nv:Bool} {σ:Nat->Option Nat} {k c i j:Nat} {f:Nat->Int} {s:Nat->Int} {h:Nat->Nat->AV} {A:AV} (hj:j<1) (hi:i<32*(c+1)) (hs:s=macB k f 8 (beF (c:Nat) 8)) (hA:A=catG (32*c) (aB (stF k f)) h i j) (hh:∀ t,t<32->h t 0= .int .u8 (s t)):RV nv σ A (aB (stF k f) i j):=by
 subst hA
 obtain rfl:j=0:=by omega
 refine RV.of ?_ (.int _ _)
 by_cases h1:i<32*c
 · rw [cY h1]
 · rw [bL (by omega),hh _ (by omega),hs]
   show _=AV.int .u8 (macB k f 8 (beF (i / 32:Nat) 8) (i % 32))
   rw [show i / 32=c by omega,show i % 32=i - 32*c by omega]
theorem S_DStream0 (k c1:Nat) (f:Nat->Int) (n:Int) (hk:k<=900000) (hf:∀ i,i<k->0<=f i/\f i<=255):
 ACall Pg lK [.vsl 1 k c1 (aB f),.int .i64 n] [] (fun v m'=>∃ n' f' x vs,v= .tup (x::vs)/\((0<=n/\n<=65536/\n'=n.toNat/\f'=stF k f/\vs= [.int .i64 0])\/(¬ (0<=n/\n<=65536)/\n'=0/\vs= [.int .i64 4]))/\RetB n' f' x m'/\Flats true vs):=by
 refine B_draw_Stream ⟨rfl,?_⟩
 have hbad:¬ (0<=n/\n<=65536)->∀ m',∃ n' f' x vs,AV.tup [.nils,.int .i64 4] = .tup (x::vs)/\((0<=n/\n<=65536/\n'=n.toNat/\f'=stF k f/\vs= [.int .i64 0])\/(¬ (0<=n/\n<=65536)/\n'=0/\vs= [.int .i64 4]))/\RetB n' f' x m'/\Flats true vs:=fun h m'=>
  ⟨0,fun _=>0,.nils,_,rfl,.inr ⟨h,rfl,rfl⟩,.inl ⟨rfl,rfl⟩,.cons _ _ (.int _ _) .nil⟩
 conv=>whnf
 repeat (refine⟨⟨[],rfl⟩,?_⟩;conv=>whnf)
 refine aE (fun h0=> ?_) (fun h0=> ?_)
 rotate_left
 · conv=>whnf
   repeat (refine⟨⟨[],rfl⟩,?_⟩;conv=>whnf)
   exact hbad (by simp at h0;omega) []
 conv=>whnf
 repeat (refine⟨⟨[],rfl⟩,?_⟩;conv=>whnf)
 refine aE (fun h1=> ?_) (fun h1=> ?_)
 · conv=>whnf
   repeat (refine⟨⟨[],rfl⟩,?_⟩;conv=>whnf)
   exact hbad (by simp at h1;omega) []
 obtain⟨N,rfl⟩ :∃ N:Nat,n=N:=⟨n.toNat,by simp at h0;omega⟩
 have hN:N<=65536:=by simp at h1;omega
 clear h0 h1 hbad
 conv=>whnf
 repeat (refine⟨⟨[],rfl⟩,?_⟩;conv=>whnf)
 refine aU aH (I:=fun q l m=>∃ (c c':Nat),l= [(0,.vsl 1 k c1 (aB f)),(1,.int .i64 N),(6,.sl 0 0 (32*c) c'),(7,.int .u64 c)] /\ m= [some ⟨1,32*c,aB (stF k f)⟩] /\ q+c=(N+31) / 32) ((N+31) / 32)
  (l0:= [(0,.vsl 1 k c1 (aB f)),(1,.int .i64 N),(6,.sl 0 0 (32*0) 0),(7,.int .u64 (0:Nat))]) (m0:= [some ⟨1,32*0,aB (stF k f)⟩]) [none] ⟨0,0,rfl,rfl,rfl⟩ ?_ ?_
 · exact .mk0 ⟨.eq _ _ rfl (.vsl _ _ _ _ rfl (fun _ _ _ _=> .int _ _)),Flat.i rfl,.nils _ _,Flat.i rfl,trivial⟩ ⟨.ph _ _ _ rfl,trivial⟩ rfl rfl
 · rintro q l m ⟨c,c',rfl,rfl,hq⟩
   conv=>whnf
   repeat (refine⟨⟨[],rfl⟩,?_⟩;conv=>whnf)
   refine aE (fun hb=> ?_) (fun hb=> ?_)
   · have hb:32*c<N:=by simp at hb;omega
     conv=>whnf
     repeat (refine⟨⟨[],rfl⟩,?_⟩;conv=>whnf)
     refine S_number (s:=8) (x:=(c:Int)) (by omega) (by decide) (fun cap2=> ?_)
     conv=>whnf
     repeat (refine⟨⟨[],rfl⟩,?_⟩;conv=>whnf)
     refine S_Mac (f:=f) (g:=beF c 8) aM.vsl (aM.sl rfl (Nat.le_refl 8) fun i hi=>by rw [Nat.zero_add]) hk (by decide) hf (fun _ _=>beF_lt) (fun s hs hsb=> ?_)
     rw [rowL]
     conv=>whnf
     repeat (refine⟨⟨[],rfl⟩,?_⟩;conv=>whnf)
     refine aA (cH (by first | rfl | simp) rfl rfl (by omega) (by omega)) (fun cap4 hcap4=> ?_)
     conv=>whnf
     repeat (refine⟨⟨[],rfl⟩,?_⟩;conv=>whnf)
     have e5:IntKind.u64.wrap ((c:Int)+1)=((c+1:Nat):Int):=by rw [wu64];omega
     refine⟨q - 1,[(0,.vsl 1 k c1 (aB f)),(1,.int .i64 N),(6,.sl 0 0 (32*(c+1)) cap4),(7,.int .u64 ((c+1:Nat):Int))],[some ⟨1,32*(c+1),aB (stF k f)⟩],[some 3],by omega,⟨c+1,cap4,rfl,rfl,by omega⟩,?_⟩
     refine .mk0 ⟨.eq _ _ rfl (.vsl _ _ _ _ rfl (fun _ _ _ _=> .int _ _)),Flat.i rfl,.sl _ _ _ _ _ rfl,Flat.i e5,trivial⟩ ⟨.old 0 3 _ _ rfl rfl ⟨rfl,Nat.le_refl _,fun i j hi hj=> ?_⟩,trivial⟩ rfl rfl
     dsimp only
     refine stW hj hi hs rfl fun t ht=> ?_
     refine rowAtE ht ?_ rfl
     omega
   · have hb:N<=32*c:=by simp at hb;omega
     conv=>whnf
     repeat (refine⟨⟨[],rfl⟩,?_⟩;conv=>whnf)
     refine aA (by simp;omega) ?_
     conv=>whnf
     repeat (refine⟨⟨[],rfl⟩,?_⟩;conv=>whnf)
     refine aA (cH rfl (decide_eq_true (by show 0+0+N<=32*c;omega)) rfl (by show (0+N)*1<=140737488355328;omega) (by show 0+N<=140737488355328;omega)) (fun cap4 hcap4=> ?_)
     conv=>whnf
     repeat (refine⟨⟨[],rfl⟩,?_⟩;conv=>whnf)
     refine⟨N,stF k f,_,_,rfl,.inl ⟨by omega,by omega,rfl,rfl,rfl⟩,.inr ⟨2,cap4,0+N,_,by rw [Nat.zero_add];rfl,rfl,by omega,fun i hi=> ?_⟩,.cons _ _ (.int _ _) .nil⟩
     dsimp only
     rw [bL (by omega)]
     show aB (stF k f) (0+0+(i - 0)) 0=_
     rw [show 0+0+(i - 0)=i by omega]
     rfl
theorem S_DStream {m:Mem} {x:AV} {K:AV->Mem->Prop} {k:Nat} {f:Nat->Int} {n:Int} (hx:aM m x k f) (hk:k<=900000) (hf:∀ i,i<k->0<=f i/\f i<=255)
 (h1:0<=n->n<=65536->∀ cap,memK (m++ [some ⟨1,n.toNat,aB (stF k f)⟩]) (K (.tup [.sl m.length 0 n.toNat cap,.int .i64 0])))
 (h2:¬ (0<=n/\n<=65536)->∀ g cap,memK (m++ [some ⟨1,0,aB g⟩]) (K (.tup [.sl m.length 0 0 cap,.int .i64 4]))):ACall Pg lK [x,.int .i64 n] m K:=by
 simp only [cU]at h1 h2
 obtain⟨cap,hl⟩:=hx
 refine sB (S_DStream0 k cap f n hk hf) (.cons _ _ _ _ hl (.cons _ _ _ _ aG .nil)) ?_
 rintro n' f' cap' vs (⟨g1,g2,rfl,rfl,rfl⟩ | ⟨h,rfl,rfl⟩)
 · exact h1 g1 g2 cap'
 · exact h2 h f' cap'
theorem S_RStream0 (k c1:Nat) (f:Nat->Int) (N:Nat) (hN:N<=65536) (hk:k<=900000) (hf:∀ i,i<k->0<=f i/\f i<=255):
 ACall Pg eG [.vsl 1 k c1 (aB f),.int .i64 N] [] (fun v m'=>∃ n' f',(n'=N/\f'=stF k f)/\RetB n' f' v m'):=by
 refine tN ⟨rfl,?_⟩
 conv=>whnf
 repeat (refine⟨⟨[],rfl⟩,?_⟩;conv=>whnf)
 refine aU aH (I:=fun q l m=>∃ (c c':Nat),l= [(0,.vsl 1 k c1 (aB f)),(1,.int .i64 N),(5,.sl 0 0 (32*c) c'),(6,.int .u64 c)] /\ m= [some ⟨1,32*c,aB (stF k f)⟩] /\ q+c=(N+31) / 32) ((N+31) / 32)
  (l0:= [(0,.vsl 1 k c1 (aB f)),(1,.int .i64 N),(5,.sl 0 0 (32*0) 0),(6,.int .u64 (0:Nat))]) (m0:= [some ⟨1,32*0,aB (stF k f)⟩]) [none] ⟨0,0,rfl,rfl,rfl⟩ ?_ ?_
 · exact .mk0 ⟨.eq _ _ rfl (.vsl _ _ _ _ rfl (fun _ _ _ _=> .int _ _)),Flat.i rfl,.nils _ _,Flat.i rfl,trivial⟩ ⟨.ph _ _ _ rfl,trivial⟩ rfl rfl
 · rintro q l m ⟨c,c',rfl,rfl,hq⟩
   conv=>whnf
   repeat (refine⟨⟨[],rfl⟩,?_⟩;conv=>whnf)
   refine aE (fun hb=> ?_) (fun hb=> ?_)
   · have hb:32*c<N:=by simp at hb;omega
     conv=>whnf
     repeat (refine⟨⟨[],rfl⟩,?_⟩;conv=>whnf)
     refine S_be (s:=8) (x:=(c:Int)) (by omega) (by decide) (fun cap2=> ?_)
     conv=>whnf
     repeat (refine⟨⟨[],rfl⟩,?_⟩;conv=>whnf)
     refine S_RMac (f:=f) (g:=beF c 8) aM.vsl (aM.sl rfl (Nat.le_refl 8) fun i hi=>by rw [Nat.zero_add]) hk (by decide) hf (fun _ _=>beF_lt) (fun s hs hsb=> ?_)
     rw [rowL]
     conv=>whnf
     repeat (refine⟨⟨[],rfl⟩,?_⟩;conv=>whnf)
     refine aA (cH (by first | rfl | simp) rfl rfl (by omega) (by omega)) (fun cap4 hcap4=> ?_)
     conv=>whnf
     repeat (refine⟨⟨[],rfl⟩,?_⟩;conv=>whnf)
     have e5:IntKind.u64.wrap ((c:Int)+1)=((c+1:Nat):Int):=by rw [wu64];omega
     refine⟨q - 1,[(0,.vsl 1 k c1 (aB f)),(1,.int .i64 N),(5,.sl 0 0 (32*(c+1)) cap4),(6,.int .u64 ((c+1:Nat):Int))],[some ⟨1,32*(c+1),aB (stF k f)⟩],[some 3],by omega,⟨c+1,cap4,rfl,rfl,by omega⟩,?_⟩
     refine .mk0 ⟨.eq _ _ rfl (.vsl _ _ _ _ rfl (fun _ _ _ _=> .int _ _)),Flat.i rfl,.sl _ _ _ _ _ rfl,Flat.i e5,trivial⟩ ⟨.old 0 3 _ _ rfl rfl ⟨rfl,Nat.le_refl _,fun i j hi hj=> ?_⟩,trivial⟩ rfl rfl
     dsimp only
     refine stW hj hi hs rfl fun t ht=> ?_
     refine rowAtE ht ?_ rfl
     omega
   · have hb:N<=32*c:=by simp at hb;omega
     conv=>whnf
     repeat (refine⟨⟨[],rfl⟩,?_⟩;conv=>whnf)
     refine aA (by simp;omega) ?_
     conv=>whnf
     repeat (refine⟨⟨[],rfl⟩,?_⟩;conv=>whnf)
     exact⟨N,_,⟨rfl,rfl⟩,.inr ⟨0,c',32*c,_,rfl,rfl,hb,fun i hi=>rfl⟩⟩
theorem S_RStream {m:Mem} {x:AV} {K:AV->Mem->Prop} {k N:Nat} {f:Nat->Int} (hx:aM m x k f) (hN:N<=65536) (hk:k<=900000) (hf:∀ i,i<k->0<=f i/\f i<=255)
 (h1:∀ cap,memK (m++ [some ⟨1,N,aB (stF k f)⟩]) (K (.sl m.length 0 N cap))):ACall Pg eG [x,.int .i64 N] m K:=by
 simp only [cU]at h1
 obtain⟨cap,hl⟩:=hx
 refine gU (S_RStream0 k cap f N hN hk hf) (.cons _ _ _ _ hl (.cons _ _ _ _ aG .nil)) ?_
 rintro n' f' cap' ⟨rfl,rfl⟩
 exact h1 cap'
end Go.Proofs.YtfolpdmbpbbimaaGreat
end

section
namespace Go.Proofs.YtfolpdmbpbbimaaGreat
open Go Go.Wit
def isD (i:Int):Bool:=decide (1<=i) && decide (i<=8)
theorem sF {m:Mem} {K:AV->Mem->Prop} {i:Int} (h:K (.bool (isD i)) m):ACall Pg kC [.int .i64 i] m K:=by
 have h0:ACall Pg kC [.int .i64 i] [] (fun v _=>v= .bool (isD i)/\Flat true v):=by
  refine B_pair_dealer ⟨rfl,?_⟩
  conv=>whnf
  repeat (refine⟨⟨[],rfl⟩,?_⟩;conv=>whnf)
  refine aE (fun h=> ?_) (fun h=> ?_)
  · conv=>whnf
    repeat (refine⟨⟨[],rfl⟩,?_⟩;conv=>whnf)
    have e:decide (1<=i)=true:=by simpa using h
    exact⟨by unfold isD;rw [e];rfl,.bool _⟩
  · conv=>whnf
    repeat (refine⟨⟨[],rfl⟩,?_⟩;conv=>whnf)
    have e:decide (1<=i)=false:=by simpa using h
    exact⟨by unfold isD;rw [e];rfl,.bool _⟩
 refine aC h0 (.cons _ _ _ _ aG .nil) ?_
 rintro v rfl
 exact h
def keyF (P:Pt Fp) (a b:Int):Nat->Int:=catB (pbN P) (pbF P) (fun i=>if i=0 then a else b)
def tnF (P:Pt Fp) (a b:Int) (f:Nat->Int) (i:Nat):Int:=xorB (f i) (stF (pbN P+2) (keyF P a b) i)
theorem keyF_in {P:Pt Fp} {a b:Int} (ha:isD a=true) (hb:isD b=true) (i:Nat) (hi:i<pbN P+2):0<=keyF P a b i/\keyF P a b i<=255:=by
 simp only [isD,Bool.and_eq_true,decide_eq_true_eq]at ha hb
 refine xH (m:=2) (fun i _=>pbF_lt P i) (fun i _=> ?_) hi
 split <;> omega
theorem isD_u8 {a:Int} (ha:isD a=true):IntKind.u8.wrap a=a:=by
 simp only [isD,Bool.and_eq_true,decide_eq_true_eq]at ha
 rw [IntKind.wrap_u8];omega
theorem rowL_at {f:Nat->Int} {i:Nat} {A:AV} (hi:i<32) (hA:A=(List.map (fun i=>AV.int .u8 (f i)) (List.range 32)).getD (i*1+0) .un):A= .int .u8 (f i):=by
 rw [hA,show i*1+0=i by omega]
 exact rowL_get hi
theorem turnW {nv:Bool} {σ:Nat->Option Nat} {T f g:Nat->Int} {k i j p q r:Nat} {x:Int} {A:AV} (hj:j<1) (hx:x=dU .xor .u8 (if q<k then T q else f q) (g r)) (hT:T k=xorB (f k) (g k)) (hp:p=k) (hq:q=k) (hr:r=k) (hA:A=updG ⟨1,32,aB (fun i=>if i<k then T i else f i)⟩ p 0 1 [.int .u8 x] i j):
 RV nv σ A (aB (fun i=>if i<k+1 then T i else f i) i j):=by
 subst hp hq hr
 exact updB (a:=T) (z:=f) hj (by rw [hx,if_neg (Nat.lt_irrefl _),hT];rfl) hA
theorem outTurn {s z:Nat->Int} {g:Nat->Nat->AV} {l:List AV} (hl:l=List.map (cellG ⟨1,32,updG ⟨1,32,g⟩ 0 0 32 (List.map (cellG ⟨1,32,aB (fun i=>if i<32 then s i else z i)⟩ 0 0) (List.range 32))⟩ 0 0) (List.range 32)):AV.agg l= .agg (rowL s):=by
 have e:List.map (cellG ⟨1,32,aB (fun i=>if i<32 then s i else z i)⟩ 0 0) (List.range 32)=(List.range 32).map fun i=> .int .u8 (s i):=by
  refine List.map_congr_left fun i hi=> ?_
  rw [rH,Nat.zero_add]
  show AV.int .u8 (if i<32 then s i else z i)=_
  rw [if_pos (List.mem_range.1 hi)]
 rw [e]at hl
 exact(kY hl).1
theorem S_turned0 (P:Pt Fp) (oP:On P) (a b:Int) (ha:isD a=true) (hb:isD b=true) (f:Nat->Int) (hf:∀ i,i<32->0<=f i/\f i<=255):
 ACall Pg dI [ptA P,.int .i64 a,.int .i64 b,.agg (rowL f)] [] (fun v _=>v= .tup [.agg (rowL (tnF P a b f)),.int .i64 0] /\ Flat true v):=by
 have hT:∀ i,tnF P a b f i=xorB (f i) (stF (pbN P+2) (keyF P a b) i):=fun _=>rfl
 generalize tnF P a b f=T at*
 have hk:=keyF_in (P:=P) ha hb
 have hn:=pbN_le P
 have hcell:∀ {n:Nat} {g h:Nat->Nat->AV},(∀ i,g i 0= .int .u8 (pbF P i))->h 0 0= .int .u8 (IntKind.u8.wrap a)->h 1 0= .int .u8 (IntKind.u8.wrap b)->∀ i,i<pbN P+2->catG (pbN P) g h i 0= .int .u8 (keyF P a b i):=fun h0 h1 h2 i hi=>by
  unfold keyF
  by_cases h:i<pbN P
  · rw [cY h,catB_lt h,h0]
  · rw [bL (by omega),catB_ge (by omega)]
    have:i - pbN P=0\/i - pbN P=1:=by omega
    rcases this with e | e
    · rw [e,h1,isD_u8 ha,if_pos rfl]
    · rw [e,h2,isD_u8 hb,if_neg (by decide)]
 unfold rowL
 refine qB ⟨rfl,?_⟩
 conv=>whnf
 repeat (refine⟨⟨_,rfl⟩,?_⟩;conv=>whnf)
 refine sF ?_
 rw [ha]
 conv=>whnf
 repeat (refine⟨⟨_,rfl⟩,?_⟩;conv=>whnf)
 refine sF ?_
 rw [hb]
 conv=>whnf
 repeat (refine⟨⟨_,rfl⟩,?_⟩;conv=>whnf)
 refine S_CBytes oP (fun cap1=> ?_)
 conv=>whnf
 repeat (refine⟨⟨_,rfl⟩,?_⟩;conv=>whnf)
 refine aA (cH (by first | rfl | simp) rfl rfl (by omega) (by omega)) (fun cap2 hcap2=> ?_)
 conv=>whnf
 repeat (refine⟨⟨_,rfl⟩,?_⟩;conv=>whnf)
 refine S_DStream (k:=pbN P+2) (f:=keyF P a b) (n:=32) (aM.any rfl (Nat.le_of_eq (Nat.zero_add _)) fun i hi=> ?_) (by omega) hk (fun _ _ cap3=> ?_) (fun h=>absurd h (by decide))
 · rw [show 0+i=i from Nat.zero_add i]
   dsimp only
   exact hcell (n:=0) (fun _=>rfl) rfl rfl i hi
 conv=>whnf
 repeat (refine⟨⟨_,rfl⟩,?_⟩;conv=>whnf)
 refine aU aH (I:=fun q l m=>∃ (j:Nat),l= [(7,.ptr 0 0 0),(8,.ptr 1 0 0),(9,.int .i64 0),(12,.sl 2 0 32 cap3),(47,.int .i64 j)] /\ m= [some ⟨1,32,aB (fun i=>if i<j then T i else f i)⟩,some ⟨1,32,fun _ _=> .int .u8 0⟩,some ⟨1,32,aB (stF (pbN P+2) (keyF P a b))⟩] /\ q+j=32) 32
  (l0:= [(7,.ptr 0 0 0),(8,.ptr 1 0 0),(9,.int .i64 0),(12,.sl 2 0 32 cap3),(47,.int .i64 (0:Nat))]) (m0:= [some ⟨1,32,aB (fun i=>if i<0 then T i else f i)⟩,some ⟨1,32,fun _ _=> .int .u8 0⟩,some ⟨1,32,aB (stF (pbN P+2) (keyF P a b))⟩]) [some 1,some 2,some 6] ⟨0,rfl,rfl,rfl⟩ ?_ ?_
 · refine .mk0 ⟨.ptr _ _ _ _ rfl,.ptr _ _ _ _ rfl,Flat.i rfl,.sl _ _ _ _ _ rfl,Flat.i rfl,trivial⟩ ⟨.old 0 1 _ _ rfl rfl ⟨rfl,Nat.le_refl _,fun i j hi hj=> ?_⟩,.old 1 2 _ _ rfl rfl ⟨rfl,Nat.le_refl _,fun i j hi hj=>oneU0 hj rfl⟩,.old 2 6 _ _ rfl rfl ⟨rfl,Nat.le_refl _,fun i j hi hj=>RV.of rfl (.int _ _)⟩,trivial⟩ rfl rfl
   have hj:j<1:=hj
   obtain rfl:j=0:=by omega
   exact zeroB (j:=0) (a:=T) (z:=f) (rowL_at hi rfl)
 · rintro q l m ⟨j,rfl,rfl,hq⟩
   conv=>whnf
   repeat (refine⟨⟨_,rfl⟩,?_⟩;conv=>whnf)
   refine aE (fun hb=> ?_) (fun hb=> ?_)
   · have hb:j<32:=by simp at hb;omega
     conv=>whnf
     repeat (refine⟨⟨_,rfl⟩,?_⟩;conv=>whnf)
     refine aA (by simp;omega) ?_
     conv=>whnf
     repeat (refine⟨⟨_,rfl⟩,?_⟩;conv=>whnf)
     refine aA (by simp [cI,Nat.ble_eq];omega) ?_
     conv=>whnf
     repeat (refine⟨⟨_,rfl⟩,?_⟩;conv=>whnf)
     refine aA (by simp;omega) ?_
     conv=>whnf
     repeat (refine⟨⟨_,rfl⟩,?_⟩;conv=>whnf)
     refine aA (by simp [cI,Nat.ble_eq];omega) ?_
     conv=>whnf
     repeat (refine⟨⟨_,rfl⟩,?_⟩;conv=>whnf)
     refine aA (by simp;omega) ?_
     conv=>whnf
     repeat (refine⟨⟨_,rfl⟩,?_⟩;conv=>whnf)
     refine aA (by simp [cI,Nat.ble_eq];omega) ?_
     conv=>whnf
     repeat (refine⟨⟨_,rfl⟩,?_⟩;conv=>whnf)
     have e5:IntKind.i64.wrap ((j:Int)+1)=((j+1:Nat):Int):=by rw [w64 (by omega) (by omega)];omega
     refine⟨q - 1,[(7,.ptr 0 0 0),(8,.ptr 1 0 0),(9,.int .i64 0),(12,.sl 2 0 32 cap3),(47,.int .i64 ((j+1:Nat):Int))],[some ⟨1,32,aB (fun i=>if i<j+1 then T i else f i)⟩,some ⟨1,32,fun _ _=> .int .u8 0⟩,some ⟨1,32,aB (stF (pbN P+2) (keyF P a b))⟩],[some 0,some 1,some 2],by omega,⟨j+1,rfl,rfl,by omega⟩,?_⟩
     exact .mk0 ⟨.ptr _ _ _ _ rfl,.ptr _ _ _ _ rfl,Flat.i rfl,.sl _ _ _ _ _ rfl,Flat.i e5,trivial⟩ ⟨.old 0 0 _ _ rfl rfl ⟨rfl,Nat.le_refl _,fun x y hx hy=>turnW hy rfl (hT j) (Nat.zero_add _) (Nat.zero_add _) (Nat.zero_add _) rfl⟩,.old 1 1 _ _ rfl rfl ⟨rfl,Nat.le_refl _,fun i j hi hj=> .eq _ _ rfl (.int _ _)⟩,.old 2 2 _ _ rfl rfl ⟨rfl,Nat.le_refl _,fun i j hi hj=>RV.of rfl (.int _ _)⟩,trivial⟩ rfl rfl
   · have hb:j=32:=by simp at hb;omega
     subst hb
     conv=>whnf
     repeat (refine⟨⟨_,rfl⟩,?_⟩;conv=>whnf)
     have e0:=outTurn (s:=T) (z:=f) (g:=fun _ _=> .int .u8 0) rfl
     refine⟨congrArg (fun x=>AV.tup [x,.int .i64 0]) e0,?_⟩
     refine Eq.mpr (congrArg (fun x=>Flat true (AV.tup [x,.int .i64 0])) e0) ?_
     exact .tup _ (.cons _ _ eF (.cons _ _ (.int _ _) .nil))
theorem S_turned {m:Mem} {K:AV->Mem->Prop} {P:Pt Fp} {a b:Int} {f:Nat->Int} (oP:On P) (ha:isD a=true) (hb:isD b=true) (hf:∀ i,i<32->0<=f i/\f i<=255) (h:∀ s,s=tnF P a b f->(∀ i,0<=s i/\s i<=255)->K (.tup [.agg (rowL s),.int .i64 0]) m):ACall Pg dI [ptA P,.int .i64 a,.int .i64 b,.agg (rowL f)] m K:=by
 refine aC (S_turned0 P oP a b ha hb f hf) (.cons _ _ _ _ (aI bK) (.cons _ _ _ _ aG (.cons _ _ _ _ aG (.cons _ _ _ _ (aI eF) .nil)))) ?_
 rintro v rfl
 exact h _ rfl fun i=>jQ _ _
theorem S_turned_no {m:Mem} {K:AV->Mem->Prop} {i:Bool} {x y:Nat} {a b:Int} {f:Nat->Int} (hab:(isD a && isD b)=false) (h:K (.tup [.agg (rowL fun _=>0),.int .i64 1]) m):ACall Pg dI [rawA i x y,.int .i64 a,.int .i64 b,.agg (rowL f)] m K:=by
  have h0:ACall Pg dI [rawA i x y,.int .i64 a,.int .i64 b,.agg (rowL f)] [] (fun v _=>v= .tup [.agg (rowL fun _=>0),.int .i64 1] /\ Flat true v):=by
    unfold rowL
    refine qB ⟨rfl,?_⟩
    conv=>whnf
    repeat (refine⟨⟨_,rfl⟩,?_⟩;conv=>whnf)
    refine sF ?_
    cases ha:isD a with
    | false =>
      conv=>whnf
      repeat (refine⟨⟨_,rfl⟩,?_⟩;conv=>whnf)
      have e0:=(kY (s:=fun _=>0) (g:=fun _ j=> [AV.int .u8 0].getD j .un) rfl).1
      refine⟨congrArg (fun x=>AV.tup [x,.int .i64 1]) e0,?_⟩
      refine Eq.mpr (congrArg (fun x=>Flat true (AV.tup [x,.int .i64 1])) e0) ?_
      exact .tup _ (.cons _ _ eF (.cons _ _ (.int _ _) .nil))
    | true =>
      rw [ha,Bool.true_and]at hab
      conv=>whnf
      repeat (refine⟨⟨_,rfl⟩,?_⟩;conv=>whnf)
      refine sF ?_
      rw [hab]
      conv=>whnf
      repeat (refine⟨⟨_,rfl⟩,?_⟩;conv=>whnf)
      have e0:=(kY (s:=fun _=>0) (g:=fun _ j=> [AV.int .u8 0].getD j .un) rfl).1
      refine⟨congrArg (fun x=>AV.tup [x,.int .i64 1]) e0,?_⟩
      refine Eq.mpr (congrArg (fun x=>Flat true (AV.tup [x,.int .i64 1])) e0) ?_
      exact .tup _ (.cons _ _ eF (.cons _ _ (.int _ _) .nil))
  refine aC h0 (.cons _ _ _ _ (aI cX) (.cons _ _ _ _ aG (.cons _ _ _ _ aG (.cons _ _ _ _ (aI eF) .nil)))) ?_
  rintro v rfl
  exact h
theorem S_turned_bad {m:Mem} {K:AV->Mem->Prop} {i:Bool} {x y:Nat} {a b:Int} {f:Nat->Int} (hx:x<w256) (hy:y<w256) (hbad:Bad i x y) (ha:isD a=true) (hb:isD b=true) (h:K (.tup [.agg (rowL fun _=>0),.int .i64 3]) m):ACall Pg dI [rawA i x y,.int .i64 a,.int .i64 b,.agg (rowL f)] m K:=by
 have h0:ACall Pg dI [rawA i x y,.int .i64 a,.int .i64 b,.agg (rowL f)] [] (fun v _=>v= .tup [.agg (rowL fun _=>0),.int .i64 3] /\ Flat true v):=by
  unfold rowL
  refine qB ⟨rfl,?_⟩
  conv=>whnf
  repeat (refine⟨⟨_,rfl⟩,?_⟩;conv=>whnf)
  refine sF ?_
  rw [ha]
  conv=>whnf
  repeat (refine⟨⟨_,rfl⟩,?_⟩;conv=>whnf)
  refine sF ?_
  rw [hb]
  conv=>whnf
  repeat (refine⟨⟨_,rfl⟩,?_⟩;conv=>whnf)
  refine S_CBytes_bad (i:=i) (x:=x) (y:=y) hx hy hbad (fun cap1 f1=> ?_)
  conv=>whnf
  repeat (refine⟨⟨_,rfl⟩,?_⟩;conv=>whnf)
  have e0:=(kY (s:=fun _=>0) (g:=fun _ j=> [AV.int .u8 0].getD j .un) rfl).1
  refine⟨congrArg (fun x=>AV.tup [x,.int .i64 3]) e0,?_⟩
  refine Eq.mpr (congrArg (fun x=>Flat true (AV.tup [x,.int .i64 3])) e0) ?_
  exact .tup _ (.cons _ _ eF (.cons _ _ (.int _ _) .nil))
 refine aC h0 (.cons _ _ _ _ (aI cX) (.cons _ _ _ _ aG (.cons _ _ _ _ aG (.cons _ _ _ _ (aI eF) .nil)))) ?_
 rintro v rfl
 exact h
end Go.Proofs.YtfolpdmbpbbimaaGreat
end

section
namespace Go.Proofs.YtfolpdmbpbbimaaGreat
open Go Go.Wit
theorem S_turnedAny {m:Mem} {K:AV->Mem->Prop} {i:Bool} {x y:Nat} {a b:Int} {f:Nat->Int} (hx:x<w256) (hy:y<w256) (hf:∀ i,i<32->0<=f i/\f i<=255)
    (h1:(isD a && isD b)=false->K (.tup [.agg (rowL fun _=>0),.int .i64 1]) m)
    (h2:isD a=true->isD b=true->Bad i x y->K (.tup [.agg (rowL fun _=>0),.int .i64 3]) m)
    (h3:isD a=true->isD b=true->∀ P s,On P->rawA i x y=ptA P->s=tnF P a b f->(∀ i,0<=s i/\s i<=255)->K (.tup [.agg (rowL s),.int .i64 0]) m):ACall Pg dI [rawA i x y,.int .i64 a,.int .i64 b,.agg (rowL f)] m K:=by
  cases hab:(isD a && isD b)with
  | false=>exact S_turned_no hab (h1 hab)
  | true =>
    rw [Bool.and_eq_true]at hab
    by_cases hP:∃ P,On P/\rawA i x y=ptA P
    · obtain⟨P,oP,e⟩:=hP
      rw [e]
      exact S_turned oP hab.1 hab.2 hf fun s hs hb=>h3 hab.1 hab.2 P s oP e hs hb
    · have hbad:Bad i x y:=fun P oP e=>hP ⟨P,oP,e⟩
      exact S_turned_bad hx hy hbad hab.1 hab.2 (h2 hab.1 hab.2 hbad)
theorem flat_st {s:Nat->Int} {e:Int}:Flat true (.tup [.agg (rowL s),.int .i64 e]):= .tup _ (.cons _ _ eF (.cons _ _ (.int _ _) .nil))
theorem flat_ne {n:Nat} {e:Int}:Flat true (.tup [numA n,.int .i64 e]):= .tup _ (.cons _ _ aL (.cons _ _ (.int _ _) .nil))
theorem S_LOfE {m:Mem} {K:AV->Mem->Prop} {x:AV} {f:Nat->Int} (hx:x= .agg (rowL f)) (hf:∀ i,i<32->0<=f i/\f i<=255) (h:∀ n,n=ofZ f->n<w256->K (numA n) m):ACall Pg mK [x] m K:=by
 subst hx;exact S_LOf hf h
theorem S_Seal0 (i:Bool) (x y:Nat) (a b:Int) (n:Nat) (hx:x<w256) (hy:y<w256):ACall Pg mI [rawA i x y,.int .i64 a,.int .i64 b,numA n] [] (fun v _=>
 (((isD a && isD b)=false/\v= .tup [.agg (rowL fun _=>0),.int .i64 1])\/(isD a=true/\isD b=true/\Bad i x y/\v= .tup [.agg (rowL fun _=>0),.int .i64 3])\/
  (isD a=true/\isD b=true/\∃ P,On P/\rawA i x y=ptA P/\v= .tup [.agg (rowL (tnF P a b (kJ n))),.int .i64 0]))/\Flat true v):=by
 refine B_pair_Seal ⟨rfl,?_⟩
 conv=>whnf
 repeat (refine⟨⟨_,rfl⟩,?_⟩;conv=>whnf)
 refine S_LBytes (a:=n) (fun s hs hb0=> ?_)
 conv=>whnf
 repeat (refine⟨⟨_,rfl⟩,?_⟩;conv=>whnf)
 refine S_turnedAny (i:=i) (x:=x) (y:=y) hx hy (fun i _=>hb0 i) (fun h=> ?_) (fun h1 h2 h3=> ?_) (fun h1 h2 P t oP eP ht hbt=> ?_)
 · rw [rowL]
   conv=>whnf
   repeat (refine⟨⟨_,rfl⟩,?_⟩;conv=>whnf)
   have e0:=(kY (s:=fun _=>0) (g:=fun _ j=> [AV.int .u8 0].getD j .un) rfl).1
   refine⟨.inl ⟨h,congrArg (fun x=>AV.tup [x,.int .i64 1]) e0⟩,?_⟩
   exact Eq.mpr (congrArg (fun x=>Flat true (AV.tup [x,.int .i64 1])) e0) flat_st
 · rw [rowL]
   conv=>whnf
   repeat (refine⟨⟨_,rfl⟩,?_⟩;conv=>whnf)
   have e0:=(kY (s:=fun _=>0) (g:=fun _ j=> [AV.int .u8 0].getD j .un) rfl).1
   refine⟨.inr (.inl ⟨h1,h2,h3,congrArg (fun x=>AV.tup [x,.int .i64 3]) e0⟩),?_⟩
   exact Eq.mpr (congrArg (fun x=>Flat true (AV.tup [x,.int .i64 3])) e0) flat_st
 · rw [rowL]
   conv=>whnf
   repeat (refine⟨⟨_,rfl⟩,?_⟩;conv=>whnf)
   have e0:=(kY (s:=t) (g:=fun _ j=> [AV.int .u8 0].getD j .un) rfl).1
   refine⟨.inr (.inr ⟨h1,h2,P,oP,eP,(congrArg (fun x=>AV.tup [x,.int .i64 0]) e0).trans (by rw [ht,hs])⟩),?_⟩
   exact Eq.mpr (congrArg (fun x=>Flat true (AV.tup [x,.int .i64 0])) e0) flat_st
theorem S_Open0 (i:Bool) (x y:Nat) (a b:Int) (f:Nat->Int) (hx:x<w256) (hy:y<w256) (hf:∀ i,i<32->0<=f i/\f i<=255):ACall Pg mJ [rawA i x y,.int .i64 a,.int .i64 b,.agg (rowL f)] [] (fun v _=>
 (((isD a && isD b)=false/\v= .tup [numA 0,.int .i64 1])\/(isD a=true/\isD b=true/\Bad i x y/\v= .tup [numA 0,.int .i64 3])\/
  (isD a=true/\isD b=true/\∃ P,On P/\rawA i x y=ptA P/\v= .tup [numA (ofZ (tnF P a b f)),.int .i64 0]))/\Flat true v):=by
 have er:AV.agg (rowL f)= .agg ((List.range 32).map fun i=> .int .u8 (f i)):=rfl
 rw [er]
 refine B_pair_Open ⟨rfl,?_⟩
 conv=>whnf
 repeat (refine⟨⟨_,rfl⟩,?_⟩;conv=>whnf)
 refine S_turnedAny (i:=i) (x:=x) (y:=y) (f:=f) hx hy hf (fun h=> ?_) (fun h1 h2 h3=> ?_) (fun h1 h2 P t oP eP ht hbt=> ?_)
 · rw [rowL]
   conv=>whnf
   repeat (refine⟨⟨_,rfl⟩,?_⟩;conv=>whnf)
   exact⟨.inl ⟨h,rfl⟩,flat_ne (n:=0)⟩
 · rw [rowL]
   conv=>whnf
   repeat (refine⟨⟨_,rfl⟩,?_⟩;conv=>whnf)
   exact⟨.inr (.inl ⟨h1,h2,h3,rfl⟩),flat_ne (n:=0)⟩
 · rw [rowL]
   conv=>whnf
   repeat (refine⟨⟨_,rfl⟩,?_⟩;conv=>whnf)
   have e0:=(kY (s:=t) (g:=fun _ j=> [AV.int .u8 0].getD j .un) rfl).1
   refine S_LOfE e0 (fun i _=>hbt i) (fun n hn hn1=> ?_)
   rw [ht]at hn
   conv=>whnf
   repeat (refine⟨⟨_,rfl⟩,?_⟩;conv=>whnf)
   refine⟨.inr (.inr ⟨h1,h2,P,oP,eP,by rw [<- hn];rfl⟩),flat_ne (n:=n)⟩
theorem S_Seal {m:Mem} {K:AV->Mem->Prop} {i:Bool} {x y n:Nat} {a b:Int} (hx:x<w256) (hy:y<w256)
 (h1:(isD a && isD b)=false->K (.tup [.agg (rowL fun _=>0),.int .i64 1]) m)
 (h2:isD a=true->isD b=true->Bad i x y->K (.tup [.agg (rowL fun _=>0),.int .i64 3]) m)
 (h3:isD a=true->isD b=true->∀ P s,On P->rawA i x y=ptA P->s=tnF P a b (kJ n)->(∀ i,0<=s i/\s i<=255)->K (.tup [.agg (rowL s),.int .i64 0]) m):ACall Pg mI [rawA i x y,.int .i64 a,.int .i64 b,numA n] m K:=by
 refine aC (S_Seal0 i x y a b n hx hy) (.cons _ _ _ _ (aI cX) (.cons _ _ _ _ aG (.cons _ _ _ _ aG (.cons _ _ _ _ aF .nil)))) ?_
 rintro v (⟨h,rfl⟩ | ⟨g1,g2,g3,rfl⟩ | ⟨g1,g2,P,oP,e,rfl⟩)
 · exact h1 h
 · exact h2 g1 g2 g3
 · exact h3 g1 g2 P _ oP e rfl fun i=>jQ _ _
theorem S_Open {m:Mem} {K:AV->Mem->Prop} {i:Bool} {x y:Nat} {a b:Int} {f:Nat->Int} (hx:x<w256) (hy:y<w256) (hf:∀ i,i<32->0<=f i/\f i<=255)
 (h1:(isD a && isD b)=false->K (.tup [numA 0,.int .i64 1]) m)
 (h2:isD a=true->isD b=true->Bad i x y->K (.tup [numA 0,.int .i64 3]) m)
 (h3:isD a=true->isD b=true->∀ P n,On P->rawA i x y=ptA P->n=ofZ (tnF P a b f)->K (.tup [numA n,.int .i64 0]) m):ACall Pg mJ [rawA i x y,.int .i64 a,.int .i64 b,.agg (rowL f)] m K:=by
 refine aC (S_Open0 i x y a b f hx hy hf) (.cons _ _ _ _ (aI cX) (.cons _ _ _ _ aG (.cons _ _ _ _ aG (.cons _ _ _ _ (aI eF) .nil)))) ?_
 rintro v (⟨h,rfl⟩ | ⟨g1,g2,g3,rfl⟩ | ⟨g1,g2,P,oP,e,rfl⟩)
 · exact h1 h
 · exact h2 g1 g2 g3
 · exact h3 g1 g2 P _ oP e rfl
theorem S_RStreamE {m:Mem} {x:AV} {K:AV->Mem->Prop} {k k2 N:Nat} (e:k2=k) {f:Nat->Int} (hx:aM m x k2 f) (hN:N<=65536) (hk:k<=900000) (hf:∀ i,i<k->0<=f i/\f i<=255)
 (h1:∀ cap,memK (m++ [some ⟨1,N,aB (stF k f)⟩]) (K (.sl m.length 0 N cap))):ACall Pg eG [x,.int .i64 N] m K:=by
 subst e;exact S_RStream hx hN hk hf h1
theorem key_cells {P:Pt Fp} {a b:Int} (ha:isD a=true) (hb:isD b=true) {g h:Nat->Nat->AV} {i:Nat} (hi:i<pbN P+2) (hg:∀ i,i<pbN P->g i 0= .int .u8 (pbF P i)) (h0:h 0 0= .int .u8 (IntKind.u8.wrap a)) (h1:h 1 0= .int .u8 (IntKind.u8.wrap b)) {z:Nat->Nat->AV}:catG (0+pbN P) (catG 0 z g) h i 0= .int .u8 (keyF P a b i):=by
 unfold keyF
 rw [Nat.zero_add]
 by_cases h:i<pbN P
 · rw [cY h,catB_lt h,bL (Nat.zero_le _),Nat.sub_zero,hg i h]
 · rw [bL (by omega),catB_ge (by omega)]
   have:i - pbN P=0\/i - pbN P=1:=by omega
   rcases this with e | e
   · rw [e,h0,isD_u8 ha,if_pos rfl]
   · rw [e,h1,isD_u8 hb,if_neg (by decide)]
theorem S_Rstr0 (P:Pt Fp) (a b:Int) (ha:isD a=true) (hb:isD b=true):ACall Pg gE [ptA P,.int .i64 a,.int .i64 b] [] (fun v m'=>∃ n' f',(n'=32/\f'=stF (pbN P+2) (keyF P a b))/\RetB n' f' v m'):=by
 have hk:=keyF_in (P:=P) ha hb
 have hn:=pbN_le P
 refine tJ ⟨rfl,?_⟩
 conv=>whnf
 repeat (refine⟨⟨_,rfl⟩,?_⟩;conv=>whnf)
 refine S_PBytes (P:=P) (fun cap1=> ?_)
 conv=>whnf
 repeat (refine⟨⟨_,rfl⟩,?_⟩;conv=>whnf)
 refine aA (cH (by first | rfl | simp) (decide_eq_true (by show 0+pbN P<=pbN P;omega)) rfl (by omega) (by omega)) (fun cap2 hcap2=> ?_)
 conv=>whnf
 repeat (refine⟨⟨_,rfl⟩,?_⟩;conv=>whnf)
 refine aA (cH (by first | rfl | simp) rfl rfl (by omega) (by omega)) (fun cap3 hcap3=> ?_)
 conv=>whnf
 repeat (refine⟨⟨_,rfl⟩,?_⟩;conv=>whnf)
 refine S_RStreamE (k:=pbN P+2) (k2:=0+pbN P+2) (by omega) (f:=keyF P a b) (N:=32) (aM.any rfl (Nat.le_of_eq (Nat.zero_add _)) fun i hi=> ?_) (by decide) (by omega) hk (fun cap4=> ?_)
 · rw [show 0+i=i from Nat.zero_add i]
   dsimp only
   exact key_cells ha hb (by omega) (fun i hi=>by show AV.int .u8 (pbF P (0+i))=_;rw [Nat.zero_add]) rfl rfl
 conv=>whnf
 repeat (refine⟨⟨_,rfl⟩,?_⟩;conv=>whnf)
 exact⟨32,_,⟨rfl,rfl⟩,.inr ⟨_,cap4,32,_,rfl,rfl,Nat.le_refl _,fun i hi=>rfl⟩⟩
theorem S_Rstr {m:Mem} {K:AV->Mem->Prop} {P:Pt Fp} {a b:Int} (ha:isD a=true) (hb:isD b=true) (h1:∀ cap,memK (m++ [some ⟨1,32,aB (stF (pbN P+2) (keyF P a b))⟩]) (K (.sl m.length 0 32 cap))):ACall Pg gE [ptA P,.int .i64 a,.int .i64 b] m K:=by
 simp only [cU]at h1
 refine gU (S_Rstr0 P a b ha hb) (.cons _ _ _ _ (aI bK) (.cons _ _ _ _ aG (.cons _ _ _ _ aG .nil))) ?_
 rintro n' f' cap' ⟨rfl,rfl⟩
 exact h1 cap'
theorem S_RSeal0 (P:Pt Fp) (a b:Int) (n:Nat) (ha:isD a=true) (hb:isD b=true):ACall Pg fR [ptA P,.int .i64 a,.int .i64 b,numA n] [] (fun v _=>v= .agg (rowL (tnF P a b (kJ n)))/\Flat true v):=by
 have hT:∀ i,tnF P a b (kJ n) i=xorB (kJ n i) (stF (pbN P+2) (keyF P a b) i):=fun _=>rfl
 generalize tnF P a b (kJ n)=T at*
 refine xP ⟨rfl,?_⟩
 conv=>whnf
 repeat (refine⟨⟨_,rfl⟩,?_⟩;conv=>whnf)
 refine S_RBytes (a:=n) (fun s hs hb0=> ?_)
 rw [<- hs]at hT
 rw [rowL]
 conv=>whnf
 repeat (refine⟨⟨_,rfl⟩,?_⟩;conv=>whnf)
 refine S_Rstr (P:=P) ha hb (fun cap3=> ?_)
 conv=>whnf
 repeat (refine⟨⟨_,rfl⟩,?_⟩;conv=>whnf)
 refine aU aH (I:=fun q l m=>∃ (j:Nat),l= [(8,.ptr 1 0 0),(9,.ptr 0 0 0),(10,.sl 2 0 32 cap3),(11,.int .i64 j)] /\ m= [some ⟨1,32,aB (fun i=>if i<j then T i else s i)⟩,some ⟨1,32,fun _ _=> .int .u8 0⟩,some ⟨1,32,aB (stF (pbN P+2) (keyF P a b))⟩] /\ q+j=32) 32
  (l0:= [(8,.ptr 1 0 0),(9,.ptr 0 0 0),(10,.sl 2 0 32 cap3),(11,.int .i64 (0:Nat))]) (m0:= [some ⟨1,32,aB (fun i=>if i<0 then T i else s i)⟩,some ⟨1,32,fun _ _=> .int .u8 0⟩,some ⟨1,32,aB (stF (pbN P+2) (keyF P a b))⟩]) [some 3,some 2,some 4] ⟨0,rfl,rfl,rfl⟩ ?_ ?_
 · refine .mk0 ⟨.ptr _ _ _ _ rfl,.ptr _ _ _ _ rfl,.sl _ _ _ _ _ rfl,Flat.i rfl,trivial⟩ ⟨.old 0 3 _ _ rfl rfl ⟨rfl,Nat.le_refl _,fun i j hi hj=> ?_⟩,.old 1 2 _ _ rfl rfl ⟨rfl,Nat.le_refl _,fun i j hi hj=>oneU0 hj rfl⟩,.old 2 4 _ _ rfl rfl ⟨rfl,Nat.le_refl _,fun i j hi hj=>RV.of rfl (.int _ _)⟩,trivial⟩ rfl rfl
   have hj:j<1:=hj
   obtain rfl:j=0:=by omega
   exact zeroB (j:=0) (a:=T) (z:=s) (rowAtE (p:=i) hi rfl rfl)
 · rintro q l m ⟨j,rfl,rfl,hq⟩
   conv=>whnf
   repeat (refine⟨⟨_,rfl⟩,?_⟩;conv=>whnf)
   refine aE (fun hb=> ?_) (fun hb=> ?_)
   · have hb:j<32:=by simp at hb;omega
     conv=>whnf
     repeat (refine⟨⟨_,rfl⟩,?_⟩;conv=>whnf)
     refine aA (by simp;omega) ?_
     conv=>whnf
     repeat (refine⟨⟨_,rfl⟩,?_⟩;conv=>whnf)
     refine aA (by simp [cI,Nat.ble_eq];omega) ?_
     conv=>whnf
     repeat (refine⟨⟨_,rfl⟩,?_⟩;conv=>whnf)
     refine aA (by simp;omega) ?_
     conv=>whnf
     repeat (refine⟨⟨_,rfl⟩,?_⟩;conv=>whnf)
     refine aA (by simp [cI,Nat.ble_eq];omega) ?_
     conv=>whnf
     repeat (refine⟨⟨_,rfl⟩,?_⟩;conv=>whnf)
     refine aA (by simp;omega) ?_
     conv=>whnf
     repeat (refine⟨⟨_,rfl⟩,?_⟩;conv=>whnf)
     refine aA (by simp [cI,Nat.ble_eq];omega) ?_
     conv=>whnf
     repeat (refine⟨⟨_,rfl⟩,?_⟩;conv=>whnf)
     have e5:IntKind.i64.wrap ((j:Int)+1)=((j+1:Nat):Int):=by rw [w64 (by omega) (by omega)];omega
     refine⟨q - 1,[(8,.ptr 1 0 0),(9,.ptr 0 0 0),(10,.sl 2 0 32 cap3),(11,.int .i64 ((j+1:Nat):Int))],[some ⟨1,32,aB (fun i=>if i<j+1 then T i else s i)⟩,some ⟨1,32,fun _ _=> .int .u8 0⟩,some ⟨1,32,aB (stF (pbN P+2) (keyF P a b))⟩],[some 0,some 1,some 2],by omega,⟨j+1,rfl,rfl,by omega⟩,?_⟩
     exact .mk0 ⟨.ptr _ _ _ _ rfl,.ptr _ _ _ _ rfl,.sl _ _ _ _ _ rfl,Flat.i e5,trivial⟩ ⟨.old 0 0 _ _ rfl rfl ⟨rfl,Nat.le_refl _,fun x y hx hy=>turnW hy rfl (hT j) (Nat.zero_add _) (Nat.zero_add _) (Nat.zero_add _) rfl⟩,.old 1 1 _ _ rfl rfl ⟨rfl,Nat.le_refl _,fun i j hi hj=> .eq _ _ rfl (.int _ _)⟩,.old 2 2 _ _ rfl rfl ⟨rfl,Nat.le_refl _,fun i j hi hj=>RV.of rfl (.int _ _)⟩,trivial⟩ rfl rfl
   · have hb:j=32:=by simp at hb;omega
     subst hb
     conv=>whnf
     repeat (refine⟨⟨_,rfl⟩,?_⟩;conv=>whnf)
     have e0:=outTurn (s:=T) (z:=s) (g:=fun _ _=> .int .u8 0) rfl
     refine⟨e0,?_⟩
     exact Eq.mpr (congrArg (Flat true) e0) eF
theorem ofZ_congr' {f g:Nat->Int} (h:∀ i,i<32->f i=g i):ofZ f=ofZ g:=by
 unfold ofZ wV
 rw [h (24+0) (by decide),h (24+1) (by decide),h (24+2) (by decide),h (24+3) (by decide),h (24+4) (by decide),h (24+5) (by decide),h (24+6) (by decide),h (24+7) (by decide),h (16+0) (by decide),h (16+1) (by decide),h (16+2) (by decide),h (16+3) (by decide),h (16+4) (by decide),h (16+5) (by decide),h (16+6) (by decide),h (16+7) (by decide),h (8+0) (by decide),h (8+1) (by decide),h (8+2) (by decide),h (8+3) (by decide),h (8+4) (by decide),h (8+5) (by decide),h (8+6) (by decide),h (8+7) (by decide),h (0+0) (by decide),h (0+1) (by decide),h (0+2) (by decide),h (0+3) (by decide),h (0+4) (by decide),h (0+5) (by decide),h (0+6) (by decide),h (0+7) (by decide)]
theorem S_RSeal {m:Mem} {K:AV->Mem->Prop} {P:Pt Fp} {a b:Int} {n:Nat} (ha:isD a=true) (hb:isD b=true) (h:∀ s,s=tnF P a b (kJ n)->(∀ i,0<=s i/\s i<=255)->K (.agg (rowL s)) m):ACall Pg fR [ptA P,.int .i64 a,.int .i64 b,numA n] m K:=by
 refine aC (S_RSeal0 P a b n ha hb) (.cons _ _ _ _ (aI bK) (.cons _ _ _ _ aG (.cons _ _ _ _ aG (.cons _ _ _ _ aF .nil)))) ?_
 rintro v rfl
 exact h _ rfl fun i=>jQ _ _
theorem tnF_congr {P:Pt Fp} {a b:Int} {f g:Nat->Int} {i:Nat} (h:f i=g i):tnF P a b f i=tnF P a b g i:=by unfold tnF;rw [h]
theorem S_ROpen0 (P:Pt Fp) (a b:Int) (f:Nat->Int) (ha:isD a=true) (hb:isD b=true) (hf:∀ i,i<32->0<=f i/\f i<=255):ACall Pg dY [ptA P,.int .i64 a,.int .i64 b,.agg (rowL f)] [] (fun v _=>v=numA (ofZ (tnF P a b f))/\Flat true v):=by
 have er:AV.agg (rowL f)= .agg ((List.range 32).map fun i=> .int .u8 (f i)):=rfl
 rw [er]
 refine xQ ⟨rfl,?_⟩
 conv=>whnf
 repeat (refine⟨⟨_,rfl⟩,?_⟩;conv=>whnf)
 refine S_ROf (f:=f) hf (fun n hn hn1=> ?_)
 conv=>whnf
 repeat (refine⟨⟨_,rfl⟩,?_⟩;conv=>whnf)
 refine S_RSeal (P:=P) (n:=n) ha hb (fun s hs hbs=> ?_)
 conv=>whnf
 repeat (refine⟨⟨_,rfl⟩,?_⟩;conv=>whnf)
 refine S_ROf (f:=s) (fun i _=>hbs i) (fun k hk hk1=> ?_)
 have e:ofZ (tnF P a b f)=k:=by
  rw [hk,hs]
  exact ofZ_congr' fun i hi=>tnF_congr (by rw [hn];exact(byteZ_ofZ hf hi).symm)
 rw [e]
 conv=>whnf
 repeat (refine⟨⟨_,rfl⟩,?_⟩;conv=>whnf)
 exact⟨rfl,aL⟩
theorem S_ROpen {m:Mem} {K:AV->Mem->Prop} {P:Pt Fp} {a b:Int} {f:Nat->Int} (ha:isD a=true) (hb:isD b=true) (hf:∀ i,i<32->0<=f i/\f i<=255) (h:∀ n,n=ofZ (tnF P a b f)->K (numA n) m):ACall Pg dY [ptA P,.int .i64 a,.int .i64 b,.agg (rowL f)] m K:=by
 refine aC (S_ROpen0 P a b f ha hb hf) (.cons _ _ _ _ (aI bK) (.cons _ _ _ _ aG (.cons _ _ _ _ aG (.cons _ _ _ _ (aI eF) .nil)))) ?_
 rintro v rfl
 exact h _ rfl
end Go.Proofs.YtfolpdmbpbbimaaGreat
end

section
namespace Go.Proofs.YtfolpdmbpbbimaaGreat
open Go Go.Wit
theorem flat_no_e {e:Int}:Flat true (.tup [noPt,.int .i64 e]):= .tup _ (.cons _ _ (flat_no true) (.cons _ _ (.int _ _) .nil))
theorem flat_be {b:Bool} {e:Int}:Flat true (.tup [.bool b,.int .i64 e]):= .tup _ (.cons _ _ (.bool _) (.cons _ _ (.int _ _) .nil))
theorem S_At {m:Mem} {a:AV} {K:AV->Mem->Prop} {n x:Nat} {P:Nat->Pt Fp} (ha:aO m a 9 n (ptsG P)) (hx:x<w256) (oP:∀ i,i<n->On (P i)) (hn:n<=64) (h:∀ R,On R->R=polyP P x n->K (.tup [ptA R,.int .i64 0]) m):ACall Pg pI [a,numA x] m K:=by
 obtain⟨cap,hl⟩:=ha
 refine aC (S_At0 n cap P x hx oP hn) (.cons _ _ _ _ hl (.cons _ _ _ _ aF .nil)) ?_
 rintro v rfl
 exact h _ (On.polyP oP) rfl
theorem S_At_bad {m:Mem} {a:AV} {K:AV->Mem->Prop} {n x:Nat} {I:Nat->Bool} {X Y:Nat->Nat} (ha:aO m a 9 n (cW I X Y)) (hX:∀ i,i<n->X i<w256) (hY:∀ i,i<n->Y i<w256) {b:Nat} (hbn:b<n) (hb:Bad (I b) (X b) (Y b)) (hg:∀ k,k<b->∃ P,On P/\rawA (I k) (X k) (Y k)=ptA P) (hn:n<=64) (h:K (.tup [noPt,.int .i64 3]) m):ACall Pg pI [a,numA x] m K:=by
 obtain⟨cap,hl⟩:=ha
 have h0:ACall Pg pI [.vsl 9 n cap (cW I X Y),numA x] [] (fun v _=>v= .tup [noPt,.int .i64 3] /\ Flat true v):=by
  refine B_feld_At ⟨rfl,?_⟩
  conv=>whnf
  repeat (refine⟨⟨[],rfl⟩,?_⟩;conv=>whnf)
  refine aE (fun h=> ?_) (fun h=> ?_)
  · exfalso;simp at h;omega
  conv=>whnf
  repeat (refine⟨⟨[],rfl⟩,?_⟩;conv=>whnf)
  refine S_points_bad (I:=I) (X:=X) (Y:=Y) (aO.vsl fun _ _ _ _=>bR) hX hY hbn hb hg (by omega) ?_
  conv=>whnf
  repeat (refine⟨⟨[],rfl⟩,?_⟩;conv=>whnf)
  exact⟨rfl,flat_no_e⟩
 refine aC h0 (.cons _ _ _ _ hl (.cons _ _ _ _ aF .nil)) ?_
 rintro v rfl
 exact h
def eq9 (i:Bool) (x y:Nat) (j:Bool) (u v:Nat):Bool:=(i == j) && (lim x 0 == lim u 0 && (lim x 1 == lim u 1 && (lim x 2 == lim u 2 && (lim x 3 == lim u 3 && (lim y 0 == lim v 0 && (lim y 1 == lim v 1 && (lim y 2 == lim v 2 && (lim y 3 == lim v 3 && true))))))))
theorem eq9_iff {i j:Bool} {x y u v:Nat} (hx:x<w256) (hy:y<w256) (hu:u<w256) (hv:v<w256):eq9 i x y j u v=decide (i=j/\x=u/\y=v):=by
 have e:eq9 i x y j u v=((i == j) && (eqX x u && eqX y v)):=by
  unfold eq9 eqX
  simp [Bool.and_assoc]
 rw [e,pV hx hu,pV hy hv]
 cases i <;> cases j <;> simp
theorem eq9_pt {P Q:Pt Fp}:eq9 (isI P) (xN P) (yN P) (isI Q) (xN Q) (yN Q)=true ↔ P=Q:=by
 rw [eq9_iff (xN_w P) (yN_w P) (xN_w Q) (yN_w Q),decide_eq_true_iff]
 constructor
 · rintro⟨a,b,c⟩;exact lV (by rw [ptA,ptA,a,b,c])
 · rintro rfl;exact⟨rfl,rfl,rfl⟩
theorem S_Fits0 (n cap:Nat) (P:Nat->Pt Fp) (x y:Nat) (hx:x<w256) (hy:y<w256) (oP:∀ i,i<n->On (P i)) (hn:n<=64):ACall Pg iF [.vsl 9 n cap (ptsG P),numA x,numA y] [] (fun v _=>((nmul y gG=polyP P x n/\v= .tup [.bool true,.int .i64 0])\/(nmul y gG ≠ polyP P x n/\v= .tup [.bool false,.int .i64 0]))/\Flat true v):=by
 refine B_feld_Fits ⟨rfl,?_⟩
 conv=>whnf
 repeat (refine⟨⟨[],rfl⟩,?_⟩;conv=>whnf)
 refine S_At (P:=P) (aO.vsl fun _ _ _ _=>bN) hx oP hn (fun R oR hR=> ?_)
 conv=>whnf
 repeat (refine⟨⟨[],rfl⟩,?_⟩;conv=>whnf)
 refine T_Base hy (fun Q oQ hQ=> ?_)
 conv=>whnf
 repeat (refine⟨⟨[],rfl⟩,?_⟩;conv=>whnf)
 rw [<- hQ,<- hR]
 show ((Q=R/\AV.tup [.bool (eq9 (isI Q) (xN Q) (yN Q) (isI R) (xN R) (yN R)),.int .i64 0] = .tup [.bool true,.int .i64 0])\/(Q ≠ R/\AV.tup [.bool (eq9 (isI Q) (xN Q) (yN Q) (isI R) (xN R) (yN R)),.int .i64 0] = .tup [.bool false,.int .i64 0]))/\Flat true (AV.tup [.bool (eq9 (isI Q) (xN Q) (yN Q) (isI R) (xN R) (yN R)),.int .i64 0])
 refine⟨?_,flat_be⟩
 by_cases e:Q=R
 · exact .inl ⟨e,by rw [eq9_pt.2 e]⟩
 · exact .inr ⟨e,by rw [show eq9 (isI Q) (xN Q) (yN Q) (isI R) (xN R) (yN R)=false by rw [Bool.eq_false_iff];exact fun h=>e (eq9_pt.1 h)]⟩
theorem S_Fits {m:Mem} {a:AV} {K:AV->Mem->Prop} {n x y:Nat} {P:Nat->Pt Fp} (ha:aO m a 9 n (ptsG P)) (hx:x<w256) (hy:y<w256) (oP:∀ i,i<n->On (P i)) (hn:n<=64) (h1:nmul y gG=polyP P x n->K (.tup [.bool true,.int .i64 0]) m) (h2:nmul y gG ≠ polyP P x n->K (.tup [.bool false,.int .i64 0]) m):ACall Pg iF [a,numA x,numA y] m K:=by
 obtain⟨cap,hl⟩:=ha
 refine aC (S_Fits0 n cap P x y hx hy oP hn) (.cons _ _ _ _ hl (.cons _ _ _ _ aF (.cons _ _ _ _ aF .nil))) ?_
 rintro v (⟨e,rfl⟩ | ⟨e,rfl⟩)
 · exact h1 e
 · exact h2 e
theorem S_Fits_bad {m:Mem} {a:AV} {K:AV->Mem->Prop} {n x y:Nat} {I:Nat->Bool} {X Y:Nat->Nat} (ha:aO m a 9 n (cW I X Y)) (hX:∀ i,i<n->X i<w256) (hY:∀ i,i<n->Y i<w256) {b:Nat} (hbn:b<n) (hb:Bad (I b) (X b) (Y b)) (hg:∀ k,k<b->∃ P,On P/\rawA (I k) (X k) (Y k)=ptA P) (hn:n<=64) (h:K (.tup [.bool false,.int .i64 3]) m):ACall Pg iF [a,numA x,numA y] m K:=by
 obtain⟨cap,hl⟩:=ha
 have h0:ACall Pg iF [.vsl 9 n cap (cW I X Y),numA x,numA y] [] (fun v _=>v= .tup [.bool false,.int .i64 3] /\ Flat true v):=by
  refine B_feld_Fits ⟨rfl,?_⟩
  conv=>whnf
  repeat (refine⟨⟨[],rfl⟩,?_⟩;conv=>whnf)
  refine S_At_bad (I:=I) (X:=X) (Y:=Y) (aO.vsl fun _ _ _ _=>bR) hX hY hbn hb hg hn ?_
  conv=>whnf
  repeat (refine⟨⟨[],rfl⟩,?_⟩;conv=>whnf)
  exact⟨rfl,flat_be⟩
 refine aC h0 (.cons _ _ _ _ hl (.cons _ _ _ _ aF (.cons _ _ _ _ aF .nil))) ?_
 rintro v rfl
 exact h
def sumN (c:Nat->Nat) (x:Nat):Nat->Nat:=Nat.rec (motive:=fun _=>Nat) 0 (fun k ih=>ih+x ^ k*c k)
def horN (c:Nat->Nat) (x n:Nat):Nat->Nat:=Nat.rec (motive:=fun _=>Nat) 0 (fun t ih=>ih*x+c (n - 1 - t))
theorem sumN_succ {c:Nat->Nat} {x k:Nat}:sumN c x (k+1)=sumN c x k+x ^ k*c k:=rfl
theorem horN_succ {c:Nat->Nat} {x n t:Nat}:horN c x n (t+1)=horN c x n t*x+c (n - 1 - t):=rfl
theorem horN_sum {c:Nat->Nat} {x n:Nat}:∀ t,t<=n->sumN c x (n - t)+x ^ (n - t)*horN c x n t=sumN c x n
  | 0,_=>by show sumN c x n+_*0=_;rw [Nat.mul_zero,Nat.add_zero]
  | t + 1, h => by
    have ih:=horN_sum t (c:=c) (x:=x) (n:=n) (by omega)
    have e:n - t=n - (t+1)+1:=by omega
    rw [e,sumN_succ,Nat.pow_succ]at ih
    rw [<- ih,horN_succ,show n - 1 - t=n - (t+1) by omega,Nat.mul_add,Nat.mul_assoc,Nat.mul_comm x (horN c x n t),Nat.add_assoc,Nat.add_comm (x ^ (n - (t+1))*c (n - (t+1)))]
theorem horN_all {c:Nat->Nat} {x n:Nat}:horN c x n n=sumN c x n:=by
 have:=horN_sum (c:=c) (x:=x) (n:=n) n (Nat.le_refl _)
 rw [Nat.sub_self,Nat.pow_zero,Nat.one_mul]at this
 rw [<- this];show _=0+_;rw [Nat.zero_add]
theorem S_pmul {m:Mem} {K:AV->Mem->Prop} {a b:Nat} (ha:a<w256) (hb:b<w256) (h:∀ r,r=a*b % nN->K (numA r) m):ACall Pg sI [numA a,numA b] m K:=by
 have h0:ACall Pg sI [numA a,numA b] [] (fun v _=>v=numA (a*b % nN)/\Flat true v):=by
  refine B_poly_mul ⟨rfl,?_⟩
  conv=>whnf
  repeat (refine⟨⟨[],rfl⟩,?_⟩;conv=>whnf)
  refine S_FMul_1 ha hb (fun r hr=> ?_)
  conv=>whnf
  repeat (refine⟨⟨[],rfl⟩,?_⟩;conv=>whnf)
  rw [<- hr]
  exact⟨rfl,aL⟩
 refine aC h0 (.cons _ _ _ _ aF (.cons _ _ _ _ aF .nil)) ?_
 rintro v rfl
 exact h _ rfl
theorem S_polyadd {m:Mem} {K:AV->Mem->Prop} {a b:Nat} (ha:a<w256) (hb:b<w256) (h:∀ r,r=(a+b) % nN->K (numA r) m):ACall Pg sJ [numA a,numA b] m K:=by
 have h0:ACall Pg sJ [numA a,numA b] [] (fun v _=>v=numA ((a+b) % nN)/\Flat true v):=by
  refine B_poly_add ⟨rfl,?_⟩
  conv=>whnf
  repeat (refine⟨⟨[],rfl⟩,?_⟩;conv=>whnf)
  refine aCg ha hb (fun r hr=> ?_)
  conv=>whnf
  repeat (refine⟨⟨[],rfl⟩,?_⟩;conv=>whnf)
  rw [<- hr]
  exact⟨rfl,aL⟩
 refine aC h0 (.cons _ _ _ _ aF (.cons _ _ _ _ aF .nil)) ?_
 rintro v rfl
 exact h _ rfl
theorem mod_hor {a x c n:Nat}:(a % n*x % n+c) % n=(a*x+c) % n:=by
 rw [Nat.mod_mul_mod,Nat.mod_add_mod]
theorem S_Eval0 (n cap:Nat) (c:Nat->Nat) (x:Nat) (hx:x<w256) (hc:∀ i,i<n->c i<w256) (hn:n<=140737488355328):ACall Pg mH [.vsl 4 n cap (cV c),numA x] [] (fun v _=>v=numA (sumN c x n % nN)/\Flat true v):=by
 refine B_poly_Eval ⟨rfl,?_⟩
 conv=>whnf
 repeat (refine⟨⟨[],rfl⟩,?_⟩;conv=>whnf)
 have e10:IntKind.i64.wrap ((n:Int) - 1)=(n:Int) - 1:=w64 (by omega) (by omega)
 refine aU aH (I:=fun q l m=>∃ (v:Int) (t o:Nat),l= [(0,.vsl 4 n cap (cV c)),(3,.ptr 0 0 0),(4,.ptr 1 0 0),(5,.ptr 2 0 0),(6,.int .i64 v)] /\
  m= [some ⟨1,4,lstG 1 (numL x)⟩,some ⟨1,4,lstG 1 (numL 0)⟩,some ⟨1,4,lstG 1 (numL o)⟩] /\ q+t=n/\v=(q:Int) - 1/\o=horN c x n t % nN) n
  (l0:= [(0,.vsl 4 n cap (cV c)),(3,.ptr 0 0 0),(4,.ptr 1 0 0),(5,.ptr 2 0 0),(6,.int .i64 ((n:Int) - 1))])
  (m0:= [some ⟨1,4,lstG 1 (numL x)⟩,some ⟨1,4,lstG 1 (numL 0)⟩,some ⟨1,4,lstG 1 (numL 0)⟩]) [some 0,some 1,some 2] ⟨_,0,0,rfl,rfl,rfl,rfl,rfl⟩ ?_ ?_
 · refine .mk0 ⟨.eq _ _ rfl (.vsl _ _ _ _ rfl (fun _ _ _ _=>aV)),.ptr _ _ _ _ rfl,.ptr _ _ _ _ rfl,.ptr _ _ _ _ rfl,Flat.i e10,trivial⟩ ⟨.old 0 0 _ _ rfl rfl ⟨rfl,Nat.le_refl _,fun i j hi hj=> .eq _ _ rfl aJ⟩,
    .old 1 1 _ _ rfl rfl ⟨rfl,Nat.le_refl _,fun i j hi hj=> ?_⟩,.old 2 2 _ _ rfl rfl ⟨rfl,Nat.le_refl _,fun i j hi hj=> ?_⟩,trivial⟩ rfl rfl
   all_goals
    have hj:j<1:=hj
    have hi:i<4:=hi
    obtain rfl:j=0:=by omega
    have:i=0\/i=1\/i=2\/i=3:=by omega
    rcases this with rfl | rfl | rfl | rfl <;> exact .eq _ _ rfl (.int _ _)
 · rintro q l m ⟨v,t,o,rfl,rfl,hq,hv,ho⟩
   have ho1:o<w256:=by rw [ho];exact Nat.lt_trans (Nat.mod_lt _ (by decide)) (by decide)
   conv=>whnf
   repeat (refine⟨⟨[],rfl⟩,?_⟩;conv=>whnf)
   refine aE (fun hb=> ?_) (fun hb=> ?_)
   · have hb:v >= 0:=of_decide_eq_true hb
     obtain⟨k,rfl⟩ :∃ k,q=k+1:=⟨q - 1,by omega⟩
     obtain rfl:v=(k:Int):=by omega
     conv=>whnf
     repeat (refine⟨⟨[],rfl⟩,?_⟩;conv=>whnf)
     refine aA (by simp;omega) ?_
     conv=>whnf
     repeat (refine⟨⟨[],rfl⟩,?_⟩;conv=>whnf)
     refine S_pmul ho1 hx (fun r hr=> ?_)
     have hr1:r<w256:=by rw [hr];exact Nat.lt_trans (Nat.mod_lt _ (by decide)) (by decide)
     conv=>whnf
     repeat (refine⟨⟨[],rfl⟩,?_⟩;conv=>whnf)
     refine S_polyadd (b:=c k) hr1 (hc k (by omega)) (fun s hs=> ?_)
     conv=>whnf
     repeat (refine⟨⟨[],rfl⟩,?_⟩;conv=>whnf)
     have hs2:s=horN c x n (t+1) % nN:=by rw [hs,hr,ho,mod_hor,horN_succ,show n - 1 - t=k by omega]
     have e5:IntKind.i64.wrap ((k:Int) - 1)=(k:Int) - 1:=w64 (by omega) (by omega)
     refine⟨k,_,_,[some 0,some 1,some 2],Nat.lt_succ_self _,⟨(k:Int) - 1,t+1,s,rfl,rfl,by omega,rfl,hs2⟩,?_⟩
     exact .mk0 ⟨.eq _ _ rfl (.vsl _ _ _ _ rfl (fun _ _ _ _=>aV)),.ptr _ _ _ _ rfl,.ptr _ _ _ _ rfl,.ptr _ _ _ _ rfl,Flat.i e5,trivial⟩ ⟨.old 0 0 _ _ rfl rfl ⟨rfl,Nat.le_refl _,fun i j hi hj=> .eq _ _ rfl iI⟩,
      .old 1 1 _ _ rfl rfl ⟨rfl,Nat.le_refl _,fun i j hi hj=> .eq _ _ rfl iI⟩,.old 2 2 _ _ rfl rfl ⟨rfl,Nat.le_refl _,fun i j hi hj=> .eq _ _ rfl iI⟩,trivial⟩ rfl rfl
   · have hb:¬ v >= 0:=of_decide_eq_false hb
     obtain rfl:q=0:=by omega
     obtain rfl:t=n:=by omega
     rw [horN_all]at ho
     conv=>whnf
     repeat (refine⟨⟨[],rfl⟩,?_⟩;conv=>whnf)
     rw [<- ho]
     exact⟨rfl,aL⟩
theorem S_Eval {m:Mem} {a:AV} {K:AV->Mem->Prop} {n x:Nat} {c:Nat->Nat} (ha:aO m a 4 n (cV c)) (hx:x<w256) (hc:∀ i,i<n->c i<w256) (hn:n<=140737488355328) (h:∀ r,r=sumN c x n % nN->r<w256->K (numA r) m):ACall Pg mH [a,numA x] m K:=by
 obtain⟨cap,hl⟩:=ha
 refine aC (S_Eval0 n cap c x hx hc hn) (.cons _ _ _ _ hl (.cons _ _ _ _ aF .nil)) ?_
 rintro v rfl
 exact h _ rfl (Nat.lt_trans (Nat.mod_lt _ (by decide)) (by decide))
end Go.Proofs.YtfolpdmbpbbimaaGreat
end

section
namespace Go.Proofs.YtfolpdmbpbbimaaGreat
open Go Go.Wit
structure Dl where
 ac:Int
 i:Bool
 x:Nat
 y:Nat
 lb:ByteArray
 hd:Int
 ps:Bool
 ns:Nat
 S:Nat->Nat->Int
 nc:Nat
 I:Nat->Bool
 X:Nat->Nat
 Y:Nat->Nat
 bd:Bool
 st:Bool
 j:Bool
 u:Nat
 v:Nat
def dlL (d:Dl) (sl co:AV):List AV:= [.int .i64 d.ac,.bool d.i,.int .u64 (lim d.x 0),.int .u64 (lim d.x 1),.int .u64 (lim d.x 2),.int .u64 (lim d.x 3),.int .u64 (lim d.y 0),.int .u64 (lim d.y 1),.int .u64 (lim d.y 2),.int .u64 (lim d.y 3),
 .str d.lb,.int .i64 d.hd,.bool d.ps,sl,co,.bool d.bd,.bool d.st,.bool d.j,.int .u64 (lim d.u 0),.int .u64 (lim d.u 1),.int .u64 (lim d.u 2),.int .u64 (lim d.u 3),.int .u64 (lim d.v 0),.int .u64 (lim d.v 1),.int .u64 (lim d.v 2),.int .u64 (lim d.v 3)]
def dlG (D:Nat->Dl) (c1 c2:Nat->Nat):Nat->Nat->AV:=fun k j=>(dlL (D k) (.vsl 32 (D k).ns (c1 k) (fN (D k).S)) (.vsl 9 (D k).nc (c2 k) (cW (D k).I (D k).X (D k).Y))).getD j .un
theorem flat_dlL {nv:Bool} {d:Dl} {sl co:AV} (h1:Flat nv sl) (h2:Flat nv co) (j:Nat):Flat nv ((dlL d sl co).getD j .un):=by
 by_cases hj:j<26
 · have:j=0\/j=1\/j=2\/j=3\/j=4\/j=5\/j=6\/j=7\/j=8\/j=9\/j=10\/j=11\/j=12\/j=13\/j=14\/j=15\/j=16\/j=17\/j=18\/j=19\/j=20\/j=21\/j=22\/j=23\/j=24\/j=25:=by omega
   rcases this with rfl | rfl | rfl | rfl | rfl | rfl | rfl | rfl | rfl | rfl | rfl | rfl | rfl | rfl | rfl | rfl | rfl | rfl | rfl | rfl | rfl | rfl | rfl | rfl | rfl | rfl
   all_goals first
    | exact h1
    | exact h2
    | exact .int _ _
    | exact .bool _
    | exact .str _
 · rw [List.getD_eq_getElem?_getD,List.getElem?_eq_none (by show 26<=j;omega)];exact .un
theorem sC {D:Nat->Dl} {c1 c2:Nat->Nat} {k j:Nat}:Flat false (dlG D c1 c2 k j):=flat_dlL lM flat_raws j
theorem bB {n cap:Nat} {D:Nat->Dl} {c1 c2:Nat->Nat}:Flat false (.vsl 26 n cap (dlG D c1 c2)):= .vsl _ _ _ _ rfl fun _ _ _ _=>sC
def aT (m:Mem) (x:AV) (n:Nat) (D:Nat->Dl):Prop:= ∃ cap c1 c2,Lend (fun _=>none) (List.range m.length) m x (.vsl 26 n cap (dlG D c1 c2))
theorem aT.vsl {m:Mem} {n cap:Nat} {D:Nat->Dl} {c1 c2:Nat->Nat}:aT m (.vsl 26 n cap (dlG D c1 c2)) n D:=⟨cap,c1,c2,aI bB⟩
theorem aT.nils {m:Mem} {D:Nat->Dl}:aT m .nils 0 D:=⟨0,fun _=>0,fun _=>0,.nils _ _⟩
theorem S_dnum {m:Mem} {x:AV} {K:AV->Mem->Prop} {n:Nat} {D:Nat->Dl} {i:Int} (hx:aT m x n D) (h:∀ b,b=(decide (1<=i) && decide (i<=(n:Int)))->K (.bool b) m):ACall Pg gL [x,.int .i64 i] m K:=by
 have h0:∀ cap c1 c2,ACall Pg gL [.vsl 26 n cap (dlG D c1 c2),.int .i64 i] [] (fun v _=>v= .bool (decide (1<=i) && decide (i<=(n:Int)))/\Flat true v):=fun cap c1 c2=>by
  refine B_deal_number ⟨rfl,?_⟩
  conv=>whnf
  repeat (refine⟨⟨_,rfl⟩,?_⟩;conv=>whnf)
  refine aE (fun h1=> ?_) (fun h1=> ?_)
  · have h1:=of_eqt h1
    conv=>whnf
    repeat (refine⟨⟨_,rfl⟩,?_⟩;conv=>whnf)
    exact⟨by rw [decide_eq_true (p:=1<=i) h1];rfl,.bool _⟩
  · have h1:=of_neqt h1
    conv=>whnf
    repeat (refine⟨⟨_,rfl⟩,?_⟩;conv=>whnf)
    exact⟨by rw [decide_eq_false (p:=1<=i) h1];rfl,.bool _⟩
 obtain⟨cap,c1,c2,hl⟩:=hx
 refine aC (h0 cap c1 c2) (.cons _ _ _ _ hl (.cons _ _ _ _ aG .nil)) ?_
 rintro v rfl
 exact h _ rfl
theorem S_place {m:Mem} {K:AV->Mem->Prop} {i:Nat} (hi:i<1000000) (h:K (numA i) m):ACall Pg jN [.int .i64 (i:Int)] m K:=by
 have h0:ACall Pg jN [.int .i64 (i:Int)] [] (fun v _=>v=numA i/\Flat true v):=by
  refine B_deal_place ⟨rfl,?_⟩
  conv=>whnf
  repeat (refine⟨⟨_,rfl⟩,?_⟩;conv=>whnf)
  have e:IntKind.u64.wrap (i:Int)=((i:Nat):Int):=by rw [wu64];omega
  have g:AV.agg [.int .u64 (IntKind.u64.wrap (i:Int)),.int .u64 0,.int .u64 0,.int .u64 0] = numA i:=by
   rw [e]
   have:=bA (a:=i) (b:=0) (c:=0) (d:=0) (by omega) (by decide) (by decide) (by decide)
   rw [show comb i 0 0 0=i by unfold comb;omega]at this
   rw [this];rfl
  refine⟨g,?_⟩
  exact Eq.mpr (congrArg (Flat true) g) aL
 refine aC h0 (.cons _ _ _ _ aG .nil) ?_
 rintro v rfl
 exact h
def selN (me k:Nat):Nat:=if k<me then k else k - 1
def othN (me q:Nat):Nat:=if q+1<me then q+1 else q+2
theorem selN_0 {me:Nat}:selN me 0=0:=by unfold selN;split <;> rfl
noncomputable def ptOf (d:Dl):Pt Fp:=by
 classical
 exact if h:∃ P,On P/\rawA d.i d.x d.y=ptA P then h.choose else .inf
theorem ptOf_eq {d:Dl} {P:Pt Fp} (oP:On P) (h:rawA d.i d.x d.y=ptA P):ptOf d=P:=by
 classical
 have hh:∃ P,On P/\rawA d.i d.x d.y=ptA P:=⟨P,oP,h⟩
 unfold ptOf
 rw [dif_pos hh]
 exact lV (hh.choose_spec.2.symm.trans h)
noncomputable def sealN (n:Nat) (f:Nat->Int) (t:Nat) (D:Nat->Dl) (me q:Nat):Nat->Int:=tnF (nmul (secN n f) (ptOf (D (othN me q - 1)))) me (othN me q) (kJ (sumN (coN n f) (othN me q) (t+1) % nN))
theorem S_CheckD {m:Mem} {K:AV->Mem->Prop} {v:AV} {i:Bool} {x y:Nat} (hv:v=rawA i x y) (hx:x<w256) (hy:y<w256) (h1:∀ P,On P->rawA i x y=ptA P->K (.int .i64 0) m) (h2:Bad i x y->K (.int .i64 3) m):ACall Pg cG [v] m K:=by
 subst hv;exact S_Check hx hy h1 h2
abbrev actZ:List AV:= [.int .i64 0,.bool false,.int .u64 0,.int .u64 0,.int .u64 0,.int .u64 0,.int .u64 0,.int .u64 0,.int .u64 0,.int .u64 0,.str nB,.nils,.nils,.int .i64 0,.int .u64 0,.int .u64 0,.int .u64 0,.int .u64 0,.int .u64 0,.int .u64 0,.int .u64 0,.int .u64 0]
theorem flat_get {nv:Bool}:∀ {l:List AV} {n:Nat},Flats nv l->Flat nv (l.getD n .un)
 | [],n,_=>by simp;exact .un
 | a::r,0,h=>by cases h with | cons _ _ h1 _=>simpa using h1
 | a::r,n+1,h=>by cases h with | cons _ _ _ h2=>simpa using flat_get (n:=n) h2
theorem flat_actZ {nv:Bool}:Flats nv actZ:=by
 repeat (first | exact .nil | refine .cons _ _ (.int _ _) ?_ | refine .cons _ _ (.bool _) ?_ | refine .cons _ _ (.str _) ?_ | refine .cons _ _ .nils ?_)
theorem lB {nv:Bool} {σ:Nat->Option Nat} {i j:Nat} {A:AV} (hi:i<1) (hj:j<22) (hA:A=lstG 22 actZ i j):RV nv σ A (lstG 22 actZ i j):=
 RV.of hA (flat_get flat_actZ)
theorem aBy {nv:Bool} {σ:Nat->Option Nat} {i j:Nat} {A:AV} (hi:i<1) (hA:A=actZ.getD j .un):RV nv σ A (lstG 22 actZ i j):=by
 obtain rfl:i=0:=by omega
 refine RV.of ?_ (flat_get flat_actZ)
 rw [hA];show _=actZ.getD (0*22+j) .un
 rw [Nat.zero_mul,Nat.zero_add]
theorem jG {nv:Bool} {σ:Nat->Option Nat} {s i j:Nat} {A:AV} (hi:i<4) (hj:j<1) (hA:A=lstG 1 (numL s) i j):RV nv σ A (lstG 1 (numL s) i j):=
 RV.of hA (by unfold lstG;exact aJ)
theorem S_KeyE {m:Mem} {K:AV->Mem->Prop} {v w:AV} {n:Nat} {P:Pt Fp} (hv:v=numA n) (hw:w=ptA P) (hn:n<w256) (oP:On P) (h:∀ Q,On Q->Q=nmul n P->K (.tup [ptA Q,.int .i64 0]) m):ACall Pg kL [v,w] m K:=by
 subst hv hw
 have h0:ACall Pg kL [numA n,ptA P] [] (fun v _=>v= .tup [ptA (nmul n P),.int .i64 0] /\ Flat true v):=by
  refine B_pair_Key ⟨rfl,?_⟩
  conv=>whnf
  repeat (refine⟨⟨_,rfl⟩,?_⟩;conv=>whnf)
  refine T_Times (n:=n) (P:=P) hn oP (fun Q oQ hQ=> ?_)
  rw [<- hQ]
  conv=>whnf
  repeat (refine⟨⟨_,rfl⟩,?_⟩;conv=>whnf)
  exact⟨rfl,.tup _ (.cons _ _ bK (.cons _ _ (.int _ _) .nil))⟩
 refine aC h0 (.cons _ _ _ _ aF (.cons _ _ _ _ (aI bK) .nil)) ?_
 rintro v rfl
 exact h _ (oP.nmul crvP n) rfl
theorem xD {i:Nat} (h1:1<=i) (h2:i<=8):isD (i:Int)=true:=by
 unfold isD;rw [decide_eq_true (by omega),decide_eq_true (by omega)];rfl
theorem S_SealE {m:Mem} {K:AV->Mem->Prop} {v w:AV} {P:Pt Fp} {n:Nat} {a b:Int} (hv:v=ptA P) (hw:w=numA n) (oP:On P) (ha:isD a=true) (hb:isD b=true) (h:∀ s,s=tnF P a b (kJ n)->(∀ i,0<=s i/\s i<=255)->K (.tup [.agg (rowL s),.int .i64 0]) m):ACall Pg mI [v,.int .i64 a,.int .i64 b,w] m K:=by
 subst hv hw
 refine S_Seal (i:=isI P) (x:=xN P) (y:=yN P) (n:=n) (xN_w P) (yN_w P) (fun h=>by rw [ha,hb]at h;cases h) (fun _ _ h=>absurd rfl (h P oP)) (fun _ _ P2 s oP2 eP2 hs hbs=> ?_)
 obtain rfl:P=P2:=lV eP2
 exact h s hs hbs
theorem all32 {p:Nat->Prop} (h:p 0/\p 1/\p 2/\p 3/\p 4/\p 5/\p 6/\p 7/\p 8/\p 9/\p 10/\p 11/\p 12/\p 13/\p 14/\p 15/\p 16/\p 17/\p 18/\p 19/\p 20/\p 21/\p 22/\p 23/\p 24/\p 25/\p 26/\p 27/\p 28/\p 29/\p 30/\p 31):∀ j,j<32->p j:=fun j hj=>by
 have:j=0\/j=1\/j=2\/j=3\/j=4\/j=5\/j=6\/j=7\/j=8\/j=9\/j=10\/j=11\/j=12\/j=13\/j=14\/j=15\/j=16\/j=17\/j=18\/j=19\/j=20\/j=21\/j=22\/j=23\/j=24\/j=25\/j=26\/j=27\/j=28\/j=29\/j=30\/j=31:=by omega
 rcases this with rfl | rfl | rfl | rfl | rfl | rfl | rfl | rfl | rfl | rfl | rfl | rfl | rfl | rfl | rfl | rfl | rfl | rfl | rfl | rfl | rfl | rfl | rfl | rfl | rfl | rfl | rfl | rfl | rfl | rfl | rfl | rfl
 all_goals simp [h]
theorem seal_row {nv:Bool} {σ:Nat->Option Nat} {A:AV} {S:Nat->Nat->Int} {k i j:Nat} {s:Nat->Int} {g:Nat->Nat->AV} (hi:i<k+1) (hj:j<32) (hs:∀ j,j<32->s j=S k j) (hA:A=catG k (fN S) g i j) (hg:∀ j,j<32->g 0 j= .int .u8 (s j)):RV nv σ A (fN S i j):=by
 refine RV.of (hA.trans ?_) eT
 by_cases h:i<k
 · rw [cY h]
 · have h:i=k:=by omega
   subst h
   rw [bL (Nat.le_refl _),Nat.sub_self,hg j hj,hs j hj];rfl
theorem S_Post0 (n cap t:Nat) (f:Nat->Int) (r c1:Nat) (d1 d2:Nat->Nat) (D:Nat->Dl) (me:Nat) (hn:n<=16384) (ht:t<64) (hf:∀ i,i<n->0<=f i/\f i<=255) (hr:r<=8) (hm:1<=me/\me<=r) (hD:∀ k,k<r->On (ptOf (D k))/\rawA (D k).i (D k).x (D k).y=ptA (ptOf (D k))/\(D k).x<w256/\(D k).y<w256):
 ACall Pg gN [.vsl 1 n cap (aB f),.int .i64 t,.vsl 26 r c1 (dlG D d1 d2),.int .i64 me] []
  (fun v m'=>∃ sl co,v= .tup [actA 2 false 0 0 nB sl co 0 0 0,.int .i64 0] /\ RetG 32 (r - 1) (fun q j=> .int .u8 (sealN n f t D me q j)) sl m'/\RetG 9 (t+1) (ptsG fun i=>nmul (coN n f i) gG) co m'):=by
 obtain⟨S,hS⟩ :∃ S:Nat->Nat->Int,S=sealN n f t D me:=⟨_,rfl⟩
 have hSq:∀ q,S q=tnF (nmul (secN n f) (ptOf (D (othN me q - 1)))) me (othN me q) (kJ (sumN (coN n f) (othN me q) (t+1) % nN)):=fun q=>by rw [hS];rfl
 rw [<- hS]
 clear hS
 obtain⟨xs,hxs⟩ :∃ s,s=secN n f:=⟨_,rfl⟩
 obtain⟨c,hc⟩ :∃ c,c=coN n f:=⟨_,rfl⟩
 rw [<- hc]
 rw [<- hc,<- hxs]at hSq
 refine tR ⟨rfl,?_⟩
 conv=>whnf
 repeat (refine⟨⟨_,rfl⟩,?_⟩;conv=>whnf)
 refine S_Poly (n:=n) (t:=t) (f:=f) aM.vsl hn ht hf (fun c' cc hc' hcN _=> ?_)
 obtain rfl:c=c':=hc.trans hc'.symm
 clear hc hc'
 conv=>whnf
 repeat (refine⟨⟨_,rfl⟩,?_⟩;conv=>whnf)
 refine S_dnum (n:=r) (D:=D) (i:=me) aT.vsl (fun b hb=> ?_)
 have hb:b=true:=by rw [hb,decide_eq_true (by omega),decide_eq_true (by omega)];rfl
 subst hb
 conv=>whnf
 repeat (refine⟨⟨_,rfl⟩,?_⟩;conv=>whnf)
 refine fL (by simp;omega) ?_
 conv=>whnf
 repeat (refine⟨⟨_,rfl⟩,?_⟩;conv=>whnf)
 refine aU aH (I:=fun q l m=>∃ (k:Nat),l= [(0,.vsl 1 n cap (aB f)),(2,.vsl 26 r c1 (dlG D d1 d2)),(3,.int .i64 me),(8,.ptr 0 0 0),(10,.sl 1 0 (t+1) cc),(44,.vsl 26 r c1 (dlG D d1 d2)),(45,.int .i64 r),(46,.int .i64 k)] /\ m= [some ⟨22,1,lstG 22 actZ⟩,some ⟨4,t+1,cV c⟩] /\ q+k=r) r
  (l0:= [(0,.vsl 1 n cap (aB f)),(2,.vsl 26 r c1 (dlG D d1 d2)),(3,.int .i64 me),(8,.ptr 0 0 0),(10,.sl 1 0 (t+1) cc),(44,.vsl 26 r c1 (dlG D d1 d2)),(45,.int .i64 r),(46,.int .i64 (0:Nat))]) (m0:= [some ⟨22,1,lstG 22 actZ⟩,some ⟨4,t+1,cV c⟩]) [some 0,some 1] ⟨0,rfl,rfl,rfl⟩ ?_ ?_
 · exact .mk0 ⟨.eq _ _ rfl aW,.eq _ _ rfl bB,Flat.i rfl,.ptr _ _ _ _ rfl,.sl _ _ _ _ _ rfl,.eq _ _ rfl bB,Flat.i rfl,Flat.i rfl,trivial⟩ ⟨.old 0 0 _ _ rfl rfl ⟨rfl,Nat.le_refl _,fun i j hi hj=>aBy hi rfl⟩,.old 1 1 _ _ rfl rfl ⟨rfl,Nat.le_refl _,fun i j hi hj=>RV.of rfl aV⟩,trivial⟩ rfl rfl
 · rintro q l m ⟨k,rfl,rfl,hq⟩
   conv=>whnf
   repeat (refine⟨⟨_,rfl⟩,?_⟩;conv=>whnf)
   refine aE (fun hb=> ?_) (fun hb=> ?_)
   · have hb:k<r:=by simp at hb;omega
     conv=>whnf
     repeat (refine⟨⟨_,rfl⟩,?_⟩;conv=>whnf)
     refine aA (by simp;omega) ?_
     conv=>whnf
     repeat (refine⟨⟨_,rfl⟩,?_⟩;conv=>whnf)
     refine S_CheckD (i:=(D k).i) (x:=(D k).x) (y:=(D k).y) rfl (hD k hb).2.2.1 (hD k hb).2.2.2 (fun P oP eP=> ?_) (fun hbad=>absurd (hD k hb).2.1 (hbad _ (hD k hb).1))
     conv=>whnf
     repeat (refine⟨⟨_,rfl⟩,?_⟩;conv=>whnf)
     have e5:IntKind.i64.wrap ((k:Int)+1)=((k+1:Nat):Int):=by rw [w64 (by omega) (by omega)];omega
     refine⟨q - 1,[(0,.vsl 1 n cap (aB f)),(2,.vsl 26 r c1 (dlG D d1 d2)),(3,.int .i64 me),(8,.ptr 0 0 0),(10,.sl 1 0 (t+1) cc),(44,.vsl 26 r c1 (dlG D d1 d2)),(45,.int .i64 r),(46,.int .i64 ((k+1:Nat):Int))],[some ⟨22,1,lstG 22 actZ⟩,some ⟨4,t+1,cV c⟩],[some 0,some 1],by omega,⟨k+1,rfl,rfl,by omega⟩,?_⟩
     exact .mk0 ⟨.eq _ _ rfl aW,.eq _ _ rfl bB,Flat.i rfl,.ptr _ _ _ _ rfl,.sl _ _ _ _ _ rfl,.eq _ _ rfl bB,Flat.i rfl,Flat.i e5,trivial⟩ ⟨.old 0 0 _ _ rfl rfl ⟨rfl,Nat.le_refl _,fun i j hi hj=>lB hi hj rfl⟩,.old 1 1 _ _ rfl rfl ⟨rfl,Nat.le_refl _,fun i j hi hj=>RV.of rfl aV⟩,trivial⟩ rfl rfl
   · have hb:k=r:=by simp at hb;omega
     subst hb
     conv=>whnf
     repeat (refine⟨⟨_,rfl⟩,?_⟩;conv=>whnf)
     refine aCd (n:=n) (f:=f) aM.vsl (by omega) hf (fun _ xs' hxs' hxs1 _=> ?_) (fun h=>absurd h (by omega))
     obtain rfl:xs=xs':=hxs.trans hxs'.symm
     clear hxs hxs'
     conv=>whnf
     repeat (refine⟨⟨_,rfl⟩,?_⟩;conv=>whnf)
     refine aU aH (I:=fun q l m=>∃ (w ca:Nat),l= [(3,.int .i64 me),(8,.ptr 0 0 0),(10,.sl 1 0 (t+1) cc),(14,.ptr 2 0 0),(15,.ptr 3 0 0),(66,.vsl 26 k c1 (dlG D d1 d2)),(67,.int .i64 k),(68,.int .i64 w)] /\ m= [some ⟨22,1,lstG 22 actZ⟩,some ⟨4,t+1,cV c⟩,some ⟨1,4,lstG 1 (numL xs)⟩,some ⟨22,1,lstG 22 (actL 2 false 0 0 nB (.sl 4 0 (selN me w) ca) .nils 0 0 0)⟩,some ⟨32,selN me w,fN S⟩] /\ q+w=k) k
      (l0:= [(3,.int .i64 me),(8,.ptr 0 0 0),(10,.sl 1 0 (t+1) cc),(14,.ptr 2 0 0),(15,.ptr 3 0 0),(66,.vsl 26 k c1 (dlG D d1 d2)),(67,.int .i64 k),(68,.int .i64 (0:Nat))]) (m0:= [some ⟨22,1,lstG 22 actZ⟩,some ⟨4,t+1,cV c⟩,some ⟨1,4,lstG 1 (numL xs)⟩,some ⟨22,1,lstG 22 (actL 2 false 0 0 nB (.sl 4 0 0 0) .nils 0 0 0)⟩,some ⟨32,0,fN S⟩]) [some 0,some 1,some 2,some 3,none] ⟨0,0,rfl,by rw [selN_0],rfl⟩ ?_ ?_
     · refine .mk0 ⟨Flat.i rfl,.ptr _ _ _ _ rfl,.sl _ _ _ _ _ rfl,.ptr _ _ _ _ rfl,.ptr _ _ _ _ rfl,.eq _ _ rfl bB,Flat.i rfl,Flat.i rfl,trivial⟩ ⟨.old 0 0 _ _ rfl rfl ⟨rfl,Nat.le_refl _,fun i j hi hj=>lB hi hj rfl⟩,.old 1 1 _ _ rfl rfl ⟨rfl,Nat.le_refl _,fun i j hi hj=>RV.of rfl aV⟩,.old 2 2 _ _ rfl rfl ⟨rfl,Nat.le_refl _,fun i j hi hj=>jG hi hj rfl⟩,.old 3 3 _ _ rfl rfl ⟨rfl,Nat.le_refl _,fun i j hi hj=> ?_⟩,.ph _ _ _ rfl,trivial⟩ rfl rfl
       have hi:i<1:=hi
       have hj:j<22:=hj
       obtain rfl:i=0:=by omega
       have:j=0\/j=1\/j=2\/j=3\/j=4\/j=5\/j=6\/j=7\/j=8\/j=9\/j=10\/j=11\/j=12\/j=13\/j=14\/j=15\/j=16\/j=17\/j=18\/j=19\/j=20\/j=21:=by omega
       rcases this with rfl | rfl | rfl | rfl | rfl | rfl | rfl | rfl | rfl | rfl | rfl | rfl | rfl | rfl | rfl | rfl | rfl | rfl | rfl | rfl | rfl | rfl
       all_goals first
        | exact .eq _ _ rfl (.int _ _)
        | exact .eq _ _ rfl (.bool _)
        | exact .eq _ _ rfl (.str _)
        | exact .nils _ _
        | exact .eq _ _ rfl .nils
        | exact .sl _ _ _ _ _ rfl
     · rintro q l m ⟨w,ca,rfl,rfl,hq⟩
       conv=>whnf
       repeat (refine⟨⟨_,rfl⟩,?_⟩;conv=>whnf)
       refine aE (fun hb=> ?_) (fun hb=> ?_)
       · have hb:w<k:=by simp at hb;omega
         have e5:IntKind.i64.wrap ((w:Int)+1)=((w+1:Nat):Int):=by rw [w64 (by omega) (by omega)];omega
         conv=>whnf
         repeat (refine⟨⟨_,rfl⟩,?_⟩;conv=>whnf)
         refine aA (by simp;omega) ?_
         conv=>whnf
         repeat (refine⟨⟨_,rfl⟩,?_⟩;conv=>whnf)
         rw [e5]
         refine aE (fun hj=> ?_) (fun hj=> ?_)
         · have hj:w+1=me:=by simp at hj;omega
           conv=>whnf
           repeat (refine⟨⟨_,rfl⟩,?_⟩;conv=>whnf)
           have es:selN me (w+1)=selN me w:=by unfold selN;rw [if_neg (by omega),if_pos (by omega)];omega
           refine⟨q - 1,[(3,.int .i64 me),(8,.ptr 0 0 0),(10,.sl 1 0 (t+1) cc),(14,.ptr 2 0 0),(15,.ptr 3 0 0),(66,.vsl 26 k c1 (dlG D d1 d2)),(67,.int .i64 k),(68,.int .i64 ((w+1:Nat):Int))],[some ⟨22,1,lstG 22 actZ⟩,some ⟨4,t+1,cV c⟩,some ⟨1,4,lstG 1 (numL xs)⟩,some ⟨22,1,lstG 22 (actL 2 false 0 0 nB (.sl 4 0 (selN me w) ca) .nils 0 0 0)⟩,some ⟨32,selN me w,fN S⟩],[some 0,some 1,some 2,some 3,some 4],by omega,⟨w+1,ca,rfl,by rw [es],by omega⟩,?_⟩
           refine .mk0 ⟨Flat.i rfl,.ptr _ _ _ _ rfl,.sl _ _ _ _ _ rfl,.ptr _ _ _ _ rfl,.ptr _ _ _ _ rfl,.eq _ _ rfl bB,Flat.i rfl,Flat.i e5,trivial⟩ ⟨.old 0 0 _ _ rfl rfl ⟨rfl,Nat.le_refl _,fun i j hi hj=>lB hi hj rfl⟩,.old 1 1 _ _ rfl rfl ⟨rfl,Nat.le_refl _,fun i j hi hj=>RV.of rfl aV⟩,.old 2 2 _ _ rfl rfl ⟨rfl,Nat.le_refl _,fun i j hi hj=>jG hi hj rfl⟩,.old 3 3 _ _ rfl rfl ⟨rfl,Nat.le_refl _,fun i j hi hj=> ?_⟩,.old 4 4 _ _ rfl rfl ⟨rfl,Nat.le_refl _,fun i j hi hj=> ?_⟩,trivial⟩ rfl rfl
           · have hi:i<1:=hi
             have hj:j<22:=hj
             obtain rfl:i=0:=by omega
             have:j=0\/j=1\/j=2\/j=3\/j=4\/j=5\/j=6\/j=7\/j=8\/j=9\/j=10\/j=11\/j=12\/j=13\/j=14\/j=15\/j=16\/j=17\/j=18\/j=19\/j=20\/j=21:=by omega
             rcases this with rfl | rfl | rfl | rfl | rfl | rfl | rfl | rfl | rfl | rfl | rfl | rfl | rfl | rfl | rfl | rfl | rfl | rfl | rfl | rfl | rfl | rfl
             all_goals first
              | exact .eq _ _ rfl (.int _ _)
              | exact .eq _ _ rfl (.bool _)
              | exact .eq _ _ rfl (.str _)
              | exact .nils _ _
              | exact .eq _ _ rfl .nils
              | exact .sl _ _ _ _ _ rfl
           · exact RV.of rfl eT
         · have hj:¬ w+1=me:=by simp at hj;omega
           have es:selN me (w+1)=selN me w+1:=by unfold selN;split <;> split <;> omega
           have eo:othN me (selN me w)=w+1:=by unfold othN selN;split <;> split <;> omega
           conv=>whnf
           repeat (refine⟨⟨_,rfl⟩,?_⟩;conv=>whnf)
           refine S_KeyE (n:=xs) (P:=ptOf (D w)) rfl (Eq.trans (b:=rawA (D w).i (D w).x (D w).y) rfl (hD w hb).2.1) (Nat.lt_trans hxs1 (by decide)) (hD w hb).1 (fun Q oQ hQ=> ?_)
           conv=>whnf
           repeat (refine⟨⟨_,rfl⟩,?_⟩;conv=>whnf)
           refine S_place (i:=w+1) (by omega) ?_
           conv=>whnf
           repeat (refine⟨⟨_,rfl⟩,?_⟩;conv=>whnf)
           refine S_Eval (n:=t+1) (x:=w+1) (c:=c) (aO.sl rfl (by omega) (fun i j _ _=>⟨by rw [Nat.zero_add],aV⟩)) (Nat.lt_of_le_of_lt (m:=8) (by omega) (by decide)) (fun i _=>Nat.lt_trans (hcN i) (by decide)) (by omega) (fun z hz hz1=> ?_)
           conv=>whnf
           repeat (refine⟨⟨_,rfl⟩,?_⟩;conv=>whnf)
           refine S_SealE (P:=Q) (n:=z) rfl rfl oQ (xD (by omega) (by omega)) (xD (by omega) (by omega)) (fun s hs hs1=> ?_)
           have hsS:∀ j,s j=S (selN me w) j:=fun j=>by
            rw [hSq,eo,show w+1 - 1=w by omega,<- hQ,<- hz,hs]
           clear hs
           rw [rowL]
           conv=>whnf
           repeat (refine⟨⟨_,rfl⟩,?_⟩;conv=>whnf)
           refine aA (cH (by first | rfl | simp) rfl rfl (by unfold selN;split <;> omega) (by unfold selN;split <;> omega)) (fun cap' hcap=> ?_)
           conv=>whnf
           repeat (refine⟨⟨_,rfl⟩,?_⟩;conv=>whnf)
           refine⟨q - 1,[(3,.int .i64 me),(8,.ptr 0 0 0),(10,.sl 1 0 (t+1) cc),(14,.ptr 2 0 0),(15,.ptr 3 0 0),(66,.vsl 26 k c1 (dlG D d1 d2)),(67,.int .i64 k),(68,.int .i64 ((w+1:Nat):Int))],[some ⟨22,1,lstG 22 actZ⟩,some ⟨4,t+1,cV c⟩,some ⟨1,4,lstG 1 (numL xs)⟩,some ⟨22,1,lstG 22 (actL 2 false 0 0 nB (.sl 4 0 (selN me w+1) cap') .nils 0 0 0)⟩,some ⟨32,selN me w+1,fN S⟩],[some 0,some 1,some 2,some 3,some 9],by omega,⟨w+1,cap',rfl,by rw [es],by omega⟩,?_⟩
           refine .mk0 ⟨Flat.i rfl,.ptr _ _ _ _ rfl,.sl _ _ _ _ _ rfl,.ptr _ _ _ _ rfl,.ptr _ _ _ _ rfl,.eq _ _ rfl bB,Flat.i rfl,Flat.i e5,trivial⟩ ⟨.old 0 0 _ _ rfl rfl ⟨rfl,Nat.le_refl _,fun i j hi hj=>lB hi hj rfl⟩,.old 1 1 _ _ rfl rfl ⟨rfl,Nat.le_refl _,fun i j hi hj=>RV.of rfl aV⟩,.old 2 2 _ _ rfl rfl ⟨rfl,Nat.le_refl _,fun i j hi hj=>jG hi hj rfl⟩,.old 3 3 _ _ rfl rfl ⟨rfl,Nat.le_refl _,fun i j hi hj=> ?_⟩,.old 4 9 _ _ rfl rfl ⟨rfl,Nat.le_refl _,fun i j hi hj=> ?_⟩,trivial⟩ rfl rfl
           · have hi:i<1:=hi
             have hj:j<22:=hj
             obtain rfl:i=0:=by omega
             have:j=0\/j=1\/j=2\/j=3\/j=4\/j=5\/j=6\/j=7\/j=8\/j=9\/j=10\/j=11\/j=12\/j=13\/j=14\/j=15\/j=16\/j=17\/j=18\/j=19\/j=20\/j=21:=by omega
             rcases this with rfl | rfl | rfl | rfl | rfl | rfl | rfl | rfl | rfl | rfl | rfl | rfl | rfl | rfl | rfl | rfl | rfl | rfl | rfl | rfl | rfl | rfl
             all_goals first
              | exact .eq _ _ rfl (.int _ _)
              | exact .eq _ _ rfl (.bool _)
              | exact .eq _ _ rfl (.str _)
              | exact .nils _ _
              | exact .eq _ _ rfl .nils
              | exact .sl _ _ _ _ _ rfl
           · dsimp only at hi hj ⊢
             refine seal_row hi hj (fun j _=>hsS j) rfl ?_
             exact all32 ⟨rfl,rfl,rfl,rfl,rfl,rfl,rfl,rfl,rfl,rfl,rfl,rfl,rfl,rfl,rfl,rfl,rfl,rfl,rfl,rfl,rfl,rfl,rfl,rfl,rfl,rfl,rfl,rfl,rfl,rfl,rfl,rfl⟩
       · have hb:w=k:=by simp at hb;omega
         subst hb
         conv=>whnf
         repeat (refine⟨⟨_,rfl⟩,?_⟩;conv=>whnf)
         refine S_Commit (n:=t+1) (c:=c) (aO.sl rfl (by omega) (fun i j _ _=>⟨by rw [Nat.zero_add],aV⟩)) (fun i _=>Nat.lt_trans (hcN i) (by decide)) (fun _ P cp hP=> ?_) (fun h=>absurd h (by omega))
         rw [<- hP]
         conv=>whnf
         repeat (refine⟨⟨_,rfl⟩,?_⟩;conv=>whnf)
         have hsel:selN me w=w - 1:=by unfold selN;rw [if_neg (by omega)]
         exact⟨.sl 4 0 (selN me w) ca,.sl _ 0 (t+1) cp,rfl,.inr ⟨4,ca,selN me w,_,by rw [hsel],rfl,by omega,fun _ _ _ _=>rfl⟩,.inr ⟨_,cp,t+1,_,rfl,rfl,Nat.le_refl _,fun _ _ _ _=>rfl⟩⟩
end Go.Proofs.YtfolpdmbpbbimaaGreat
end

section
namespace Go.Proofs.YtfolpdmbpbbimaaGreat
open Go Go.Wit
theorem T_rBase {m:Mem} {K:AV->Mem->Prop} {n:Nat} (hn:n<w256) (h:∀ P,On P->P=nmul n gG->K (ptA P) m):ACall Pg cE [numA n] m K:=
 S_rBase hn (h _ (on_G.nmul crvP n) rfl)
theorem T_rTimes {m:Mem} {K:AV->Mem->Prop} {n:Nat} {P:Pt Fp} (hn:n<w256) (oP:On P) (h:∀ R,On R->R=nmul n P->K (ptA R) m):ACall Pg bD [numA n,ptA P] m K:=
 S_rTimes hn oP (h _ (oP.nmul crvP n) rfl)
theorem T_rSum {m:Mem} {K:AV->Mem->Prop} {P Q:Pt Fp} (oP:On P) (oQ:On Q) (h:∀ R,On R->R=padd P Q->K (ptA R) m):ACall Pg gP [ptA P,ptA Q] m K:=
 S_rSum oP oQ (h _ (oP.add crvP oQ) rfl)
theorem S_RCommit0 (n cap:Nat) (c:Nat->Nat) (hc:∀ i,i<n->c i<w256) (hn:n<=1000000):ACall Pg gF [.vsl 4 n cap (cV c)] [] (fun v m'=>∃ n' G,(n'=n/\G=ptsG (fun i=>nmul (c i) gG))/\RetG 9 n' G v m'):=by
 obtain⟨P,hP⟩ :∃ P:Nat->Pt Fp,P=fun i=>nmul (c i) gG:=⟨_,rfl⟩
 rw [<- hP]
 refine tK ⟨rfl,?_⟩
 conv=>whnf
 repeat (refine⟨⟨[],rfl⟩,?_⟩;conv=>whnf)
 refine aU aH (I:=fun q l m=>∃ (k c':Nat),l= [(0,.vsl 4 n cap (cV c)),(4,.int .i64 k),(3,.sl 0 0 k c')] /\ m= [some ⟨9,k,ptsG P⟩] /\ q+k=n) n
  (l0:= [(0,.vsl 4 n cap (cV c)),(4,.int .i64 (0:Nat)),(3,.sl 0 0 0 0)]) (m0:= [some ⟨9,0,ptsG P⟩]) [none] ⟨0,0,rfl,rfl,rfl⟩ ?_ ?_
 · refine .mk0 ⟨.eq _ _ rfl (.vsl _ _ _ _ rfl (fun _ _ _ _=>aV)),Flat.i rfl,.nils _ _,trivial⟩ ⟨.ph _ _ _ rfl,trivial⟩ rfl rfl
 · rintro q l m ⟨k,c',rfl,rfl,hq⟩
   conv=>whnf
   repeat (refine⟨⟨[],rfl⟩,?_⟩;conv=>whnf)
   refine aE (fun hb=> ?_) (fun hb=> ?_)
   · have hb:k<n:=by simp at hb;omega
     conv=>whnf
     repeat (refine⟨⟨[],rfl⟩,?_⟩;conv=>whnf)
     refine aA (by simp;omega) ?_
     conv=>whnf
     repeat (refine⟨⟨[],rfl⟩,?_⟩;conv=>whnf)
     refine T_rBase (n:=c k) (hc k hb) (fun Q oQ hQ=> ?_)
     conv=>whnf
     repeat (refine⟨⟨[],rfl⟩,?_⟩;conv=>whnf)
     refine aA (cH (decide_eq_true (Nat.le_refl _)) rfl rfl (by omega) (by omega)) (fun cap' hcap=> ?_)
     conv=>whnf
     repeat (refine⟨⟨[],rfl⟩,?_⟩;conv=>whnf)
     have e5:IntKind.i64.wrap ((k:Int)+1)=((k+1:Nat):Int):=by rw [w64 (by omega) (by omega)];omega
     refine⟨q - 1,[(0,.vsl 4 n cap (cV c)),(4,.int .i64 ((k+1:Nat):Int)),(3,.sl 0 0 (k+1) cap')],[some ⟨9,k+1,ptsG P⟩],[some 2],by omega,⟨k+1,cap',rfl,rfl,by omega⟩,?_⟩
     refine .mk0 ⟨.eq _ _ rfl (.vsl _ _ _ _ rfl (fun _ _ _ _=>aV)),Flat.i e5,.sl _ _ _ _ _ rfl,trivial⟩ ⟨.old 0 2 _ _ rfl rfl ⟨rfl,Nat.le_refl _,fun i j hi hj=> ?_⟩,trivial⟩ rfl rfl
     have hPk:P k=Q:=by rw [hP,hQ]
     have hi:i<k+1:=hi
     have hj:j<9:=hj
     have e:=cat_pts (P:=P) (k:=k) (g:=fun i j=>(rawL (isI Q) (xN Q) (yN Q)).getD (i*9+j) .un) hi (fun h j=>by subst h;rw [Nat.sub_self,Nat.zero_mul,Nat.zero_add,<- hPk];rfl) j
     refine .eq _ _ ?_ ?_
     · refine Eq.trans ?_ e
       dsimp only
       by_cases hik:i<k
       · rw [cY hik,cY hik]
       · rw [bL (by omega),bL (by omega),Nat.zero_add]
         rfl
     · have:Flat false (ptsG P i j):=bN
       rw [<- e]at this
       dsimp only
       by_cases hik:i<k
       · rw [cY hik];exact bN
       · rw [bL (by omega)]at this ⊢
         rw [Nat.zero_add]
         exact this
   · have hb:k=n:=by simp at hb;omega
     subst hb
     conv=>whnf
     repeat (refine⟨⟨[],rfl⟩,?_⟩;conv=>whnf)
     exact⟨k,ptsG P,⟨rfl,rfl⟩,.inr ⟨0,c',k,_,rfl,rfl,Nat.le_refl _,fun _ _ _ _=>rfl⟩⟩
theorem S_RCommit {m:Mem} {x:AV} {K:AV->Mem->Prop} {n:Nat} {c:Nat->Nat} (hx:aO m x 4 n (cV c)) (hc:∀ i,i<n->c i<w256) (hn:n<=1000000)
 (h1:∀ P cap,P=(fun i=>nmul (c i) gG)->memK (m++ [some ⟨9,n,ptsG P⟩]) (K (.sl m.length 0 n cap))):ACall Pg gF [x] m K:=by
 simp only [cU]at h1
 obtain⟨cap,hl⟩:=hx
 refine lift_G (S_RCommit0 n cap c hc hn) (fun n G hR i j _ _=>by rw [hR.2];exact bN) (.cons _ _ _ _ hl .nil) ?_
 rintro n' G cap' ⟨rfl,rfl⟩
 exact h1 _ cap' rfl
theorem S_rPoints0 (n cap:Nat) (P:Nat->Pt Fp) (oP:∀ i,i<n->On (P i)) (hn:n<=140737488355328):ACall Pg bW [.vsl 9 n cap (ptsG P)] [] (fun v _=>v= .bool true/\Flat true v):=by
 refine mP ⟨rfl,?_⟩
 conv=>whnf
 repeat (refine⟨⟨[],rfl⟩,?_⟩;conv=>whnf)
 refine aU aH (I:=fun q l m=>∃ (k:Nat),l= [(0,.vsl 9 n cap (ptsG P)),(2,.bool false),(3,.int .i64 k)] /\ m= [] /\ q+k=n) n
  (l0:= [(0,.vsl 9 n cap (ptsG P)),(2,.bool false),(3,.int .i64 (0:Nat))]) (m0:= []) [] ⟨0,rfl,rfl,rfl⟩ ?_ ?_
 · exact .mk0 ⟨.eq _ _ rfl (.vsl _ _ _ _ rfl (fun _ _ _ _=>bN)),Flat.b rfl,Flat.i rfl,trivial⟩ trivial rfl rfl
 · rintro q l m ⟨k,rfl,rfl,hq⟩
   conv=>whnf
   repeat (refine⟨⟨[],rfl⟩,?_⟩;conv=>whnf)
   refine aE (fun hb=> ?_) (fun hb=> ?_)
   · have hb:k<n:=by simp at hb;omega
     conv=>whnf
     repeat (refine⟨⟨[],rfl⟩,?_⟩;conv=>whnf)
     refine aA (by simp;omega) ?_
     conv=>whnf
     repeat (refine⟨⟨[],rfl⟩,?_⟩;conv=>whnf)
     refine S_rCheck_ok (P:=P k) (oP k hb) ?_
     conv=>whnf
     repeat (refine⟨⟨[],rfl⟩,?_⟩;conv=>whnf)
     have e5:IntKind.i64.wrap ((k:Int)+1)=((k+1:Nat):Int):=by rw [w64 (by omega) (by omega)];omega
     refine⟨q - 1,[(0,.vsl 9 n cap (ptsG P)),(2,.bool false),(3,.int .i64 ((k+1:Nat):Int))],[],[],by omega,⟨k+1,rfl,rfl,by omega⟩,?_⟩
     exact .mk0 ⟨.eq _ _ rfl (.vsl _ _ _ _ rfl (fun _ _ _ _=>bN)),Flat.b rfl,Flat.i e5,trivial⟩ trivial rfl rfl
   · conv=>whnf
     repeat (refine⟨⟨[],rfl⟩,?_⟩;conv=>whnf)
     exact⟨rfl,.bool _⟩
theorem S_rPoints_bad0 (n cap:Nat) (I:Nat->Bool) (X Y:Nat->Nat) (hX:∀ i,i<n->X i<w256) (hY:∀ i,i<n->Y i<w256) (b:Nat) (hbn:b<n) (hb:Bad (I b) (X b) (Y b)) (hn:n<=140737488355328):ACall Pg bW [.vsl 9 n cap (cW I X Y)] [] (fun v _=>v= .bool false/\Flat true v):=by
 refine mP ⟨rfl,?_⟩
 conv=>whnf
 repeat (refine⟨⟨[],rfl⟩,?_⟩;conv=>whnf)
 refine aU aH (I:=fun q l m=>∃ (k:Nat),l= [(0,.vsl 9 n cap (cW I X Y)),(2,.bool false),(3,.int .i64 k)] /\ m= [] /\ q+k=n/\k<=b) n
  (l0:= [(0,.vsl 9 n cap (cW I X Y)),(2,.bool false),(3,.int .i64 (0:Nat))]) (m0:= []) [] ⟨0,rfl,rfl,rfl,Nat.zero_le _⟩ ?_ ?_
 · exact .mk0 ⟨.eq _ _ rfl (.vsl _ _ _ _ rfl (fun _ _ _ _=>bR)),Flat.b rfl,Flat.i rfl,trivial⟩ trivial rfl rfl
 · rintro q l m ⟨k,rfl,rfl,hq,hkb⟩
   conv=>whnf
   repeat (refine⟨⟨[],rfl⟩,?_⟩;conv=>whnf)
   refine aE (fun hc=> ?_) (fun hc=> ?_)
   · have hc:k<n:=by simp at hc;omega
     conv=>whnf
     repeat (refine⟨⟨[],rfl⟩,?_⟩;conv=>whnf)
     refine aA (by simp;omega) ?_
     conv=>whnf
     repeat (refine⟨⟨[],rfl⟩,?_⟩;conv=>whnf)
     refine aCa (i:=I k) (x:=X k) (y:=Y k) (hX k hc) (hY k hc) (fun P oP e=> ?_) (fun hbk=> ?_)
     · have hne:k ≠ b:=fun h=>hb P oP (h ▸ e)
       conv=>whnf
       repeat (refine⟨⟨[],rfl⟩,?_⟩;conv=>whnf)
       have e5:IntKind.i64.wrap ((k:Int)+1)=((k+1:Nat):Int):=by rw [w64 (by omega) (by omega)];omega
       refine⟨q - 1,[(0,.vsl 9 n cap (cW I X Y)),(2,.bool false),(3,.int .i64 ((k+1:Nat):Int))],[],[],by omega,⟨k+1,rfl,rfl,by omega,by omega⟩,?_⟩
       exact .mk0 ⟨.eq _ _ rfl (.vsl _ _ _ _ rfl (fun _ _ _ _=>bR)),Flat.b rfl,Flat.i e5,trivial⟩ trivial rfl rfl
     · conv=>whnf
       repeat (refine⟨⟨[],rfl⟩,?_⟩;conv=>whnf)
       exact⟨rfl,.bool _⟩
   · have hc:¬ k<n:=by simp at hc;omega
     omega
theorem S_rPoints {m:Mem} {x:AV} {K:AV->Mem->Prop} {n:Nat} {P:Nat->Pt Fp} (hx:aO m x 9 n (ptsG P)) (oP:∀ i,i<n->On (P i)) (hn:n<=140737488355328) (h:K (.bool true) m):ACall Pg bW [x] m K:=by
 obtain⟨cap,hl⟩:=hx
 refine aC (S_rPoints0 n cap P oP hn) (.cons _ _ _ _ hl .nil) ?_
 rintro v rfl
 exact h
theorem S_rPoints_bad {m:Mem} {x:AV} {K:AV->Mem->Prop} {n:Nat} {I:Nat->Bool} {X Y:Nat->Nat} (hx:aO m x 9 n (cW I X Y)) (hX:∀ i,i<n->X i<w256) (hY:∀ i,i<n->Y i<w256) {b:Nat} (hbn:b<n) (hb:Bad (I b) (X b) (Y b)) (hn:n<=140737488355328) (h:K (.bool false) m):ACall Pg bW [x] m K:=by
 obtain⟨cap,hl⟩:=hx
 refine aC (S_rPoints_bad0 n cap I X Y hX hY b hbn hb hn) (.cons _ _ _ _ hl .nil) ?_
 rintro v rfl
 exact h
noncomputable def horP (P:Nat->Pt Fp) (x n:Nat):Nat->Pt Fp:=Nat.rec (motive:=fun _=>Pt Fp) .inf (fun t ih=>padd (nmul x ih) (P (n - 1 - t)))
theorem horP_succ {P:Nat->Pt Fp} {x n t:Nat}:horP P x n (t+1)=padd (nmul x (horP P x n t)) (P (n - 1 - t)):=rfl
theorem On.horP {P:Nat->Pt Fp} {x n:Nat} (oP:∀ i,i<n->On (P i)):∀ t,t<=n->On (horP P x n t)
 | 0,_=>trivial
 | t+1,h=>((On.horP oP t (by omega)).nmul crvP x).add crvP (oP _ (by omega))
theorem horP_poly {P:Nat->Pt Fp} {x n:Nat} (oP:∀ i,i<n->On (P i)):∀ t,t<=n->padd (polyP P x (n - t)) (nmul (x ^ (n - t)) (horP P x n t))=polyP P x n
  | 0,_=>by show padd (polyP P x n) (nmul _ .inf)=_;rw [aBm,jW]
  | t + 1, h => by
    have ih:=horP_poly (x:=x) oP t (by omega)
    have oH:=On.horP (x:=x) oP t (by omega)
    have e:n - t=n - (t+1)+1:=by omega
    have oA:On (polyP P x (n - (t+1))):=On.polyP fun i hi=>oP i (by omega)
    have oK:=oP (n - (t+1)) (by omega)
    rw [e,polyP_succ,Nat.pow_succ,rW crvP oH]at ih
    rw [<- ih,horP_succ,show n - 1 - t=n - (t+1) by omega,nmul_padd crvP (oH.nmul crvP x) oK,bQ crvP oA (oK.nmul crvP _) ((oH.nmul crvP x).nmul crvP _),oN (nmul (x ^ (n - (t+1))) (P (n - (t+1))))]
theorem horP_all {P:Nat->Pt Fp} {x n:Nat} (oP:∀ i,i<n->On (P i)):horP P x n n=polyP P x n:=by
 have:=horP_poly (x:=x) oP n (Nat.le_refl _)
 rw [Nat.sub_self,Nat.pow_zero,nmul_one',polyP_0,iH]at this
 exact this
theorem S_RAt0 (n cap:Nat) (P:Nat->Pt Fp) (x:Nat) (hx:x<w256) (oP:∀ i,i<n->On (P i)) (hn:n<=140737488355328):ACall Pg kA [.vsl 9 n cap (ptsG P),numA x] [] (fun v _=>v=ptA (polyP P x n)/\Flat true v):=by
 refine B_witanref06_At ⟨rfl,?_⟩
 conv=>whnf
 repeat (refine⟨⟨[],rfl⟩,?_⟩;conv=>whnf)
 refine S_rInf ?_
 conv=>whnf
 repeat (refine⟨⟨[],rfl⟩,?_⟩;conv=>whnf)
 have e10:IntKind.i64.wrap ((n:Int) - 1)=(n:Int) - 1:=w64 (by omega) (by omega)
 refine aU aH (I:=fun q l m=>∃ (v:Int) (t:Nat) (O:Pt Fp),l= [(0,.vsl 9 n cap (ptsG P)),(3,.ptr 0 0 0),(4,.ptr 1 0 0),(5,.ptr 2 0 0),(6,.int .i64 v)] /\
  m= [some ⟨1,4,lstG 1 (numL x)⟩,some ⟨9,1,lstG 9 z9⟩,some ⟨9,1,lstG 9 (rawL (isI O) (xN O) (yN O))⟩] /\ q+t=n/\v=(q:Int) - 1/\O=horP P x n t) n
  (l0:= [(0,.vsl 9 n cap (ptsG P)),(3,.ptr 0 0 0),(4,.ptr 1 0 0),(5,.ptr 2 0 0),(6,.int .i64 ((n:Int) - 1))])
  (m0:= [some ⟨1,4,lstG 1 (numL x)⟩,some ⟨9,1,lstG 9 z9⟩,some ⟨9,1,lstG 9 (rawL (isI .inf) (xN .inf) (yN .inf))⟩]) [some 0,some 1,some 2] ⟨_,0,.inf,rfl,rfl,rfl,rfl,rfl⟩ ?_ ?_
 · refine .mk0 ⟨.eq _ _ rfl (.vsl _ _ _ _ rfl (fun _ _ _ _=>bN)),.ptr _ _ _ _ rfl,.ptr _ _ _ _ rfl,.ptr _ _ _ _ rfl,Flat.i e10,trivial⟩ ⟨.old 0 0 _ _ rfl rfl ⟨rfl,Nat.le_refl _,fun i j hi hj=> .eq _ _ rfl aJ⟩,
    .old 1 1 _ _ rfl rfl ⟨rfl,Nat.le_refl _,fun i j hi hj=>rv_one (l:=z9) hi flat_z9⟩,.old 2 2 _ _ rfl rfl ⟨rfl,Nat.le_refl _,fun i j hi hj=> .eq _ _ rfl flat_ptG9⟩,trivial⟩ rfl rfl
 · rintro q l m ⟨v,t,O,rfl,rfl,hq,hv,hO⟩
   conv=>whnf
   repeat (refine⟨⟨[],rfl⟩,?_⟩;conv=>whnf)
   refine aE (fun hb=> ?_) (fun hb=> ?_)
   · have hb:v >= 0:=of_decide_eq_true hb
     obtain⟨k,rfl⟩ :∃ k,q=k+1:=⟨q - 1,by omega⟩
     obtain rfl:v=(k:Int):=by omega
     have oO:On O:=by rw [hO];exact On.horP oP t (by omega)
     conv=>whnf
     repeat (refine⟨⟨[],rfl⟩,?_⟩;conv=>whnf)
     refine aA (by simp;omega) ?_
     conv=>whnf
     repeat (refine⟨⟨[],rfl⟩,?_⟩;conv=>whnf)
     refine aCe hx (fun r hr=> ?_)
     have hr1:r<w256:=by rw [hr];exact Nat.lt_trans (Nat.mod_lt _ (by decide)) (by decide)
     conv=>whnf
     repeat (refine⟨⟨[],rfl⟩,?_⟩;conv=>whnf)
     refine T_rTimes (P:=O) hr1 oO (fun T oT hT=> ?_)
     conv=>whnf
     repeat (refine⟨⟨[],rfl⟩,?_⟩;conv=>whnf)
     refine T_rSum (Q:=P k) oT (oP k (by omega)) (fun S oS hS=> ?_)
     have hS:S=horP P x n (t+1):=by rw [hS,hT,hr,zK oO,horP_succ,hO,show n - 1 - t=k by omega]
     conv=>whnf
     repeat (refine⟨⟨[],rfl⟩,?_⟩;conv=>whnf)
     have e5:IntKind.i64.wrap ((k:Int) - 1)=(k:Int) - 1:=w64 (by omega) (by omega)
     refine⟨k,_,_,[some 0,some 1,some 2],Nat.lt_succ_self _,⟨(k:Int) - 1,t+1,S,rfl,rfl,by omega,rfl,hS⟩,?_⟩
     exact .mk0 ⟨.eq _ _ rfl (.vsl _ _ _ _ rfl (fun _ _ _ _=>bN)),.ptr _ _ _ _ rfl,.ptr _ _ _ _ rfl,.ptr _ _ _ _ rfl,Flat.i e5,trivial⟩ ⟨.old 0 0 _ _ rfl rfl ⟨rfl,Nat.le_refl _,fun i j hi hj=> .eq _ _ rfl iI⟩,
      .old 1 1 _ _ rfl rfl ⟨rfl,Nat.le_refl _,fun i j hi hj=> .eq _ _ rfl flat_z9⟩,.old 2 2 _ _ rfl rfl ⟨rfl,Nat.le_refl _,fun i j hi hj=> .eq _ _ rfl flat_ptG9⟩,trivial⟩ rfl rfl
   · have hb:¬ v >= 0:=of_decide_eq_false hb
     obtain rfl:q=0:=by omega
     obtain rfl:t=n:=by omega
     rw [horP_all oP]at hO
     conv=>whnf
     repeat (refine⟨⟨[],rfl⟩,?_⟩;conv=>whnf)
     rw [<- hO]
     exact⟨rfl,bK⟩
theorem S_RAt {m:Mem} {a:AV} {K:AV->Mem->Prop} {n x:Nat} {P:Nat->Pt Fp} (ha:aO m a 9 n (ptsG P)) (hx:x<w256) (oP:∀ i,i<n->On (P i)) (hn:n<=140737488355328) (h:∀ R,On R->R=polyP P x n->K (ptA R) m):ACall Pg kA [a,numA x] m K:=by
 obtain⟨cap,hl⟩:=ha
 refine aC (S_RAt0 n cap P x hx oP hn) (.cons _ _ _ _ hl (.cons _ _ _ _ aF .nil)) ?_
 rintro v rfl
 exact h _ (On.polyP oP) rfl
theorem S_rsame0 (i j:Bool) (x y u v:Nat) (hx:x<w256) (hy:y<w256) (hu:u<w256) (hv:v<w256):ACall Pg iM [rawA i x y,rawA j u v] [] (fun r _=>((i=j/\x=u/\y=v/\r= .bool true)\/(¬ (i=j/\x=u/\y=v)/\r= .bool false))/\Flat true r):=by
 refine xO ⟨rfl,?_⟩
 conv=>whnf
 refine aE (p:=_) (q:=_) (fun h=> ?_) (fun h=> ?_)
 · conv=>whnf
   refine c_eq_t hx hu (fun h1=> ?_) (fun h1=> ?_)
   · conv=>whnf
     have hij:i=j:=by cases i <;> cases j <;> first | rfl | exact absurd h (by decide)
     show ((i=j/\x=u/\y=v/\AV.bool (eqX y v)= .bool true)\/(¬ (i=j/\x=u/\y=v)/\AV.bool (eqX y v)= .bool false))/\Flat true (AV.bool (eqX y v))
     refine⟨?_,.bool _⟩
     rw [pV hy hv]
     by_cases e:y=v
     · exact .inl ⟨hij,h1,e,by rw [decide_eq_true e]⟩
     · exact .inr ⟨fun h=>e h.2.2,by rw [decide_eq_false e]⟩
   · conv=>whnf
     exact⟨.inr ⟨fun h=>h1 h.2.1,rfl⟩,.bool _⟩
 · conv=>whnf
   refine⟨.inr ⟨fun h1=> ?_,rfl⟩,.bool _⟩
   obtain⟨rfl,-,-⟩:=h1
   revert h
   cases i <;> decide
theorem S_rsame {m:Mem} {K:AV->Mem->Prop} {P Q:Pt Fp} (h1:P=Q->K (.bool true) m) (h2:P ≠ Q->K (.bool false) m):ACall Pg iM [ptA P,ptA Q] m K:=by
 refine aC (S_rsame0 _ _ _ _ _ _ (xN_w P) (yN_w P) (xN_w Q) (yN_w Q)) (.cons _ _ _ _ (aI bK) (.cons _ _ _ _ (aI bK) .nil)) ?_
 rintro r (⟨a,b,c,rfl⟩ | ⟨a,rfl⟩)
 · exact h1 (lV (by rw [ptA,ptA,a,b,c]))
 · exact h2 fun e=>a (by subst e;exact⟨rfl,rfl,rfl⟩)
theorem S_RFits0 (n cap:Nat) (P:Nat->Pt Fp) (x y:Nat) (hx:x<w256) (hy:y<w256) (oP:∀ i,i<n->On (P i)) (hn:n<=140737488355328):ACall Pg fS [.vsl 9 n cap (ptsG P),numA x,numA y] [] (fun v _=>((nmul y gG=polyP P x n/\v= .bool true)\/(nmul y gG ≠ polyP P x n/\v= .bool false))/\Flat true v):=by
 refine xR ⟨rfl,?_⟩
 conv=>whnf
 repeat (refine⟨⟨[],rfl⟩,?_⟩;conv=>whnf)
 refine T_rBase hy (fun Q oQ hQ=> ?_)
 conv=>whnf
 repeat (refine⟨⟨[],rfl⟩,?_⟩;conv=>whnf)
 refine S_RAt (P:=P) (aO.vsl fun _ _ _ _=>bN) hx oP hn (fun R oR hR=> ?_)
 rw [<- hQ,<- hR]
 conv=>whnf
 repeat (refine⟨⟨[],rfl⟩,?_⟩;conv=>whnf)
 refine S_rsame (P:=Q) (Q:=R) (fun e=> ?_) (fun e=> ?_)
 · conv=>whnf
   repeat (refine⟨⟨[],rfl⟩,?_⟩;conv=>whnf)
   exact⟨.inl ⟨e,rfl⟩,.bool _⟩
 · conv=>whnf
   repeat (refine⟨⟨[],rfl⟩,?_⟩;conv=>whnf)
   exact⟨.inr ⟨e,rfl⟩,.bool _⟩
theorem S_RFits {m:Mem} {a:AV} {K:AV->Mem->Prop} {n x y:Nat} {P:Nat->Pt Fp} (ha:aO m a 9 n (ptsG P)) (hx:x<w256) (hy:y<w256) (oP:∀ i,i<n->On (P i)) (hn:n<=140737488355328) (h1:nmul y gG=polyP P x n->K (.bool true) m) (h2:nmul y gG ≠ polyP P x n->K (.bool false) m):ACall Pg fS [a,numA x,numA y] m K:=by
 obtain⟨cap,hl⟩:=ha
 refine aC (S_RFits0 n cap P x y hx hy oP hn) (.cons _ _ _ _ hl (.cons _ _ _ _ aF (.cons _ _ _ _ aF .nil))) ?_
 rintro v (⟨e,rfl⟩ | ⟨e,rfl⟩)
 · exact h1 e
 · exact h2 e
theorem S_TwinPoints0 (n cap:Nat) (I:Nat->Bool) (X Y:Nat->Nat) (hn:n<=1000000):ACall Pg eM [.vsl 9 n cap (cW I X Y)] [] (fun v m'=>∃ n' G,(n'=n/\G=cW I X Y)/\RetG 9 n' G v m'):=by
 refine qL ⟨rfl,?_⟩
 conv=>whnf
 repeat (refine⟨⟨[],rfl⟩,?_⟩;conv=>whnf)
 refine aA (cH rfl rfl rfl (by omega) (by omega)) (fun cap' hcap=> ?_)
 conv=>whnf
 repeat (refine⟨⟨[],rfl⟩,?_⟩;conv=>whnf)
 refine⟨n,cW I X Y,⟨rfl,rfl⟩,.inr ⟨0,cap',_,_,by first | rfl | (rw [Nat.zero_add];rfl) | rw [Nat.zero_add],rfl,by omega,fun i j hi hj=> ?_⟩⟩
 rw [bL (by omega)];rfl
theorem rM {m:Mem} {x:AV} {K:AV->Mem->Prop} {n:Nat} {I:Nat->Bool} {X Y:Nat->Nat} (hx:aO m x 9 n (cW I X Y)) (hn:n<=1000000) (hK:∀ cap,memK (m++ [some ⟨9,n,cW I X Y⟩]) (K (.sl m.length 0 n cap))):ACall Pg eM [x] m K:=by
 simp only [cU]at hK
 obtain⟨cap,hl⟩:=hx
 refine lift_G (S_TwinPoints0 n cap I X Y hn) (fun n G hR i j _ _=>by rw [hR.2];exact bR) (.cons _ _ _ _ hl .nil) ?_
 rintro n' G cap' ⟨rfl,rfl⟩
 exact hK cap'
theorem S_kPoints0 (n c1 c2:Nat) (I:Nat->Bool) (X Y:Nat->Nat) (hX:∀ i,i<n->X i<w256) (hY:∀ i,i<n->Y i<w256) (hn:n<=140737488355328):ACall Pg fG [.vsl 9 n c1 (cW I X Y),.vsl 9 n c2 (cW I X Y)] [] (fun v _=>v= .bool true/\Flat true v):=by
 refine vW ⟨rfl,?_⟩
 conv=>whnf
 repeat (refine⟨⟨[],rfl⟩,?_⟩;conv=>whnf)
 refine aE (fun h=>by exfalso;simp at h) (fun h=> ?_)
 conv=>whnf
 repeat (refine⟨⟨[],rfl⟩,?_⟩;conv=>whnf)
 refine aU aH (I:=fun q l m=>∃ (k:Nat),l= [(0,.vsl 9 n c1 (cW I X Y)),(1,.vsl 9 n c2 (cW I X Y)),(5,.int .i64 k)] /\ m= [] /\ q+k=n) n
  (l0:= [(0,.vsl 9 n c1 (cW I X Y)),(1,.vsl 9 n c2 (cW I X Y)),(5,.int .i64 (0:Nat))]) (m0:= []) [] ⟨0,rfl,rfl,rfl⟩ ?_ ?_
 · exact .mk0 ⟨.eq _ _ rfl (.vsl _ _ _ _ rfl (fun _ _ _ _=>bR)),.eq _ _ rfl (.vsl _ _ _ _ rfl (fun _ _ _ _=>bR)),Flat.i rfl,trivial⟩ trivial rfl rfl
 · rintro q l m ⟨k,rfl,rfl,hq⟩
   conv=>whnf
   repeat (refine⟨⟨[],rfl⟩,?_⟩;conv=>whnf)
   refine aE (fun hb=> ?_) (fun hb=> ?_)
   · have hb:k<n:=by simp at hb;omega
     conv=>whnf
     repeat (refine⟨⟨[],rfl⟩,?_⟩;conv=>whnf)
     refine aA (by simp;omega) ?_
     conv=>whnf
     repeat (refine⟨⟨[],rfl⟩,?_⟩;conv=>whnf)
     refine aA (by simp;omega) ?_
     conv=>whnf
     repeat (refine⟨⟨[],rfl⟩,?_⟩;conv=>whnf)
     refine S_kPoint_eq (i:=I k) (x:=X k) (y:=Y k) (hX k hb) (hY k hb) ?_
     conv=>whnf
     repeat (refine⟨⟨[],rfl⟩,?_⟩;conv=>whnf)
     have e5:IntKind.i64.wrap ((k:Int)+1)=((k+1:Nat):Int):=by rw [w64 (by omega) (by omega)];omega
     refine⟨q - 1,[(0,.vsl 9 n c1 (cW I X Y)),(1,.vsl 9 n c2 (cW I X Y)),(5,.int .i64 ((k+1:Nat):Int))],[],[],by omega,⟨k+1,rfl,rfl,by omega⟩,?_⟩
     exact .mk0 ⟨.eq _ _ rfl (.vsl _ _ _ _ rfl (fun _ _ _ _=>bR)),.eq _ _ rfl (.vsl _ _ _ _ rfl (fun _ _ _ _=>bR)),Flat.i e5,trivial⟩ trivial rfl rfl
   · conv=>whnf
     repeat (refine⟨⟨[],rfl⟩,?_⟩;conv=>whnf)
     exact⟨rfl,.bool _⟩
theorem S_kPoints {m:Mem} {x y:AV} {K:AV->Mem->Prop} {n:Nat} {I:Nat->Bool} {X Y:Nat->Nat} (hx:aO m x 9 n (cW I X Y)) (hy:aO m y 9 n (cW I X Y)) (hX:∀ i,i<n->X i<w256) (hY:∀ i,i<n->Y i<w256) (hn:n<=140737488355328) (h:K (.bool true) m):ACall Pg fG [x,y] m K:=by
 obtain⟨c1,hl⟩:=hx
 obtain⟨c2,hl2⟩:=hy
 refine aC (S_kPoints0 n c1 c2 I X Y hX hY hn) (.cons _ _ _ _ hl (.cons _ _ _ _ hl2 .nil)) ?_
 rintro v rfl
 exact h
end Go.Proofs.YtfolpdmbpbbimaaGreat
end

section
namespace Go.Proofs.YtfolpdmbpbbimaaGreat
open Go Go.Wit
theorem map_get {es:Nat} {g:Nat->AV} {l:List AV} (h:(List.range es).map g=l) {j:Nat} (hj:j<es):g j=l.getD j .un:=by
 subst h
 rw [List.getD_eq_getElem?_getD,List.getElem?_map,List.getElem?_range hj]
 rfl
theorem ok_pointsL {av:AV} (h:okV (.sl 9 tPoint) av):∃ (n cap:Nat) (I:Nat->Bool) (X Y:Nat->Nat),dO av (.vsl 9 n cap (cW I X Y))/\n<=cap/\cap<=Go.maxLen/\(∀ i,i<n->X i<w256)/\∀ i,i<n->Y i<w256:=by
 simp only [okV]at h
 unfold okC at h
 obtain⟨n,cap,get,he,h1,h2,h3⟩:=h
 obtain rfl:=List.head_eq_of_cons_eq he
 classical
 have sp:∀ i,i<n->∃ p:Bool × Nat × Nat,p.2.1<w256/\p.2.2<w256/\(List.range 9).map (get i)=rawL p.1 p.2.1 p.2.2:=fun i hi=>by
  obtain⟨b,x,y,hx,hy,e⟩:=ok_cells9 (h3 i hi)
  exact⟨(b,x,y),hx,hy,e⟩
 refine⟨n,cap,fun i=>if hi:i<n then (sp i hi).choose.1 else false,fun i=>if hi:i<n then (sp i hi).choose.2.1 else 0,fun i=>if hi:i<n then (sp i hi).choose.2.2 else 0,dO.vsl (fun i j hi hj=>dO.of_eq ?_),h1,h2,fun i hi=> ?_,fun i hi=> ?_⟩
 · have:=(sp i hi).choose_spec.2.2
   unfold cW
   simp only [dif_pos hi]
   exact map_get this hj
 · simp only [dif_pos hi];exact(sp i hi).choose_spec.1
 · simp only [dif_pos hi];exact(sp i hi).choose_spec.2.1
theorem aO.own {m:Mem} {l es n cap N:Nat} {G:Nat->Nat->AV} (h:m[l]? = some (some ⟨es,N,G⟩)) (hn:n<=N) (hf:∀ i j,Flat false (G i j)):aO m (.sl l 0 n cap) es n G:=
 aO.sl h (by omega) fun i j _ _=>⟨by rw [Nat.zero_add],hf i j⟩
end Go.Proofs.YtfolpdmbpbbimaaGreat
end

section
namespace Go.Proofs.YtfolpdmbpbbimaaGreat
open Go Go.Wit
def rowsG (N C:Nat->Nat) (I:Nat->Nat->Bool) (X Y:Nat->Nat->Nat):Nat->Nat->AV:=fun k _=> .vsl 9 (N k) (C k) (cW (I k) (X k) (Y k))
theorem aO.raws {m:Mem} {n cap:Nat} {I:Nat->Bool} {X Y:Nat->Nat} {P:Nat->Pt Fp} (h:∀ i,i<n->rawL (I i) (X i) (Y i)=rawL (isI (P i)) (xN (P i)) (yN (P i))):aO m (.vsl 9 n cap (cW I X Y)) 9 n (ptsG P):=
 ⟨cap,.vsl _ _ _ _ _ fun i j hi hj=>⟨by unfold ptsG cW;rw [h i hi],bN⟩⟩
def ShowsR (m:Mem) (x:AV) (r:Nat) (N:Nat->Nat) (I:Nat->Nat->Bool) (X Y:Nat->Nat->Nat):Prop:= ∃ cap C,Lend (fun _=>none) (List.range m.length) m x (.vsl 1 r cap (rowsG N C I X Y))
theorem ShowsR.nils {m:Mem} {N:Nat->Nat} {I:Nat->Nat->Bool} {X Y:Nat->Nat->Nat}:ShowsR m .nils 0 N I X Y:=⟨0,fun _=>0,.nils _ _⟩
theorem ShowsR.sl {m:Mem} {l off r cap M:Nat} {N:Nat->Nat} {I:Nat->Nat->Bool} {X Y:Nat->Nat->Nat} {g:Nat->Nat->AV} (h:m[l]? = some (some ⟨1,M,g⟩)) (hn:off+r<=M) (hG:∀ i,i<r->aO m (g (off+i) 0) 9 (N i) (cW (I i) (X i) (Y i))):ShowsR m (.sl l off r cap) r N I X Y:=by
 have hC:∃ C:Nat->Nat,∀ i,i<r->Lend (fun _=>none) (List.range m.length) m (g (off+i) 0) (.vsl 9 (N i) (C i) (cW (I i) (X i) (Y i))):=by
  refine⟨fun i=>if h:i<r then Classical.choose (hG i h)else 0,fun i hi=> ?_⟩
  dsimp only
  rw [dif_pos hi]
  exact Classical.choose_spec (hG i hi)
 obtain⟨C,hC⟩:=hC
 refine⟨cap,C,.slR l off r cap ⟨1,M,g⟩ _ (List.mem_range.2 (bT h)) h hn fun i j hi hj=> ?_⟩
 have hj:j<1:=hj
 obtain rfl:j=0:=by omega
 exact hC i hi
end Go.Proofs.YtfolpdmbpbbimaaGreat
end

section
namespace Go.Proofs.YtfolpdmbpbbimaaGreat
open Go Go.Wit
def plOk (i j:Int):Bool:=isD i && (isD j && !(i == j))
def plN (i j:Int):Int:=if j<i then j - 1 else j - 2
theorem lW {i j:Int} (h:plOk i j=true):1<=i/\i<=8/\1<=j/\j<=8/\i ≠ j/\0<=plN i j/\plN i j<=6:=by
 simp only [plOk,isD,Bool.and_eq_true,decide_eq_true_eq,Bool.not_eq_true',beq_eq_false_iff_ne,ne_eq]at h
 unfold plN
 split <;> omega
theorem S_jdealer {m:Mem} {K:AV->Mem->Prop} {i:Int} (h:K (.bool (isD i)) m):ACall Pg iX [.int .i64 i] m K:=by
 have h0:ACall Pg iX [.int .i64 i] [] (fun v _=>v= .bool (isD i)/\Flat true v):=by
  refine B_judge_dealer ⟨rfl,?_⟩
  conv=>whnf
  repeat (refine⟨⟨_,rfl⟩,?_⟩;conv=>whnf)
  refine aE (fun h=> ?_) (fun h=> ?_)
  · conv=>whnf
    repeat (refine⟨⟨_,rfl⟩,?_⟩;conv=>whnf)
    have e:decide (1<=i)=true:=by simpa using h
    exact⟨by unfold isD;rw [e];rfl,.bool _⟩
  · conv=>whnf
    repeat (refine⟨⟨_,rfl⟩,?_⟩;conv=>whnf)
    have e:decide (1<=i)=false:=by simpa using h
    exact⟨by unfold isD;rw [e];rfl,.bool _⟩
 refine aC h0 (.cons _ _ _ _ aG .nil) ?_
 rintro v rfl
 exact h
theorem S_Place0 (i j:Int):ACall Pg lG [.int .i64 i,.int .i64 j] [] (fun v _=>((plOk i j=true/\v= .tup [.int .i64 (plN i j),.int .i64 0])\/(plOk i j=false/\v= .tup [.int .i64 0,.int .i64 1]))/\Flat true v):=by
  refine B_judge_Place ⟨rfl,?_⟩
  conv=>whnf
  repeat (refine⟨⟨_,rfl⟩,?_⟩;conv=>whnf)
  refine S_jdealer ?_
  cases hi:isD i with
  | false =>
    conv=>whnf
    repeat (refine⟨⟨_,rfl⟩,?_⟩;conv=>whnf)
    exact⟨.inr ⟨by simp [plOk,hi],rfl⟩,flat_ii⟩
  | true =>
    conv=>whnf
    repeat (refine⟨⟨_,rfl⟩,?_⟩;conv=>whnf)
    refine S_jdealer ?_
    cases hj:isD j with
    | false =>
      conv=>whnf
      repeat (refine⟨⟨_,rfl⟩,?_⟩;conv=>whnf)
      exact⟨.inr ⟨by simp [plOk,hi,hj],rfl⟩,flat_ii⟩
    | true =>
      conv=>whnf
      repeat (refine⟨⟨_,rfl⟩,?_⟩;conv=>whnf)
      refine aE (fun h=> ?_) (fun h=> ?_)
      · have h:i=j:=by simpa using h
        conv=>whnf
        repeat (refine⟨⟨_,rfl⟩,?_⟩;conv=>whnf)
        exact⟨.inr ⟨by simp [plOk,h],rfl⟩,flat_ii⟩
      · have h:¬ i=j:=by simpa using h
        have hok:plOk i j=true:=by simp [plOk,hi,hj,h]
        have hb:=lW hok
        conv=>whnf
        repeat (refine⟨⟨_,rfl⟩,?_⟩;conv=>whnf)
        refine aE (fun h2=> ?_) (fun h2=> ?_)
        · have h2:=of_decide_eq_true h2
          conv=>whnf
          repeat (refine⟨⟨_,rfl⟩,?_⟩;conv=>whnf)
          refine⟨.inl ⟨hok,?_⟩,flat_ii⟩
          rw [w64 (by omega) (by omega)]
          unfold plN;rw [if_pos h2]
        · have h2:=of_decide_eq_false h2
          conv=>whnf
          repeat (refine⟨⟨_,rfl⟩,?_⟩;conv=>whnf)
          refine⟨.inl ⟨hok,?_⟩,flat_ii⟩
          rw [w64 (by omega) (by omega)]
          unfold plN;rw [if_neg h2]
theorem S_Place {m:Mem} {K:AV->Mem->Prop} {i j:Int} (h1:plOk i j=true->∀ p,p=plN i j->K (.tup [.int .i64 p,.int .i64 0]) m) (h2:plOk i j=false->K (.tup [.int .i64 0,.int .i64 1]) m):ACall Pg lG [.int .i64 i,.int .i64 j] m K:=by
 refine aC (S_Place0 i j) (.cons _ _ _ _ aG (.cons _ _ _ _ aG .nil)) ?_
 rintro v (⟨h,rfl⟩ | ⟨h,rfl⟩)
 · exact h1 h _ rfl
 · exact h2 h
def comP (d:Dl):Prop:= ∀ k,k<d.nc->∃ P,On P/\rawA (d.I k) (d.X k) (d.Y k)=ptA P
def posP (d:Dl) (p:Int):Prop:=d.ps=true/\p<d.ns/\d.nc<=64/\comP d
def OkD (d:Dl):Prop:=d.x<w256/\d.y<w256/\d.u<w256/\d.v<w256/\(∀ k,k<d.nc->d.X k<w256)/\(∀ k,k<d.nc->d.Y k<w256)/\(∀ k,k<d.ns->∀ b,b<32->0<=d.S k b/\d.S k b<=255)/\d.ns<=1000000/\d.nc<=1000000
def dlA (d:Dl) (c1 c2:Nat):AV:= .agg (dlL d (.vsl 32 d.ns c1 (fN d.S)) (.vsl 9 d.nc c2 (cW d.I d.X d.Y)))
theorem flats_of:∀ {nv:Bool} {l:List AV},(∀ j,Flat nv (l.getD j .un))->Flats nv l
 | _,[],_=> .nil
 | nv,a::r,h=> .cons _ _ (by simpa using h 0) (flats_of fun j=>by simpa using h (j+1))
theorem flat_dlA {d:Dl} {c1 c2:Nat}:Flat false (dlA d c1 c2):= .agg _ (flats_of fun j=>flat_dlL lM flat_raws j)
end Go.Proofs.YtfolpdmbpbbimaaGreat
end

section
namespace Go.Proofs.YtfolpdmbpbbimaaGreat
open Go Go.Wit
noncomputable def rawP (i:Bool) (x y:Nat):Pt Fp:=by
 classical
 exact if h:∃ P,On P/\rawA i x y=ptA P then h.choose else .inf
theorem rawP_eq {i:Bool} {x y:Nat} {P:Pt Fp} (oP:On P) (h:rawA i x y=ptA P):rawP i x y=P:=by
 classical
 have hh:∃ P,On P/\rawA i x y=ptA P:=⟨P,oP,h⟩
 unfold rawP
 rw [dif_pos hh]
 exact lV (hh.choose_spec.2.symm.trans h)
noncomputable def cmP (d:Dl):Nat->Pt Fp:=fun k=>rawP (d.I k) (d.X k) (d.Y k)
theorem cmP_on {d:Dl} (h:comP d):∀ k,k<d.nc->On (cmP d k)/\rawA (d.I k) (d.X k) (d.Y k)=ptA (cmP d k):=fun k hk=>by
 obtain⟨P,oP,eP⟩:=h k hk
 unfold cmP
 rw [rawP_eq oP eP]
 exact⟨oP,eP⟩
theorem exBad {d:Dl} (h:¬ comP d):∃ b,b<d.nc/\Bad (d.I b) (d.X b) (d.Y b):=by
 classical
 apply Classical.byContradiction
 intro hn
 refine h fun k hk=>Classical.byContradiction fun hk2=>hn ⟨k,hk,fun P oP eP=>hk2 ⟨P,oP,eP⟩⟩
theorem rawL_of {i:Bool} {x y:Nat} {P:Pt Fp} (h:rawA i x y=ptA P):rawL i x y=rawL (isI P) (xN P) (yN P):=by
 injection h
theorem S_FitsD {m:Mem} {K:AV->Mem->Prop} {v w:AV} {d:Dl} {c x y:Nat} (hv:v= .vsl 9 d.nc c (cW d.I d.X d.Y)) (hw:w=numA x) (hd:comP d) (hn:d.nc<=64) (hx:x<w256) (hy:y<w256)
 (h:∀ b:Bool,(b=true ↔ nmul y gG=polyP (cmP d) x d.nc)->K (.tup [.bool b,.int .i64 0]) m):ACall Pg iF [v,w,numA y] m K:=by
 subst hv hw
 refine S_Fits (P:=cmP d) (aO.raws fun i hi=>rawL_of (cmP_on hd i hi).2) hx hy (fun i hi=>(cmP_on hd i hi).1) hn (fun e=>h true (by simp [e])) (fun e=>h false (by simp [e]))
def hasP (r:Nat) (D:Nat->Dl) (i j:Int):Prop:=i<=r/\j<=r/\posP (D (i.toNat - 1)) (plN i j)
noncomputable def fitV (D:Nat->Dl) (i j:Int) (K:Pt Fp):Nat:=ofZ (tnF K i j ((D (i.toNat - 1)).S (plN i j).toNat))
def FitE (r:Nat) (D:Nat->Dl) (i j:Int) (ki:Bool) (kx ky:Nat) (b:Bool) (e:Int):Prop:=
 (plOk i j=false/\b=false/\e=1)\/(plOk i j=true/\¬ hasP r D i j/\b=false/\e=5)\/(plOk i j=true/\hasP r D i j/\Bad ki kx ky/\b=false/\e=3)\/
 (plOk i j=true/\hasP r D i j/\∃ K,On K/\rawA ki kx ky=ptA K/\e=0/\(b=true ↔ fitV D i j K<nN/\nmul (fitV D i j K) gG=polyP (cmP (D (i.toNat - 1))) j.toNat (D (i.toNat - 1)).nc))
theorem FitE.same {r:Nat} {D:Nat->Dl} {i j:Int} {ki:Bool} {kx ky:Nat} {b b':Bool} {e e':Int} (h:FitE r D i j ki kx ky b e) (h':FitE r D i j ki kx ky b' e'):b=b'/\e=e':=by
 rcases h with⟨h1,hb,he⟩ | ⟨h1,h2,hb,he⟩ | ⟨h1,h2,h3,hb,he⟩ | ⟨h1,h2,K,oK,eK,he,h3⟩
 · rcases h' with⟨g1,gb,ge⟩ | ⟨g1,_⟩ | ⟨g1,_⟩ | ⟨g1,_⟩
   · exact⟨hb.trans gb.symm,he.trans ge.symm⟩
   all_goals (rw [h1]at g1;cases g1)
 · rcases h' with⟨g1,_⟩ | ⟨g1,g2,gb,ge⟩ | ⟨g1,g2,_⟩ | ⟨g1,g2,_⟩
   · rw [h1]at g1;cases g1
   · exact⟨hb.trans gb.symm,he.trans ge.symm⟩
   all_goals exact absurd g2 h2
 · rcases h' with⟨g1,_⟩ | ⟨g1,g2,_⟩ | ⟨g1,g2,g3,gb,ge⟩ | ⟨g1,g2,K',oK',eK',_⟩
   · rw [h1]at g1;cases g1
   · exact absurd h2 g2
   · exact⟨hb.trans gb.symm,he.trans ge.symm⟩
   · exact absurd eK' (h3 K' oK')
 · rcases h' with⟨g1,_⟩ | ⟨g1,g2,_⟩ | ⟨g1,g2,g3,gb,ge⟩ | ⟨g1,g2,K',oK',eK',ge,g3⟩
   · rw [h1]at g1;cases g1
   · exact absurd h2 g2
   · exact absurd eK (g3 K oK)
   · obtain rfl:K=K':=lV (eK.symm.trans eK')
     refine⟨?_,he.trans ge.symm⟩
     rw [Bool.eq_iff_iff,h3,g3]
theorem S_OpenPt {m:Mem} {K:AV->Mem->Prop} {v w:AV} {P:Pt Fp} {a b:Int} {f:Nat->Int} (hv:v=ptA P) (hw:w= .agg (rowL f)) (oP:On P) (ha:isD a=true) (hb:isD b=true) (hf:∀ i,i<32->0<=f i/\f i<=255) (h:∀ n,n=ofZ (tnF P a b f)->n<w256->K (.tup [numA n,.int .i64 0]) m):ACall Pg mJ [v,.int .i64 a,.int .i64 b,w] m K:=by
 subst hv hw
 refine S_Open (i:=isI P) (x:=xN P) (y:=yN P) (f:=f) (xN_w P) (yN_w P) hf (fun h=>by rw [ha,hb]at h;cases h) (fun _ _ h=>absurd rfl (h P oP)) (fun _ _ P2 n2 oP2 eP2 hn2=> ?_)
 obtain rfl:P=P2:=lV eP2
 exact h n2 hn2 (by rw [hn2];exact ofZ_lt (fun i _=>jQ _ _))
def VerE (r:Nat) (D:Nat->Dl) (i j:Int) (ki:Bool) (kx ky c s:Nat) (e:Int):Prop:= ∃ b e0,FitE r D i j ki kx ky b e0/\
 ((e0 ≠ 0/\e=e0)\/(e0=0/\(Bad (D (i.toNat - 1)).i (D (i.toNat - 1)).x (D (i.toNat - 1)).y\/Bad (D (j.toNat - 1)).i (D (j.toNat - 1)).x (D (j.toNat - 1)).y)/\e=3)\/
  (e0=0/\∃ A B P,On A/\On B/\On P/\rawA (D (i.toNat - 1)).i (D (i.toNat - 1)).x (D (i.toNat - 1)).y=ptA A/\rawA (D (j.toNat - 1)).i (D (j.toNat - 1)).x (D (j.toNat - 1)).y=ptA B/\rawA ki kx ky=ptA P/\
   e=if hoB B A P c s=true then (if b=true then 13 else 0)else 12))
theorem VerE.same {r:Nat} {D:Nat->Dl} {i j:Int} {ki:Bool} {kx ky c s:Nat} {e e':Int} (h:VerE r D i j ki kx ky c s e) (h':VerE r D i j ki kx ky c s e'):e=e':=by
 obtain⟨b,e0,hf,h⟩:=h
 obtain⟨b',e0',hf',h'⟩:=h'
 obtain⟨rfl,rfl⟩:=hf.same hf'
 rcases h with⟨h1,h2⟩ | ⟨h1,h2,h3⟩ | ⟨h1,A,B,P,oA,oB,oP,eA,eB,eP,h3⟩
 · rcases h' with⟨g1,g2⟩ | ⟨g1,g2,g3⟩ | ⟨g1,_⟩
   · rw [h2,g2]
   · exact absurd g1 h1
   · exact absurd g1 h1
 · rcases h' with⟨g1,g2⟩ | ⟨g1,g2,g3⟩ | ⟨g1,A,B,P,oA,oB,oP,eA,eB,eP,g3⟩
   · exact absurd h1 g1
   · rw [h3,g3]
   · rcases h2 with h | h
     · exact absurd eA (h A oA)
     · exact absurd eB (h B oB)
 · rcases h' with⟨g1,g2⟩ | ⟨g1,g2,g3⟩ | ⟨g1,A',B',P',oA',oB',oP',eA',eB',eP',g3⟩
   · exact absurd h1 g1
   · rcases g2 with h | h
     · exact absurd eA (h A oA)
     · exact absurd eB (h B oB)
   · obtain rfl:A=A':=lV (eA.symm.trans eA')
     obtain rfl:B=B':=lV (eB.symm.trans eB')
     obtain rfl:P=P':=lV (eP.symm.trans eP')
     rw [h3,g3]
end Go.Proofs.YtfolpdmbpbbimaaGreat
end

