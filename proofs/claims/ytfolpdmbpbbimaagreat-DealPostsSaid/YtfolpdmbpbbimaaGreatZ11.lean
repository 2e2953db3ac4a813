/- Texts of a proof, one behind the other; the last of these: One's share of the key, called; no condition. -/
import Derived.Test.YtfolpdmbpbbimaaGreatZ10
set_option linter.unusedVariables false
set_option linter.unusedSimpArgs false
set_option maxRecDepth 100000
section
namespace Go.Proofs.YtfolpdmbpbbimaaGreat
open Go Go.Wit
theorem aCc {m:Mem} {x z:AV} {K:AV->Mem->Prop} {n t:Nat} {f:Nat->Int} {r:Nat} {D:Nat->Dl} {me:Nat} (hx:aM m x n f) (hz:aT m z r D) (hn:n<=16384) (ht:t<64) (hf:∀ i,i<n->0<=f i/\f i<=255) (hr:r<=1000) (hm:1<=me/\me<=r) (hD:∀ k,k<r->OkD (D k)/\(D k).nc<=64)
 (h:∀ y e,(y,e)=finL (secN n f) t (coN n f) r D me r->y<nN->K (.tup [numA y,.int .i64 e]) m):ACall Pg jO [x,.int .i64 t,z,.int .i64 me] m K:=by
 obtain⟨cap,hl⟩:=hx
 obtain⟨c1,d1,d2,hl2⟩:=hz
 refine aC (S_dFinal0 n cap t f r c1 d1 d2 D me hn ht hf hr hm hD) (.cons _ _ _ _ hl (.cons _ _ _ _ aG (.cons _ _ _ _ hl2 (.cons _ _ _ _ aG .nil)))) ?_
 rintro v rfl
 exact h _ _ rfl (finL_lt r)
theorem aCf {m:Mem} {x z:AV} {K:AV->Mem->Prop} {n t:Nat} {f:Nat->Int} {r:Nat} {D:Nat->Dl} {me:Nat} (hx:aM m x n f) (hz:aT m z r D) (hn:n<=16384) (ht:t<64) (hf:∀ i,i<n->0<=f i/\f i<=255) (hr:r<=1000) (hm:1<=me/\me<=r) (hD:∀ k,k<r->OkD (D k)/\(D k).nc<=64)
 (h:∀ y e,(y,e)=finL (secN n f) t (coN n f) r D me r->y<nN->K (.tup [numA y,.int .i64 e]) m):ACall Pg dM [x,.int .i64 t,z,.int .i64 me] m K:=by
 obtain⟨cap,hl⟩:=hx
 obtain⟨c1,d1,d2,hl2⟩:=hz
 refine aC (S_RFinal0 n cap t f r c1 d1 d2 D me hn ht hf hr hm hD) (.cons _ _ _ _ hl (.cons _ _ _ _ aG (.cons _ _ _ _ hl2 (.cons _ _ _ _ aG .nil)))) ?_
 rintro v rfl
 exact h _ _ rfl (finL_lt r)
theorem zM {m:Mem} {x z:AV} {K:AV->Mem->Prop} {n:Nat} {f:Nat->Int} {r:Nat} {D:Nat->Dl} {t me:Int} (hx:aM m x n f) (hz:aT m z r D) (hn:n<=16384) (hf:∀ i,i<n->0<=f i/\f i<=255) (ht:t<64) (hb:t<0\/¬ (1<=me/\me<=r)) (h:K (.tup [numA 0,.int .i64 1]) m):ACall Pg jO [x,.int .i64 t,z,.int .i64 me] m K:=by
 have h0:∀ cap c1 d1 d2,ACall Pg jO [.vsl 1 n cap (aB f),.int .i64 t,.vsl 26 r c1 (dlG D d1 d2),.int .i64 me] [] (fun v _=>v= .tup [numA 0,.int .i64 1] /\ Flat true v):=fun cap c1 d1 d2=>by
  refine zQ ⟨rfl,?_⟩
  conv=>whnf
  repeat (refine⟨⟨_,rfl⟩,?_⟩;conv=>whnf)
  by_cases ht0:t<0
  · refine S_Poly_arg (n:=n) (f:=f) aM.vsl hn (.inl ht0) (fun cap g=> ?_)
    conv=>whnf
    repeat (refine⟨⟨_,rfl⟩,?_⟩;conv=>whnf)
    refine⟨show _=AV.tup [numA 0,.int .i64 1]from rfl,?_⟩
    show Flat true (.tup [numA 0,.int .i64 1])
    exact lE
  · have hb3:¬ (1<=me/\me<=r):=by rcases hb with h | h;exact absurd h ht0;exact h
    obtain⟨t,rfl⟩ :∃ q:Nat,t=q:=⟨t.toNat,by omega⟩
    refine S_Poly (n:=n) (t:=t) (f:=f) aM.vsl hn (by omega) hf (fun c' cc hc' hcN _=> ?_)
    conv=>whnf
    repeat (refine⟨⟨_,rfl⟩,?_⟩;conv=>whnf)
    refine S_dnum (n:=r) (D:=D) (i:=me) aT.vsl (fun b hb2=> ?_)
    have hb2:b=false:=by
     rw [hb2]
     by_cases h1:1<=me
     · rw [decide_eq_true h1,decide_eq_false (fun h=>hb3 ⟨h1,h⟩)];rfl
     · rw [decide_eq_false h1];rfl
    subst hb2
    conv=>whnf
    repeat (refine⟨⟨_,rfl⟩,?_⟩;conv=>whnf)
    refine⟨show _=AV.tup [numA 0,.int .i64 1]from rfl,?_⟩
    show Flat true (.tup [numA 0,.int .i64 1])
    exact lE
 obtain⟨cap,hl⟩:=hx
 obtain⟨c1,d1,d2,hl2⟩:=hz
 refine aC (h0 cap c1 d1 d2) (.cons _ _ _ _ hl (.cons _ _ _ _ aG (.cons _ _ _ _ hl2 (.cons _ _ _ _ aG .nil)))) ?_
 rintro v rfl
 exact h
theorem zN {m:Mem} {x z:AV} {K:AV->Mem->Prop} {n:Nat} {f:Nat->Int} {r:Nat} {D:Nat->Dl} {t me:Int} (hx:aM m x n f) (hz:aT m z r D) (ht:t<64) (hb:t<0\/¬ (1<=me/\me<=r)) (h:K (.tup [numA 0,.int .i64 1]) m):ACall Pg dM [x,.int .i64 t,z,.int .i64 me] m K:=by
 have h0:∀ cap c1 d1 d2,ACall Pg dM [.vsl 1 n cap (aB f),.int .i64 t,.vsl 26 r c1 (dlG D d1 d2),.int .i64 me] [] (fun v _=>v= .tup [numA 0,.int .i64 1] /\ Flat true v):=fun cap c1 d1 d2=>by
  refine nH ⟨rfl,?_⟩
  conv=>whnf
  repeat (refine⟨⟨_,rfl⟩,?_⟩;conv=>whnf)
  refine aE (fun h1=> ?_) (fun h1=> ?_)
  rotate_left
  · conv=>whnf
    repeat (refine⟨⟨_,rfl⟩,?_⟩;conv=>whnf)
    refine⟨show _=AV.tup [numA 0,.int .i64 1]from rfl,?_⟩
    show Flat true (.tup [numA 0,.int .i64 1])
    exact lE
  have h1:0<=t:=by simp at h1;omega
  conv=>whnf
  repeat (refine⟨⟨_,rfl⟩,?_⟩;conv=>whnf)
  refine aS (by simp;omega) ?_
  conv=>whnf
  repeat (refine⟨⟨_,rfl⟩,?_⟩;conv=>whnf)
  refine aE (fun h2=> ?_) (fun h2=> ?_)
  rotate_left
  · conv=>whnf
    repeat (refine⟨⟨_,rfl⟩,?_⟩;conv=>whnf)
    refine⟨show _=AV.tup [numA 0,.int .i64 1]from rfl,?_⟩
    show Flat true (.tup [numA 0,.int .i64 1])
    exact lE
  have h2:1<=me:=by simp at h2;omega
  conv=>whnf
  repeat (refine⟨⟨_,rfl⟩,?_⟩;conv=>whnf)
  refine aS (by simp;omega) ?_
  conv=>whnf
  repeat (refine⟨⟨_,rfl⟩,?_⟩;conv=>whnf)
  refine⟨show _=AV.tup [numA 0,.int .i64 1]from rfl,?_⟩
  show Flat true (.tup [numA 0,.int .i64 1])
  exact lE
 obtain⟨cap,hl⟩:=hx
 obtain⟨c1,d1,d2,hl2⟩:=hz
 refine aC (h0 cap c1 d1 d2) (.cons _ _ _ _ hl (.cons _ _ _ _ aG (.cons _ _ _ _ hl2 (.cons _ _ _ _ aG .nil)))) ?_
 rintro v rfl
 exact h
theorem S_PostM {m:Mem} {x z:AV} {K:AV->Mem->Prop} {n t:Nat} {f:Nat->Int} {r:Nat} {D:Nat->Dl} {me:Nat} (M:Nat) (hM:M+1=r) (hx:aM m x n f) (hz:aT m z r D) (hn:n<=16384) (ht:t<64) (hf:∀ i,i<n->0<=f i/\f i<=255) (hr:r<=8) (hm:1<=me/\me<=r) (hD:∀ k,k<r->On (ptOf (D k))/\rawA (D k).i (D k).x (D k).y=ptA (ptOf (D k))/\(D k).x<w256/\(D k).y<w256)
 (h:∀ S P c1 c2,S=sealN n f t D me->P=(fun i=>nmul (coN n f i) gG)->memK (m++ [some ⟨32,M,fN S⟩,some ⟨9,t+1,ptsG P⟩]) (K (.tup [actA 2 false 0 0 nB (.sl m.length 0 M c1) (.sl (m.length+1) 0 (t+1) c2) 0 0 0,.int .i64 0]))):ACall Pg gN [x,.int .i64 t,z,.int .i64 me] m K:=by
 obtain rfl:M=r - 1:=by omega
 exact S_Post hx hz hn ht hf hr hm hD h
end Go.Proofs.YtfolpdmbpbbimaaGreat
end

