/- Texts of a proof, one behind the other; the last of these: Whether a share fits, and what a dispute tells; no condition. -/
import Derived.Test.YtfolpdmbpbbimaaGreatZ8
set_option linter.unusedVariables false
set_option linter.unusedSimpArgs false
set_option maxRecDepth 100000
section
namespace Go.Proofs.YtfolpdmbpbbimaaGreat
open Go Go.Wit
structure AcT where
 k:Int
 i:Bool
 x:Nat
 y:Nat
 s:ByteArray
 ns:Nat
 S:Nat->Nat->Int
 nc:Nat
 I:Nat->Bool
 X:Nat->Nat
 Y:Nat->Nat
 ag:Int
 c:Nat
 r:Nat
def cI (S:Nat->Nat->Int):Nat->Nat->AV:=fun i j=> .int .u8 (S i j)
theorem dF {nv:Bool} {S:Nat->Nat->Int} {i j:Nat}:Flat nv (cI S i j):= .int _ _
theorem vK {n cap:Nat} {S:Nat->Nat->Int}:Flat false (.vsl 32 n cap (cI S)):= .vsl _ _ _ _ rfl fun _ _ _ _=>dF
theorem mV {n cap:Nat} {I:Nat->Bool} {X Y:Nat->Nat}:Flat false (.vsl 9 n cap (fY I X Y)):= .vsl _ _ _ _ rfl fun _ _ _ _=>mU
def actV (k:Int) (i:Bool) (x y:Nat) (s:ByteArray) (ns c1:Nat) (S:Nat->Nat->Int) (nc c2:Nat) (I:Nat->Bool) (X Y:Nat->Nat) (ag:Int) (c r:Nat):AV:=actA k i x y s (.vsl 32 ns c1 (cI S)) (.vsl 9 nc c2 (fY I X Y)) ag c r
def eqP9 (i:Bool) (x y:Nat) (j:Bool) (u v:Nat):Bool:=(i == j && (lim x 0 == lim u 0 && (lim x 1 == lim u 1 && (lim x 2 == lim u 2 && (lim x 3 == lim u 3 && (lim y 0 == lim v 0 && (lim y 1 == lim v 1 && (lim y 2 == lim v 2 && (lim y 3 == lim v 3 && true)))))))))
def eqR8 (c r d e:Nat):Bool:=(lim c 0 == lim d 0 && (lim c 1 == lim d 1 && (lim c 2 == lim d 2 && (lim c 3 == lim d 3 && (lim r 0 == lim e 0 && (lim r 1 == lim e 1 && (lim r 2 == lim e 2 && (lim r 3 == lim e 3 && true))))))))
theorem eqP9_refl {i:Bool} {x y:Nat}:eqP9 i x y i x y=true:=by simp [eqP9]
theorem eqR8_refl {c r:Nat}:eqR8 c r c r=true:=by simp [eqR8]
theorem eqR8_X {c r d e:Nat}:eqR8 c r d e=(eqX c d && eqX r e):=by
 simp only [eqR8,eqX,Bool.and_true,Bool.and_assoc]
theorem eqP9_X {i j:Bool} {x y u v:Nat}:eqP9 i x y j u v=(i == j && (eqX x u && eqX y v)):=by
 simp only [eqP9,eqX,Bool.and_true,Bool.and_assoc]
theorem zV {i j:Bool} {x y u v:Nat} (hx:x<w256) (hy:y<w256) (hu:u<w256) (hv:v<w256):eqP9 i x y j u v=true ↔ (i=j/\x=u/\y=v):=by
 rw [eqP9_X,gW hx hu,gW hy hv];simp
theorem eqR8_iff {c r d e:Nat} (hc:c<w256) (hr:r<w256) (hd:d<w256) (he:e<w256):eqR8 c r d e=true ↔ (c=d/\r=e):=by
 rw [eqR8_X,gW hc hd,gW hr he];simp
def empP (k:Int) (i:Bool) (x y:Nat) (s:ByteArray) (ns nc:Nat) (ag:Int) (c r:Nat):Prop:=
 ((k=1\/k=3\/k=4)\/(i=false/\x=0/\y=0))/\(k=1\/s.toList=nB.toList)/\(k=2\/ns=0)/\(k=2\/nc=0)/\(k=3\/ag=0)/\((k=3\/k=4)\/(c=0/\r=0))
theorem S_empty_1 (k:Int) (hk:k=1) (i:Bool) (x y:Nat) (s:ByteArray) (ns c1:Nat) (S:Nat->Nat->Int) (nc c2:Nat) (I:Nat->Bool) (X Y:Nat->Nat) (ag:Int) (c r:Nat) (hx:x<w256) (hy:y<w256) (hc:c<w256) (hr:r<w256):
    ACall Pg fN [actV k i x y s ns c1 S nc c2 I X Y ag c r] [] (fun v _=>(empP k i x y s ns nc ag c r/\v= .bool true)\/(¬ empP k i x y s ns nc ag c r/\v= .bool false)):=by
  subst hk
  refine lF ⟨rfl,?_⟩
  conv=>whnf
  repeat (refine⟨⟨_,rfl⟩,?_⟩;conv=>whnf)
  refine fB ⟨rfl,?_⟩
  conv=>whnf
  repeat (refine⟨⟨_,rfl⟩,?_⟩;conv=>whnf)
  refine lE ⟨rfl,?_⟩
  conv=>whnf
  repeat (refine⟨⟨_,rfl⟩,?_⟩;conv=>whnf)
  refine cH (Eq.trans (b:=(eqP9 i x y i x y == true)) rfl (by rw [eqP9_refl];rfl)) ?_
  conv=>whnf
  repeat (refine⟨⟨_,rfl⟩,?_⟩;conv=>whnf)
  refine cH (Eq.trans (b:=((s.toList == s.toList) == true)) rfl (by simp)) ?_
  conv=>whnf
  repeat (refine⟨⟨_,rfl⟩,?_⟩;conv=>whnf)
  refine aE (fun hq=> ?_) (fun hq=> ?_)
  rotate_left
  · have hns:¬ ns=0:=by simp at hq;omega
    conv=>whnf
    repeat (refine⟨⟨_,rfl⟩,?_⟩;conv=>whnf)
    exact .inr ⟨by unfold empP;simp [hns],rfl⟩
  have hns:ns=0:=by simp at hq;omega
  clear hq
  conv=>whnf
  repeat (refine⟨⟨_,rfl⟩,?_⟩;conv=>whnf)
  refine aE (fun hq=> ?_) (fun hq=> ?_)
  rotate_left
  · have hnc:¬ nc=0:=by simp at hq;omega
    conv=>whnf
    repeat (refine⟨⟨_,rfl⟩,?_⟩;conv=>whnf)
    exact .inr ⟨by unfold empP;simp [hnc],rfl⟩
  have hnc:nc=0:=by simp at hq;omega
  clear hq
  conv=>whnf
  repeat (refine⟨⟨_,rfl⟩,?_⟩;conv=>whnf)
  refine aE (fun hq=> ?_) (fun hq=> ?_)
  rotate_left
  · replace hq:((ag == 0) == true)=false:=Eq.trans rfl hq
    have hag:¬ ag=0:=by simpa using hq
    conv=>whnf
    repeat (refine⟨⟨_,rfl⟩,?_⟩;conv=>whnf)
    exact .inr ⟨by unfold empP;simp [hag],rfl⟩
  replace hq:((ag == 0) == true)=true:=Eq.trans rfl hq
  have hag:ag=0:=by simpa using hq
  clear hq
  conv=>whnf
  repeat (refine⟨⟨_,rfl⟩,?_⟩;conv=>whnf)
  have hE:=eqR8_iff hc hr (d:=0) (e:=0) (by decide) (by decide)
  cases hq:eqR8 c r 0 0 with
  | true =>
    obtain⟨q1,q2⟩:=hE.1 hq
    refine .inl ⟨by unfold empP;simp [*],?_⟩
    show AV.bool (eqR8 c r 0 0)=_
    rw [hq]
  | false =>
    have q2:¬ (c=0/\r=0):=fun h=>by rw [hE.2 h]at hq;cases hq
    refine .inr ⟨fun h=>by
      unfold empP at h
      rcases h.2.2.2.2.2 with h | h
      · exact absurd h (by decide)
      · exact q2 h,?_⟩
    show AV.bool (eqR8 c r 0 0)=_
    rw [hq]
theorem S_empty_2 (k:Int) (hk:k=2) (i:Bool) (x y:Nat) (s:ByteArray) (ns c1:Nat) (S:Nat->Nat->Int) (nc c2:Nat) (I:Nat->Bool) (X Y:Nat->Nat) (ag:Int) (c r:Nat) (hx:x<w256) (hy:y<w256) (hc:c<w256) (hr:r<w256):
    ACall Pg fN [actV k i x y s ns c1 S nc c2 I X Y ag c r] [] (fun v _=>(empP k i x y s ns nc ag c r/\v= .bool true)\/(¬ empP k i x y s ns nc ag c r/\v= .bool false)):=by
  subst hk
  refine lF ⟨rfl,?_⟩
  conv=>whnf
  repeat (refine⟨⟨_,rfl⟩,?_⟩;conv=>whnf)
  refine fB ⟨rfl,?_⟩
  conv=>whnf
  repeat (refine⟨⟨_,rfl⟩,?_⟩;conv=>whnf)
  refine lE ⟨rfl,?_⟩
  conv=>whnf
  repeat (refine⟨⟨_,rfl⟩,?_⟩;conv=>whnf)
  refine aE (fun hk=> ?_) (fun hk=> ?_)
  rotate_left
  · replace hk:(eqP9 i x y false 0 0 == true)=false:=Eq.trans rfl hk
    have hk2:¬ (i=false/\x=0/\y=0):=fun h=>by
      rw [(zV hx hy (by decide) (by decide)).2 h]at hk;cases hk
    conv=>whnf
    repeat (refine⟨⟨_,rfl⟩,?_⟩;conv=>whnf)
    exact .inr ⟨fun h=>by
      unfold empP at h
      rcases h.1 with h | h
      · exact absurd h (by decide)
      · exact hk2 h,rfl⟩
  replace hk:(eqP9 i x y false 0 0 == true)=true:=Eq.trans rfl hk
  have hk2:i=false/\x=0/\y=0:=(zV hx hy (by decide) (by decide)).1 (by simpa using hk)
  clear hk
  conv=>whnf
  repeat (refine⟨⟨_,rfl⟩,?_⟩;conv=>whnf)
  refine aE (fun hk=> ?_) (fun hk=> ?_)
  rotate_left
  · replace hk:((s.toList == nB.toList) == true)=false:=Eq.trans rfl hk
    have hl2:¬ (s.toList=nB.toList):=fun h=>by rw [h]at hk;simp at hk
    conv=>whnf
    repeat (refine⟨⟨_,rfl⟩,?_⟩;conv=>whnf)
    exact .inr ⟨fun h=>by
      unfold empP at h
      rcases h.2.1 with h | h
      · exact absurd h (by decide)
      · exact hl2 h,rfl⟩
  replace hk:((s.toList == nB.toList) == true)=true:=Eq.trans rfl hk
  have hl2:s.toList=nB.toList:=by simpa using hk
  clear hk
  conv=>whnf
  repeat (refine⟨⟨_,rfl⟩,?_⟩;conv=>whnf)
  refine cH (by simp) ?_
  conv=>whnf
  repeat (refine⟨⟨_,rfl⟩,?_⟩;conv=>whnf)
  refine cH (by simp) ?_
  conv=>whnf
  repeat (refine⟨⟨_,rfl⟩,?_⟩;conv=>whnf)
  refine aE (fun hq=> ?_) (fun hq=> ?_)
  rotate_left
  · replace hq:((ag == 0) == true)=false:=Eq.trans rfl hq
    have hag:¬ ag=0:=by simpa using hq
    conv=>whnf
    repeat (refine⟨⟨_,rfl⟩,?_⟩;conv=>whnf)
    exact .inr ⟨by unfold empP;simp [hag],rfl⟩
  replace hq:((ag == 0) == true)=true:=Eq.trans rfl hq
  have hag:ag=0:=by simpa using hq
  clear hq
  conv=>whnf
  repeat (refine⟨⟨_,rfl⟩,?_⟩;conv=>whnf)
  have hE:=eqR8_iff hc hr (d:=0) (e:=0) (by decide) (by decide)
  cases hq:eqR8 c r 0 0 with
  | true =>
    obtain⟨q1,q2⟩:=hE.1 hq
    refine .inl ⟨by unfold empP;simp [*],?_⟩
    show AV.bool (eqR8 c r 0 0)=_
    rw [hq]
  | false =>
    have q2:¬ (c=0/\r=0):=fun h=>by rw [hE.2 h]at hq;cases hq
    refine .inr ⟨fun h=>by
      unfold empP at h
      rcases h.2.2.2.2.2 with h | h
      · exact absurd h (by decide)
      · exact q2 h,?_⟩
    show AV.bool (eqR8 c r 0 0)=_
    rw [hq]
theorem S_empty_3 (k:Int) (hk:k=3) (i:Bool) (x y:Nat) (s:ByteArray) (ns c1:Nat) (S:Nat->Nat->Int) (nc c2:Nat) (I:Nat->Bool) (X Y:Nat->Nat) (ag:Int) (c r:Nat) (hx:x<w256) (hy:y<w256) (hc:c<w256) (hr:r<w256):
 ACall Pg fN [actV k i x y s ns c1 S nc c2 I X Y ag c r] [] (fun v _=>(empP k i x y s ns nc ag c r/\v= .bool true)\/(¬ empP k i x y s ns nc ag c r/\v= .bool false)):=by
 subst hk
 refine lF ⟨rfl,?_⟩
 conv=>whnf
 repeat (refine⟨⟨_,rfl⟩,?_⟩;conv=>whnf)
 refine fB ⟨rfl,?_⟩
 conv=>whnf
 repeat (refine⟨⟨_,rfl⟩,?_⟩;conv=>whnf)
 refine lE ⟨rfl,?_⟩
 conv=>whnf
 repeat (refine⟨⟨_,rfl⟩,?_⟩;conv=>whnf)
 refine cH (Eq.trans (b:=(eqP9 i x y i x y == true)) rfl (by rw [eqP9_refl];rfl)) ?_
 conv=>whnf
 repeat (refine⟨⟨_,rfl⟩,?_⟩;conv=>whnf)
 refine aE (fun hk=> ?_) (fun hk=> ?_)
 rotate_left
 · replace hk:((s.toList == nB.toList) == true)=false:=Eq.trans rfl hk
   have hl2:¬ (s.toList=nB.toList):=fun h=>by rw [h]at hk;simp at hk
   conv=>whnf
   repeat (refine⟨⟨_,rfl⟩,?_⟩;conv=>whnf)
   exact .inr ⟨fun h=>by
    unfold empP at h
    rcases h.2.1 with h | h
    · exact absurd h (by decide)
    · exact hl2 h,rfl⟩
 replace hk:((s.toList == nB.toList) == true)=true:=Eq.trans rfl hk
 have hl2:s.toList=nB.toList:=by simpa using hk
 clear hk
 conv=>whnf
 repeat (refine⟨⟨_,rfl⟩,?_⟩;conv=>whnf)
 refine aE (fun hq=> ?_) (fun hq=> ?_)
 rotate_left
 · have hns:¬ ns=0:=by simp at hq;omega
   conv=>whnf
   repeat (refine⟨⟨_,rfl⟩,?_⟩;conv=>whnf)
   exact .inr ⟨by unfold empP;simp [hns],rfl⟩
 have hns:ns=0:=by simp at hq;omega
 clear hq
 conv=>whnf
 repeat (refine⟨⟨_,rfl⟩,?_⟩;conv=>whnf)
 refine aE (fun hq=> ?_) (fun hq=> ?_)
 rotate_left
 · have hnc:¬ nc=0:=by simp at hq;omega
   conv=>whnf
   repeat (refine⟨⟨_,rfl⟩,?_⟩;conv=>whnf)
   exact .inr ⟨by unfold empP;simp [hnc],rfl⟩
 have hnc:nc=0:=by simp at hq;omega
 clear hq
 conv=>whnf
 repeat (refine⟨⟨_,rfl⟩,?_⟩;conv=>whnf)
 refine cH (Eq.trans (b:=((ag == ag) == true)) rfl (by simp)) ?_
 conv=>whnf
 repeat (refine⟨⟨_,rfl⟩,?_⟩;conv=>whnf)
 refine .inl ⟨by unfold empP;simp [*],?_⟩
 show AV.bool (eqR8 c r c r)=_
 rw [eqR8_refl]
theorem S_empty_4 (k:Int) (hk:k=4) (i:Bool) (x y:Nat) (s:ByteArray) (ns c1:Nat) (S:Nat->Nat->Int) (nc c2:Nat) (I:Nat->Bool) (X Y:Nat->Nat) (ag:Int) (c r:Nat) (hx:x<w256) (hy:y<w256) (hc:c<w256) (hr:r<w256):
 ACall Pg fN [actV k i x y s ns c1 S nc c2 I X Y ag c r] [] (fun v _=>(empP k i x y s ns nc ag c r/\v= .bool true)\/(¬ empP k i x y s ns nc ag c r/\v= .bool false)):=by
 subst hk
 refine lF ⟨rfl,?_⟩
 conv=>whnf
 repeat (refine⟨⟨_,rfl⟩,?_⟩;conv=>whnf)
 refine fB ⟨rfl,?_⟩
 conv=>whnf
 repeat (refine⟨⟨_,rfl⟩,?_⟩;conv=>whnf)
 refine lE ⟨rfl,?_⟩
 conv=>whnf
 repeat (refine⟨⟨_,rfl⟩,?_⟩;conv=>whnf)
 refine cH (Eq.trans (b:=(eqP9 i x y i x y == true)) rfl (by rw [eqP9_refl];rfl)) ?_
 conv=>whnf
 repeat (refine⟨⟨_,rfl⟩,?_⟩;conv=>whnf)
 refine aE (fun hk=> ?_) (fun hk=> ?_)
 rotate_left
 · replace hk:((s.toList == nB.toList) == true)=false:=Eq.trans rfl hk
   have hl2:¬ (s.toList=nB.toList):=fun h=>by rw [h]at hk;simp at hk
   conv=>whnf
   repeat (refine⟨⟨_,rfl⟩,?_⟩;conv=>whnf)
   exact .inr ⟨fun h=>by
    unfold empP at h
    rcases h.2.1 with h | h
    · exact absurd h (by decide)
    · exact hl2 h,rfl⟩
 replace hk:((s.toList == nB.toList) == true)=true:=Eq.trans rfl hk
 have hl2:s.toList=nB.toList:=by simpa using hk
 clear hk
 conv=>whnf
 repeat (refine⟨⟨_,rfl⟩,?_⟩;conv=>whnf)
 refine aE (fun hq=> ?_) (fun hq=> ?_)
 rotate_left
 · have hns:¬ ns=0:=by simp at hq;omega
   conv=>whnf
   repeat (refine⟨⟨_,rfl⟩,?_⟩;conv=>whnf)
   exact .inr ⟨by unfold empP;simp [hns],rfl⟩
 have hns:ns=0:=by simp at hq;omega
 clear hq
 conv=>whnf
 repeat (refine⟨⟨_,rfl⟩,?_⟩;conv=>whnf)
 refine aE (fun hq=> ?_) (fun hq=> ?_)
 rotate_left
 · have hnc:¬ nc=0:=by simp at hq;omega
   conv=>whnf
   repeat (refine⟨⟨_,rfl⟩,?_⟩;conv=>whnf)
   exact .inr ⟨by unfold empP;simp [hnc],rfl⟩
 have hnc:nc=0:=by simp at hq;omega
 clear hq
 conv=>whnf
 repeat (refine⟨⟨_,rfl⟩,?_⟩;conv=>whnf)
 refine aE (fun hq=> ?_) (fun hq=> ?_)
 rotate_left
 · replace hq:((ag == 0) == true)=false:=Eq.trans rfl hq
   have hag:¬ ag=0:=by simpa using hq
   conv=>whnf
   repeat (refine⟨⟨_,rfl⟩,?_⟩;conv=>whnf)
   exact .inr ⟨by unfold empP;simp [hag],rfl⟩
 replace hq:((ag == 0) == true)=true:=Eq.trans rfl hq
 have hag:ag=0:=by simpa using hq
 clear hq
 conv=>whnf
 repeat (refine⟨⟨_,rfl⟩,?_⟩;conv=>whnf)
 refine .inl ⟨by unfold empP;simp [*],?_⟩
 show AV.bool (eqR8 c r c r)=_
 rw [eqR8_refl]
theorem S_empty_5 (k:Int) (hk:k=5) (i:Bool) (x y:Nat) (s:ByteArray) (ns c1:Nat) (S:Nat->Nat->Int) (nc c2:Nat) (I:Nat->Bool) (X Y:Nat->Nat) (ag:Int) (c r:Nat) (hx:x<w256) (hy:y<w256) (hc:c<w256) (hr:r<w256):
    ACall Pg fN [actV k i x y s ns c1 S nc c2 I X Y ag c r] [] (fun v _=>(empP k i x y s ns nc ag c r/\v= .bool true)\/(¬ empP k i x y s ns nc ag c r/\v= .bool false)):=by
  subst hk
  refine lF ⟨rfl,?_⟩
  conv=>whnf
  repeat (refine⟨⟨_,rfl⟩,?_⟩;conv=>whnf)
  refine fB ⟨rfl,?_⟩
  conv=>whnf
  repeat (refine⟨⟨_,rfl⟩,?_⟩;conv=>whnf)
  refine lE ⟨rfl,?_⟩
  conv=>whnf
  repeat (refine⟨⟨_,rfl⟩,?_⟩;conv=>whnf)
  refine aE (fun hk=> ?_) (fun hk=> ?_)
  rotate_left
  · replace hk:(eqP9 i x y false 0 0 == true)=false:=Eq.trans rfl hk
    have hk2:¬ (i=false/\x=0/\y=0):=fun h=>by
      rw [(zV hx hy (by decide) (by decide)).2 h]at hk;cases hk
    conv=>whnf
    repeat (refine⟨⟨_,rfl⟩,?_⟩;conv=>whnf)
    exact .inr ⟨fun h=>by
      unfold empP at h
      rcases h.1 with h | h
      · exact absurd h (by decide)
      · exact hk2 h,rfl⟩
  replace hk:(eqP9 i x y false 0 0 == true)=true:=Eq.trans rfl hk
  have hk2:i=false/\x=0/\y=0:=(zV hx hy (by decide) (by decide)).1 (by simpa using hk)
  clear hk
  conv=>whnf
  repeat (refine⟨⟨_,rfl⟩,?_⟩;conv=>whnf)
  refine aE (fun hk=> ?_) (fun hk=> ?_)
  rotate_left
  · replace hk:((s.toList == nB.toList) == true)=false:=Eq.trans rfl hk
    have hl2:¬ (s.toList=nB.toList):=fun h=>by rw [h]at hk;simp at hk
    conv=>whnf
    repeat (refine⟨⟨_,rfl⟩,?_⟩;conv=>whnf)
    exact .inr ⟨fun h=>by
      unfold empP at h
      rcases h.2.1 with h | h
      · exact absurd h (by decide)
      · exact hl2 h,rfl⟩
  replace hk:((s.toList == nB.toList) == true)=true:=Eq.trans rfl hk
  have hl2:s.toList=nB.toList:=by simpa using hk
  clear hk
  conv=>whnf
  repeat (refine⟨⟨_,rfl⟩,?_⟩;conv=>whnf)
  refine aE (fun hq=> ?_) (fun hq=> ?_)
  rotate_left
  · have hns:¬ ns=0:=by simp at hq;omega
    conv=>whnf
    repeat (refine⟨⟨_,rfl⟩,?_⟩;conv=>whnf)
    exact .inr ⟨by unfold empP;simp [hns],rfl⟩
  have hns:ns=0:=by simp at hq;omega
  clear hq
  conv=>whnf
  repeat (refine⟨⟨_,rfl⟩,?_⟩;conv=>whnf)
  refine aE (fun hq=> ?_) (fun hq=> ?_)
  rotate_left
  · have hnc:¬ nc=0:=by simp at hq;omega
    conv=>whnf
    repeat (refine⟨⟨_,rfl⟩,?_⟩;conv=>whnf)
    exact .inr ⟨by unfold empP;simp [hnc],rfl⟩
  have hnc:nc=0:=by simp at hq;omega
  clear hq
  conv=>whnf
  repeat (refine⟨⟨_,rfl⟩,?_⟩;conv=>whnf)
  refine aE (fun hq=> ?_) (fun hq=> ?_)
  rotate_left
  · replace hq:((ag == 0) == true)=false:=Eq.trans rfl hq
    have hag:¬ ag=0:=by simpa using hq
    conv=>whnf
    repeat (refine⟨⟨_,rfl⟩,?_⟩;conv=>whnf)
    exact .inr ⟨by unfold empP;simp [hag],rfl⟩
  replace hq:((ag == 0) == true)=true:=Eq.trans rfl hq
  have hag:ag=0:=by simpa using hq
  clear hq
  conv=>whnf
  repeat (refine⟨⟨_,rfl⟩,?_⟩;conv=>whnf)
  have hE:=eqR8_iff hc hr (d:=0) (e:=0) (by decide) (by decide)
  cases hq:eqR8 c r 0 0 with
  | true =>
    obtain⟨q1,q2⟩:=hE.1 hq
    refine .inl ⟨by unfold empP;simp [*],?_⟩
    show AV.bool (eqR8 c r 0 0)=_
    rw [hq]
  | false =>
    have q2:¬ (c=0/\r=0):=fun h=>by rw [hE.2 h]at hq;cases hq
    refine .inr ⟨fun h=>by
      unfold empP at h
      rcases h.2.2.2.2.2 with h | h
      · exact absurd h (by decide)
      · exact q2 h,?_⟩
    show AV.bool (eqR8 c r 0 0)=_
    rw [hq]
end Go.Proofs.YtfolpdmbpbbimaaGreat
end

section
namespace Go.Proofs.YtfolpdmbpbbimaaGreat
open Go Go.Wit
theorem S_points0 (n cap:Nat) (P:Nat->Pt Fp) (oP:∀ i,i<n->On (P i)) (hn:n<=140737488355328):ACall Pg gR [.vsl 9 n cap (ptsG P)] [] (fun v _=>v= .bool true/\Flat true v):=by
 refine uK ⟨rfl,?_⟩
 conv=>whnf
 repeat (refine⟨⟨[],rfl⟩,?_⟩;conv=>whnf)
 refine aT aJ (I:=fun q l m=>∃ (k:Nat),l= [(2,.bool false),(5,.vsl 9 n cap (ptsG P)),(6,.int .i64 n),(7,.int .i64 k)] /\ m= [] /\ q+k=n) n
  (l0:= [(2,.bool false),(5,.vsl 9 n cap (ptsG P)),(6,.int .i64 n),(7,.int .i64 (0:Nat))]) (m0:= []) [] ⟨0,rfl,rfl,rfl⟩ ?_ ?_
 · exact .mk0 ⟨Flat.b rfl,.eq _ _ rfl (.vsl _ _ _ _ rfl (fun _ _ _ _=>bZ)),Flat.i rfl,Flat.i rfl,trivial⟩ trivial rfl rfl
 · rintro q l m ⟨k,rfl,rfl,hq⟩
   conv=>whnf
   repeat (refine⟨⟨[],rfl⟩,?_⟩;conv=>whnf)
   refine aE (fun hb=> ?_) (fun hb=> ?_)
   · have hb:k<n:=by simp at hb;omega
     conv=>whnf
     repeat (refine⟨⟨[],rfl⟩,?_⟩;conv=>whnf)
     refine aA (by simp;omega) ?_
     conv=>whnf
     repeat (refine⟨⟨[],rfl⟩,?_⟩;conv=>whnf)
     refine jJ (P:=P k) (oP k hb) ?_
     conv=>whnf
     repeat (refine⟨⟨[],rfl⟩,?_⟩;conv=>whnf)
     have e5:IntKind.i64.wrap ((k:Int)+1)=((k+1:Nat):Int):=by rw [w64 (by omega) (by omega)];omega
     refine⟨q - 1,[(2,.bool false),(5,.vsl 9 n cap (ptsG P)),(6,.int .i64 n),(7,.int .i64 ((k+1:Nat):Int))],[],[],by omega,⟨k+1,rfl,rfl,by omega⟩,?_⟩
     exact .mk0 ⟨Flat.b rfl,.eq _ _ rfl (.vsl _ _ _ _ rfl (fun _ _ _ _=>bZ)),Flat.i rfl,Flat.i e5,trivial⟩ trivial rfl rfl
   · conv=>whnf
     repeat (refine⟨⟨[],rfl⟩,?_⟩;conv=>whnf)
     exact⟨rfl,.bool _⟩
theorem S_points_bad0 (n cap:Nat) (I:Nat->Bool) (X Y:Nat->Nat) (hX:∀ i,i<n->X i<w256) (hY:∀ i,i<n->Y i<w256) (b:Nat) (hbn:b<n) (hb:Bad (I b) (X b) (Y b)) (hg:∀ k,k<b->∃ P,On P/\rawA (I k) (X k) (Y k)=ptA P) (hn:n<=140737488355328):ACall Pg gR [.vsl 9 n cap (fY I X Y)] [] (fun v _=>v= .bool false/\Flat true v):=by
 refine uK ⟨rfl,?_⟩
 conv=>whnf
 repeat (refine⟨⟨[],rfl⟩,?_⟩;conv=>whnf)
 refine aT aJ (I:=fun q l m=>∃ (k:Nat),l= [(2,.bool false),(5,.vsl 9 n cap (fY I X Y)),(6,.int .i64 n),(7,.int .i64 k)] /\ m= [] /\ q+k=n/\k<=b) n
  (l0:= [(2,.bool false),(5,.vsl 9 n cap (fY I X Y)),(6,.int .i64 n),(7,.int .i64 (0:Nat))]) (m0:= []) [] ⟨0,rfl,rfl,rfl,Nat.zero_le _⟩ ?_ ?_
 · exact .mk0 ⟨Flat.b rfl,.eq _ _ rfl (.vsl _ _ _ _ rfl (fun _ _ _ _=>mU)),Flat.i rfl,Flat.i rfl,trivial⟩ trivial rfl rfl
 · rintro q l m ⟨k,rfl,rfl,hq,hkb⟩
   conv=>whnf
   repeat (refine⟨⟨[],rfl⟩,?_⟩;conv=>whnf)
   refine aE (fun hc=> ?_) (fun hc=> ?_)
   · have hc:k<n:=by simp at hc;omega
     conv=>whnf
     repeat (refine⟨⟨[],rfl⟩,?_⟩;conv=>whnf)
     refine aA (by simp;omega) ?_
     conv=>whnf
     repeat (refine⟨⟨[],rfl⟩,?_⟩;conv=>whnf)
     refine S_Check (i:=I k) (x:=X k) (y:=Y k) (hX k hc) (hY k hc) (fun P oP e=> ?_) (fun hbk=> ?_)
     · have hne:k ≠ b:=fun h=>hb P oP (h ▸ e)
       conv=>whnf
       repeat (refine⟨⟨[],rfl⟩,?_⟩;conv=>whnf)
       have e5:IntKind.i64.wrap ((k:Int)+1)=((k+1:Nat):Int):=by rw [w64 (by omega) (by omega)];omega
       refine⟨q - 1,[(2,.bool false),(5,.vsl 9 n cap (fY I X Y)),(6,.int .i64 n),(7,.int .i64 ((k+1:Nat):Int))],[],[],by omega,⟨k+1,rfl,rfl,by omega,by omega⟩,?_⟩
       exact .mk0 ⟨Flat.b rfl,.eq _ _ rfl (.vsl _ _ _ _ rfl (fun _ _ _ _=>mU)),Flat.i rfl,Flat.i e5,trivial⟩ trivial rfl rfl
     · conv=>whnf
       repeat (refine⟨⟨[],rfl⟩,?_⟩;conv=>whnf)
       exact⟨rfl,.bool _⟩
   · have hc:¬ k<n:=by simp at hc;omega
     omega
theorem S_points {m:Mem} {x:AV} {K:AV->Mem->Prop} {n:Nat} {P:Nat->Pt Fp} (hx:bW m x 9 n (ptsG P)) (oP:∀ i,i<n->On (P i)) (hn:n<=140737488355328) (h:K (.bool true) m):ACall Pg gR [x] m K:=by
 obtain⟨cap,hl⟩:=hx
 refine aD (S_points0 n cap P oP hn) (.cons _ _ _ _ hl .nil) ?_
 rintro v rfl
 exact h
theorem S_points_bad {m:Mem} {x:AV} {K:AV->Mem->Prop} {n:Nat} {I:Nat->Bool} {X Y:Nat->Nat} (hx:bW m x 9 n (fY I X Y)) (hX:∀ i,i<n->X i<w256) (hY:∀ i,i<n->Y i<w256) {b:Nat} (hbn:b<n) (hb:Bad (I b) (X b) (Y b)) (hg:∀ k,k<b->∃ P,On P/\rawA (I k) (X k) (Y k)=ptA P) (hn:n<=140737488355328) (h:K (.bool false) m):ACall Pg gR [x] m K:=by
 obtain⟨cap,hl⟩:=hx
 refine aD (S_points_bad0 n cap I X Y hX hY b hbn hb hg hn) (.cons _ _ _ _ hl .nil) ?_
 rintro v rfl
 exact h
noncomputable def polyP (P:Nat->Pt Fp) (x:Nat):Nat->Pt Fp:=Nat.rec (motive:=fun _=>Pt Fp) .inf (fun k ih=>padd ih (nmul (x ^ k) (P k)))
theorem polyP_succ {P:Nat->Pt Fp} {x k:Nat}:polyP P x (k+1)=padd (polyP P x k) (nmul (x ^ k) (P k)):=rfl
theorem On.polyP {P:Nat->Pt Fp} {x n:Nat} (oP:∀ i,i<n->On (P i)):On (polyP P x n):=by
 induction n with
 | zero=>trivial
 | succ n ih=>exact (ih fun i hi=>oP i (by omega)).add crvP ((oP n (by omega)).nmul crvP _)
def z9:List AV:= [.bool false,.int .u64 0,.int .u64 0,.int .u64 0,.int .u64 0,.int .u64 0,.int .u64 0,.int .u64 0,.int .u64 0]
theorem flat_z9 {nv:Bool} {i:Nat}:Flat nv (z9.getD i .un):=by
 unfold z9
 match i with
 | 0=>exact .bool _
 | 1=>exact .int _ _
 | 2=>exact .int _ _
 | 3=>exact .int _ _
 | 4=>exact .int _ _
 | 5=>exact .int _ _
 | 6=>exact .int _ _
 | 7=>exact .int _ _
 | 8=>exact .int _ _
 | i+9=>simp;exact .un
theorem rv_one {nv:Bool} {σ:Nat->Option Nat} {l:List AV} {es i j:Nat} (hi:i<1) (hf:Flat nv (l.getD j .un)):RV nv σ (l.getD j .un) (lstG es l i j):=by
 obtain rfl:i=0:=by omega
 refine .eq _ _ ?_ hf
 show _=l.getD (0*es+j) .un
 rw [Nat.zero_mul,Nat.zero_add]
theorem mW {nv:Bool} {n i j:Nat}:Flat nv (lstG 1 (numL n) i j):=aI
theorem flat_ptG9 {nv:Bool} {P:Pt Fp} {i j:Nat}:Flat nv (lstG 9 (rawL (isI P) (xN P) (yN P)) i j):=tJ
theorem S_At0 (n cap:Nat) (P:Nat->Pt Fp) (x:Nat) (hx:x<w256) (oP:∀ i,i<n->On (P i)) (hn:n<=64):ACall Pg nE [.vsl 9 n cap (ptsG P),numA x] [] (fun v _=>v= .tup [ptA (polyP P x n),.int .i64 0] /\ Flat true v):=by
 refine B_feld_At ⟨rfl,?_⟩
 conv=>whnf
 repeat (refine⟨⟨[],rfl⟩,?_⟩;conv=>whnf)
 refine aE (fun h=> ?_) (fun h=> ?_)
 · exfalso;simp at h;omega
 conv=>whnf
 repeat (refine⟨⟨[],rfl⟩,?_⟩;conv=>whnf)
 refine S_points (P:=P) (bW.vsl fun _ _ _ _=>bZ) oP (by omega) ?_
 conv=>whnf
 repeat (refine⟨⟨[],rfl⟩,?_⟩;conv=>whnf)
 refine aT aJ (I:=fun q l m=>∃ (k:Nat) (O:Pt Fp) (w:Nat),l= [(3,.ptr 0 0 0),(4,.ptr 1 0 0),(6,.ptr 2 0 0),(7,.ptr 3 0 0),(22,.vsl 9 n cap (ptsG P)),(23,.int .i64 n),(24,.int .i64 k)] /\
  m= [some ⟨1,4,lstG 1 (numL x)⟩,some ⟨9,1,lstG 9 z9⟩,some ⟨9,1,lstG 9 (rawL (isI O) (xN O) (yN O))⟩,some ⟨1,4,lstG 1 (numL w)⟩] /\ q+k=n/\O=polyP P x k/\w=x ^ k % nN) n
  (l0:= [(3,.ptr 0 0 0),(4,.ptr 1 0 0),(6,.ptr 2 0 0),(7,.ptr 3 0 0),(22,.vsl 9 n cap (ptsG P)),(23,.int .i64 n),(24,.int .i64 (0:Nat))])
  (m0:= [some ⟨1,4,lstG 1 (numL x)⟩,some ⟨9,1,lstG 9 z9⟩,some ⟨9,1,lstG 9 (rawL true 0 0)⟩,some ⟨1,4,lstG 1 (numL 1)⟩]) [some 0,some 1,some 2,some 3] ⟨0,.inf,1,rfl,rfl,rfl,rfl,by rw [Nat.pow_zero,Nat.mod_eq_of_lt (by decide)]⟩ ?_ ?_
 · refine .mk0 ⟨.ptr _ _ _ _ rfl,.ptr _ _ _ _ rfl,.ptr _ _ _ _ rfl,.ptr _ _ _ _ rfl,.eq _ _ rfl (.vsl _ _ _ _ rfl (fun _ _ _ _=>bZ)),Flat.i rfl,Flat.i rfl,trivial⟩ ⟨.old 0 0 _ _ rfl rfl ⟨rfl,Nat.le_refl _,fun i j hi hj=> .eq _ _ rfl aI⟩,
    .old 1 1 _ _ rfl rfl ⟨rfl,Nat.le_refl _,fun i j hi hj=>rv_one (l:=z9) hi flat_z9⟩,.old 2 2 _ _ rfl rfl ⟨rfl,Nat.le_refl _,fun i j hi hj=> ?_⟩,.old 3 3 _ _ rfl rfl ⟨rfl,Nat.le_refl _,fun i j hi hj=> ?_⟩,trivial⟩ rfl rfl
   · have hj:j<9:=hj
     have hi:i<1:=hi
     obtain rfl:i=0:=by omega
     have:j=0\/j=1\/j=2\/j=3\/j=4\/j=5\/j=6\/j=7\/j=8:=by omega
     rcases this with rfl | rfl | rfl | rfl | rfl | rfl | rfl | rfl | rfl
     · exact .eq _ _ rfl (.bool _)
     all_goals exact .eq _ _ rfl (.int _ _)
   · have hj:j<1:=hj
     have hi:i<4:=hi
     obtain rfl:j=0:=by omega
     have:i=0\/i=1\/i=2\/i=3:=by omega
     rcases this with rfl | rfl | rfl | rfl <;> exact .eq _ _ rfl (.int _ _)
 · rintro q l m ⟨k,O,w,rfl,rfl,hq,hO,hw⟩
   have hw1:w<w256:=by rw [hw];exact Nat.lt_trans (Nat.mod_lt _ (by decide)) (by decide)
   conv=>whnf
   repeat (refine⟨⟨[],rfl⟩,?_⟩;conv=>whnf)
   refine aE (fun hb=> ?_) (fun hb=> ?_)
   · have hb:k<n:=by simp at hb;omega
     have oO:On O:=by rw [hO];exact On.polyP fun i hi=>oP i (by omega)
     conv=>whnf
     repeat (refine⟨⟨[],rfl⟩,?_⟩;conv=>whnf)
     refine aA (by simp;omega) ?_
     conv=>whnf
     repeat (refine⟨⟨[],rfl⟩,?_⟩;conv=>whnf)
     refine T_Two (n:=1) (k:=w) (P:=O) (Q:=P k) (by decide) hw1 oO (oP k hb) (fun R oR hR=> ?_)
     have hR:R=polyP P x (k+1):=by rw [hR,nmul_one',hw,nmul_mod_all (oP k hb),polyP_succ,hO]
     conv=>whnf
     repeat (refine⟨⟨[],rfl⟩,?_⟩;conv=>whnf)
     refine S_FMul_1 hw1 hx (fun v hv=> ?_)
     have hv:v=x ^ (k+1) % nN:=by rw [hv,hw,Nat.mod_mul_mod,Nat.pow_succ]
     conv=>whnf
     repeat (refine⟨⟨[],rfl⟩,?_⟩;conv=>whnf)
     have e5:IntKind.i64.wrap ((k:Int)+1)=((k+1:Nat):Int):=by rw [w64 (by omega) (by omega)];omega
     refine⟨q - 1,_,_,[some 0,some 1,some 2,some 3],by omega,⟨k+1,R,v,rfl,rfl,by omega,hR,hv⟩,?_⟩
     refine .mk0 ⟨.ptr _ _ _ _ rfl,.ptr _ _ _ _ rfl,.ptr _ _ _ _ rfl,.ptr _ _ _ _ rfl,.eq _ _ rfl (.vsl _ _ _ _ rfl (fun _ _ _ _=>bZ)),Flat.i rfl,Flat.i e5,trivial⟩ ⟨.old 0 0 _ _ rfl rfl ⟨rfl,Nat.le_refl _,fun i j hi hj=> .eq _ _ rfl mW⟩,
      .old 1 1 _ _ rfl rfl ⟨rfl,Nat.le_refl _,fun i j hi hj=> .eq _ _ rfl flat_z9⟩,.old 2 2 _ _ rfl rfl ⟨rfl,Nat.le_refl _,fun i j hi hj=> .eq _ _ rfl flat_ptG9⟩,.old 3 3 _ _ rfl rfl ⟨rfl,Nat.le_refl _,fun i j hi hj=> .eq _ _ rfl mW⟩,trivial⟩ rfl rfl
   · have hb:k=n:=by simp at hb;omega
     subst hb
     conv=>whnf
     repeat (refine⟨⟨[],rfl⟩,?_⟩;conv=>whnf)
     rw [<- hO]
     exact⟨rfl,.tup _ (.cons _ _ bU (.cons _ _ (.int _ _) .nil))⟩
end Go.Proofs.YtfolpdmbpbbimaaGreat
end

section
namespace Go.Proofs.YtfolpdmbpbbimaaGreat
open Go Go.Wit
def fulP (i:Bool) (x y:Nat):Prop:=i=false/\∃ P,On P/\rawA i x y=ptA P
def allP (nc:Nat) (I:Nat->Bool) (X Y:Nat->Nat):Prop:=I 0=false/\∀ j,j<nc->∃ P,On P/\rawA (I j) (X j) (Y j)=ptA P
open Classical in
noncomputable def subE (i:Bool) (x y c r:Nat):Int:=if fulP i x y then (if c<nN/\r<nN then 0 else 2)else 3
open Classical in
noncomputable def chkE (k:Int) (i:Bool) (x y:Nat) (s:ByteArray) (ns nc:Nat) (I:Nat->Bool) (X Y:Nat->Nat) (ag:Int) (c r:Nat):Int:=
 if 1<=k/\k<=5 then
  (if empP k i x y s ns nc ag c r then
   (if k=1 then (if fulP i x y then (if labOK s=true then 0 else 8)else 3)
   else if k=2 then (if ns<=8/\1<=nc/\nc<=64 then (if allP nc I X Y then 0 else 3)else 4)
   else if k=3 then (if 1<=ag/\ag<=8 then subE i x y c r else 1)
   else if k=4 then subE i x y c r else 0)
  else 1)
 else 19
theorem S_apoint {m:Mem} {K:AV->Mem->Prop} {i:Bool} {x y:Nat} (hx:x<w256) (hy:y<w256) (h1:fulP i x y->K (.bool true) m) (h2:¬ fulP i x y->K (.bool false) m):ACall Pg jK [rawA i x y] m K:=by
  have h0:ACall Pg jK [rawA i x y] [] (fun v _=>((fulP i x y/\v= .bool true)\/(¬ fulP i x y/\v= .bool false))/\Flat true v):=by
    refine B_act_point ⟨rfl,?_⟩
    cases i with
    | true =>
      conv=>whnf
      repeat (refine⟨⟨_,rfl⟩,?_⟩;conv=>whnf)
      exact⟨.inr ⟨fun h=>(by cases h.1),rfl⟩,.bool _⟩
    | false =>
      conv=>whnf
      repeat (refine⟨⟨_,rfl⟩,?_⟩;conv=>whnf)
      refine S_Check (i:=false) hx hy (fun P oP eP=> ?_) (fun hb=> ?_)
      · conv=>whnf
        repeat (refine⟨⟨_,rfl⟩,?_⟩;conv=>whnf)
        exact⟨.inl ⟨⟨rfl,P,oP,eP⟩,rfl⟩,.bool _⟩
      · conv=>whnf
        repeat (refine⟨⟨_,rfl⟩,?_⟩;conv=>whnf)
        exact⟨.inr ⟨fun ⟨_,P,oP,eP⟩=>hb P oP eP,rfl⟩,.bool _⟩
  refine aD h0 (.cons _ _ _ _ (aG cG) .nil) ?_
  rintro v (⟨h,rfl⟩ | ⟨h,rfl⟩)
  · exact h1 h
  · exact h2 h
theorem S_aproof {m:Mem} {K:AV->Mem->Prop} {v:AV} {c r:Nat} (hv:v=prA c r) (hc:c<w256) (hr:r<w256) (h1:c<nN->r<nN->K (.bool true) m) (h2:¬ (c<nN/\r<nN)->K (.bool false) m):ACall Pg pD [v] m K:=by
 subst hv
 have h0:ACall Pg pD [prA c r] [] (fun v _=>((c<nN/\r<nN/\v= .bool true)\/(¬ (c<nN/\r<nN)/\v= .bool false))/\Flat true v):=by
  refine B_act_proof ⟨rfl,?_⟩
  conv=>whnf
  repeat (refine⟨⟨_,rfl⟩,?_⟩;conv=>whnf)
  refine kY (fun p hp=> ?_)
  conv=>whnf
  repeat (refine⟨⟨_,rfl⟩,?_⟩;conv=>whnf)
  refine S_LCmpE (a:=c) (b:=p) rfl rfl hc (by rw [hp];decide) (fun z1 hz1=> ?_)
  rcases mI hz1 with⟨g1,rfl⟩ | ⟨g1,rfl | rfl⟩
  · clear hz1
    conv=>whnf
    repeat (refine⟨⟨_,rfl⟩,?_⟩;conv=>whnf)
    refine S_LCmpE (a:=r) (b:=p) rfl rfl hr (by rw [hp];decide) (fun z2 hz2=> ?_)
    rcases mI hz2 with⟨g2,rfl⟩ | ⟨g2,rfl | rfl⟩
    · clear hz2
      conv=>whnf
      repeat (refine⟨⟨_,rfl⟩,?_⟩;conv=>whnf)
      exact⟨.inl ⟨by omega,by omega,rfl⟩,.bool _⟩
    · clear hz2
      conv=>whnf
      repeat (refine⟨⟨_,rfl⟩,?_⟩;conv=>whnf)
      exact⟨.inr ⟨by omega,rfl⟩,.bool _⟩
    · clear hz2
      conv=>whnf
      repeat (refine⟨⟨_,rfl⟩,?_⟩;conv=>whnf)
      exact⟨.inr ⟨by omega,rfl⟩,.bool _⟩
  · clear hz1
    conv=>whnf
    repeat (refine⟨⟨_,rfl⟩,?_⟩;conv=>whnf)
    exact⟨.inr ⟨by omega,rfl⟩,.bool _⟩
  · clear hz1
    conv=>whnf
    repeat (refine⟨⟨_,rfl⟩,?_⟩;conv=>whnf)
    exact⟨.inr ⟨by omega,rfl⟩,.bool _⟩
 refine aD h0 (.cons _ _ _ _ (aG flat_prA) .nil) ?_
 rintro v (⟨g1,g2,rfl⟩ | ⟨g,rfl⟩)
 · exact h1 g1 g2
 · exact h2 g
def subA (i:Bool) (x y c r:Nat):AV:= .agg [.bool i,.int .u64 (lim x 0),.int .u64 (lim x 1),.int .u64 (lim x 2),.int .u64 (lim x 3),.int .u64 (lim y 0),.int .u64 (lim y 1),.int .u64 (lim y 2),.int .u64 (lim y 3),
 .int .u64 (lim c 0),.int .u64 (lim c 1),.int .u64 (lim c 2),.int .u64 (lim c 3),.int .u64 (lim r 0),.int .u64 (lim r 1),.int .u64 (lim r 2),.int .u64 (lim r 3)]
theorem flat_subA {nv:Bool} {i:Bool} {x y c r:Nat}:Flat nv (subA i x y c r):=by
 refine .agg _ (.cons _ _ (.bool _) ?_)
 repeat (first | exact .nil | refine .cons _ _ (.int _ _) ?_)
theorem S_apointE {m:Mem} {K:AV->Mem->Prop} {v:AV} {i:Bool} {x y:Nat} (hv:v=rawA i x y) (hx:x<w256) (hy:y<w256) (h1:fulP i x y->K (.bool true) m) (h2:¬ fulP i x y->K (.bool false) m):ACall Pg jK [v] m K:=by
 subst hv;exact S_apoint hx hy h1 h2
theorem S_sub {m:Mem} {K:AV->Mem->Prop} {v:AV} {i:Bool} {x y c r:Nat} (hv:v=subA i x y c r) (hx:x<w256) (hy:y<w256) (hc:c<w256) (hr:r<w256) (h:∀ e,e=subE i x y c r->K (.int .i64 e) m):ACall Pg cQ [v] m K:=by
 subst hv
 have h0:ACall Pg cQ [subA i x y c r] [] (fun v _=>v= .int .i64 (subE i x y c r)/\Flat true v):=by
  refine qO ⟨rfl,?_⟩
  conv=>whnf
  repeat (refine⟨⟨_,rfl⟩,?_⟩;conv=>whnf)
  refine S_apointE (i:=i) (x:=x) (y:=y) rfl hx hy (fun hf=> ?_) (fun hf=> ?_)
  · conv=>whnf
    repeat (refine⟨⟨_,rfl⟩,?_⟩;conv=>whnf)
    refine S_aproof (c:=c) (r:=r) rfl hc hr (fun g1 g2=> ?_) (fun g=> ?_)
    · conv=>whnf
      repeat (refine⟨⟨_,rfl⟩,?_⟩;conv=>whnf)
      exact⟨by unfold subE;rw [if_pos hf,if_pos ⟨g1,g2⟩],.int _ _⟩
    · conv=>whnf
      repeat (refine⟨⟨_,rfl⟩,?_⟩;conv=>whnf)
      exact⟨by unfold subE;rw [if_pos hf,if_neg g],.int _ _⟩
  · conv=>whnf
    repeat (refine⟨⟨_,rfl⟩,?_⟩;conv=>whnf)
    exact⟨by unfold subE;rw [if_neg hf],.int _ _⟩
 refine aD h0 (.cons _ _ _ _ (aG flat_subA) .nil) ?_
 rintro v rfl
 exact h _ rfl
def postA (ns c1:Nat) (S:Nat->Nat->Int) (nc c2:Nat) (I:Nat->Bool) (X Y:Nat->Nat):AV:= .agg [.vsl 32 ns c1 (cI S),.vsl 9 nc c2 (fY I X Y)]
theorem flat_postA {ns c1:Nat} {S:Nat->Nat->Int} {nc c2:Nat} {I:Nat->Bool} {X Y:Nat->Nat}:Flat false (postA ns c1 S nc c2 I X Y):= .agg _ (.cons _ _ vK (.cons _ _ mV .nil))
open Classical in
noncomputable def pstE (ns nc:Nat) (I:Nat->Bool) (X Y:Nat->Nat):Int:=if ns<=8/\1<=nc/\nc<=64 then (if allP nc I X Y then 0 else 3)else 4
theorem S_CheckE {m:Mem} {K:AV->Mem->Prop} {v:AV} {i:Bool} {x y:Nat} (hv:v=rawA i x y) (hx:x<w256) (hy:y<w256) (h1:∀ P,On P->rawA i x y=ptA P->K (.int .i64 0) m) (h2:Bad i x y->K (.int .i64 3) m):ACall Pg bJ [v] m K:=by
 subst hv;exact S_Check hx hy h1 h2
theorem S_post0 (ns c1:Nat) (S:Nat->Nat->Int) (nc c2:Nat) (I:Nat->Bool) (X Y:Nat->Nat) (hX:∀ j,j<nc->X j<w256) (hY:∀ j,j<nc->Y j<w256):ACall Pg eG [postA ns c1 S nc c2 I X Y] [] (fun v _=>v= .int .i64 (pstE ns nc I X Y)/\Flat true v):=by
 refine uM ⟨rfl,?_⟩
 conv=>whnf
 repeat (refine⟨⟨_,rfl⟩,?_⟩;conv=>whnf)
 refine aE (fun h1=> ?_) (fun h1=> ?_)
 rotate_left
 · have h1:=of_neqf h1
   conv=>whnf
   repeat (refine⟨⟨_,rfl⟩,?_⟩;conv=>whnf)
   exact⟨by unfold pstE;rw [if_neg (by omega)],.int _ _⟩
 have h1:=of_eqf h1
 conv=>whnf
 repeat (refine⟨⟨_,rfl⟩,?_⟩;conv=>whnf)
 refine aE (fun h2=> ?_) (fun h2=> ?_)
 rotate_left
 · have h2:=of_neqf h2
   conv=>whnf
   repeat (refine⟨⟨_,rfl⟩,?_⟩;conv=>whnf)
   exact⟨by unfold pstE;rw [if_neg (by omega)],.int _ _⟩
 have h2:=of_eqf h2
 conv=>whnf
 repeat (refine⟨⟨_,rfl⟩,?_⟩;conv=>whnf)
 refine aE (fun h3=> ?_) (fun h3=> ?_)
 · have h3:=of_decide_eq_true h3
   conv=>whnf
   repeat (refine⟨⟨_,rfl⟩,?_⟩;conv=>whnf)
   exact⟨by unfold pstE;rw [if_neg (by omega)],.int _ _⟩
 have h3:=of_decide_eq_false h3
 have hE1:allP nc I X Y->pstE ns nc I X Y=0:=fun h=>by unfold pstE;rw [if_pos (by omega),if_pos h]
 have hE2:¬ allP nc I X Y->pstE ns nc I X Y=3:=fun h=>by unfold pstE;rw [if_pos (by omega),if_neg h]
 conv=>whnf
 repeat (refine⟨⟨_,rfl⟩,?_⟩;conv=>whnf)
 refine aT aJ (I:=fun q l m=>∃ (k:Nat),l= [(22,.vsl 9 nc c2 (fY I X Y)),(23,.int .i64 nc),(24,.int .i64 k)] /\ m= [] /\ q+k=nc/\(0<k->I 0=false)/\∀ j,j<k->∃ P,On P/\rawA (I j) (X j) (Y j)=ptA P) nc
  (l0:= [(22,.vsl 9 nc c2 (fY I X Y)),(23,.int .i64 nc),(24,.int .i64 (0:Nat))]) (m0:= []) [] ⟨0,rfl,rfl,rfl,fun h=>absurd h (by omega),fun j hj=>by omega⟩ ?_ ?_
 · exact .mk0 ⟨.eq _ _ rfl mV,Flat.i rfl,Flat.i rfl,trivial⟩ trivial rfl rfl
 · rintro q l m ⟨k,rfl,rfl,hq,hI,hA⟩
   conv=>whnf
   repeat (refine⟨⟨_,rfl⟩,?_⟩;conv=>whnf)
   refine aE (fun hb=> ?_) (fun hb=> ?_)
   · have hb:k<nc:=by simp at hb;omega
     conv=>whnf
     repeat (refine⟨⟨_,rfl⟩,?_⟩;conv=>whnf)
     refine aA (by simp;omega) ?_
     conv=>whnf
     repeat (refine⟨⟨_,rfl⟩,?_⟩;conv=>whnf)
     refine S_CheckE (i:=I k) (x:=X k) (y:=Y k) rfl (hX k hb) (hY k hb) (fun P oP eP=> ?_) (fun hbad=> ?_)
     · conv=>whnf
       repeat (refine⟨⟨_,rfl⟩,?_⟩;conv=>whnf)
       have e5:IntKind.i64.wrap ((k:Int)+1)=((k+1:Nat):Int):=by rw [w64 (by omega) (by omega)];omega
       have hA':∀ j,j<k+1->∃ P,On P/\rawA (I j) (X j) (Y j)=ptA P:=fun j hj=>by
        by_cases h:j=k
        · subst h;exact⟨P,oP,eP⟩
        · exact hA j (by omega)
       refine aE (fun h0=> ?_) (fun h0=> ?_)
       · have h0:k=0:=by simp at h0;omega
         conv=>whnf
         repeat (refine⟨⟨_,rfl⟩,?_⟩;conv=>whnf)
         refine aE (fun h4=> ?_) (fun h4=> ?_)
         · replace h4:I k=true:=h4
           conv=>whnf
           repeat (refine⟨⟨_,rfl⟩,?_⟩;conv=>whnf)
           exact⟨by rw [hE2 fun h=>by rw [h0,h.1]at h4;cases h4],.int _ _⟩
         · replace h4:I k=false:=h4
           conv=>whnf
           repeat (refine⟨⟨_,rfl⟩,?_⟩;conv=>whnf)
           refine⟨q - 1,[(22,.vsl 9 nc c2 (fY I X Y)),(23,.int .i64 nc),(24,.int .i64 ((k+1:Nat):Int))],[],[],by omega,⟨k+1,rfl,rfl,by omega,fun _=>by rw [<- h0];exact h4,hA'⟩,?_⟩
           exact .mk0 ⟨.eq _ _ rfl mV,Flat.i rfl,Flat.i e5,trivial⟩ trivial rfl rfl
       · have h0:¬ k=0:=by simp at h0;omega
         conv=>whnf
         repeat (refine⟨⟨_,rfl⟩,?_⟩;conv=>whnf)
         refine⟨q - 1,[(22,.vsl 9 nc c2 (fY I X Y)),(23,.int .i64 nc),(24,.int .i64 ((k+1:Nat):Int))],[],[],by omega,⟨k+1,rfl,rfl,by omega,fun _=>hI (by omega),hA'⟩,?_⟩
         exact .mk0 ⟨.eq _ _ rfl mV,Flat.i rfl,Flat.i e5,trivial⟩ trivial rfl rfl
     · conv=>whnf
       repeat (refine⟨⟨_,rfl⟩,?_⟩;conv=>whnf)
       exact⟨by rw [hE2 fun h=>(h.2 k hb).elim fun P hP=>hbad P hP.1 hP.2],.int _ _⟩
   · have hb:k=nc:=by simp at hb;omega
     subst hb
     conv=>whnf
     repeat (refine⟨⟨_,rfl⟩,?_⟩;conv=>whnf)
     exact⟨by rw [hE1 ⟨hI (by omega),hA⟩],.int _ _⟩
theorem S_post {m:Mem} {K:AV->Mem->Prop} {ns c1:Nat} {S:Nat->Nat->Int} {nc c2:Nat} {I:Nat->Bool} {X Y:Nat->Nat} (hX:∀ j,j<nc->X j<w256) (hY:∀ j,j<nc->Y j<w256) (h:K (.int .i64 (pstE ns nc I X Y)) m):ACall Pg eG [postA ns c1 S nc c2 I X Y] m K:=by
 refine aD (S_post0 ns c1 S nc c2 I X Y hX hY) (.cons _ _ _ _ (aG flat_postA) .nil) ?_
 rintro v rfl
 exact h
def regA (i:Bool) (x y:Nat) (s:ByteArray):AV:= .agg [.bool i,.int .u64 (lim x 0),.int .u64 (lim x 1),.int .u64 (lim x 2),.int .u64 (lim x 3),.int .u64 (lim y 0),.int .u64 (lim y 1),.int .u64 (lim y 2),.int .u64 (lim y 3),.str s]
def dspA (ag:Int) (i:Bool) (x y c r:Nat):AV:= .agg [.int .i64 ag,.bool i,.int .u64 (lim x 0),.int .u64 (lim x 1),.int .u64 (lim x 2),.int .u64 (lim x 3),.int .u64 (lim y 0),.int .u64 (lim y 1),.int .u64 (lim y 2),.int .u64 (lim y 3),
 .int .u64 (lim c 0),.int .u64 (lim c 1),.int .u64 (lim c 2),.int .u64 (lim c 3),.int .u64 (lim r 0),.int .u64 (lim r 1),.int .u64 (lim r 2),.int .u64 (lim r 3)]
theorem ACall.weak {P:Program} {f:FuncId} {args:List AV} {m:Mem} {K K2:AV->Mem->Prop} (h:ACall P f args m K) (hk:∀ v m',K v m'->K2 v m'):ACall P f args m K2:=
 ⟨h.callable,fun C w L cargs hR hv=>(h.run C w L cargs hR hv).mono fun en w' ⟨v,m',r,L',e,hK,rest⟩=>⟨v,m',r,L',e,hk v m' hK,rest⟩⟩
theorem S_empty {k:Int} {i:Bool} {x y:Nat} {s:ByteArray} {ns c1:Nat} {S:Nat->Nat->Int} {nc c2:Nat} {I:Nat->Bool} {X Y:Nat->Nat} {ag:Int} {c r:Nat} {m:Mem} {K:AV->Mem->Prop} (hk:1<=k/\k<=5) (hx:x<w256) (hy:y<w256) (hc:c<w256) (hr:r<w256)
 (h1:empP k i x y s ns nc ag c r->K (.bool true) m) (h2:¬ empP k i x y s ns nc ag c r->K (.bool false) m):ACall Pg fN [actV k i x y s ns c1 S nc c2 I X Y ag c r] m K:=by
 have h0:ACall Pg fN [actV k i x y s ns c1 S nc c2 I X Y ag c r] [] (fun v _=>((empP k i x y s ns nc ag c r/\v= .bool true)\/(¬ empP k i x y s ns nc ag c r/\v= .bool false))/\Flat true v):=by
  rcases(show k=1\/k=2\/k=3\/k=4\/k=5 by omega)with h | h | h | h | h
  · exact ACall.weak (S_empty_1 k h i x y s ns c1 S nc c2 I X Y ag c r hx hy hc hr) fun v m' hv=>⟨hv,by rcases hv with⟨_,rfl⟩ | ⟨_,rfl⟩ <;> exact .bool _⟩
  · exact ACall.weak (S_empty_2 k h i x y s ns c1 S nc c2 I X Y ag c r hx hy hc hr) fun v m' hv=>⟨hv,by rcases hv with⟨_,rfl⟩ | ⟨_,rfl⟩ <;> exact .bool _⟩
  · exact ACall.weak (S_empty_3 k h i x y s ns c1 S nc c2 I X Y ag c r hx hy hc hr) fun v m' hv=>⟨hv,by rcases hv with⟨_,rfl⟩ | ⟨_,rfl⟩ <;> exact .bool _⟩
  · exact ACall.weak (S_empty_4 k h i x y s ns c1 S nc c2 I X Y ag c r hx hy hc hr) fun v m' hv=>⟨hv,by rcases hv with⟨_,rfl⟩ | ⟨_,rfl⟩ <;> exact .bool _⟩
  · exact ACall.weak (S_empty_5 k h i x y s ns c1 S nc c2 I X Y ag c r hx hy hc hr) fun v m' hv=>⟨hv,by rcases hv with⟨_,rfl⟩ | ⟨_,rfl⟩ <;> exact .bool _⟩
 refine aD h0 (.cons _ _ _ _ (aG (flat_actA vK mV)) .nil) ?_
 rintro v (⟨h,rfl⟩ | ⟨h,rfl⟩)
 · exact h1 h
 · exact h2 h
open Classical in
noncomputable def regE (i:Bool) (x y:Nat) (s:ByteArray):Int:=if fulP i x y then (if labOK s=true then 0 else 8)else 3
open Classical in
noncomputable def dspE (ag:Int) (i:Bool) (x y c r:Nat):Int:=if 1<=ag/\ag<=8 then subE i x y c r else 1
theorem flat_regA {nv:Bool} {i:Bool} {x y:Nat} {s:ByteArray}:Flat nv (regA i x y s):=by
 refine .agg _ (.cons _ _ (.bool _) ?_)
 repeat (first | exact .nil | refine .cons _ _ (.int _ _) ?_ | refine .cons _ _ (.str _) ?_)
theorem flat_dspA {nv:Bool} {ag:Int} {i:Bool} {x y c r:Nat}:Flat nv (dspA ag i x y c r):=by
 refine .agg _ (.cons _ _ (.int _ _) (.cons _ _ (.bool _) ?_))
 repeat (first | exact .nil | refine .cons _ _ (.int _ _) ?_)
theorem S_reg {m:Mem} {K:AV->Mem->Prop} {v:AV} {i:Bool} {x y:Nat} {s:ByteArray} (hv:v=regA i x y s) (hx:x<w256) (hy:y<w256) (hs:s.size<=1000000000) (h:∀ e,e=regE i x y s->K (.int .i64 e) m):ACall Pg dR [v] m K:=by
 subst hv
 have h0:ACall Pg dR [regA i x y s] [] (fun v _=>v= .int .i64 (regE i x y s)/\Flat true v):=by
  refine pM ⟨rfl,?_⟩
  conv=>whnf
  repeat (refine⟨⟨_,rfl⟩,?_⟩;conv=>whnf)
  refine S_apointE (i:=i) (x:=x) (y:=y) rfl hx hy (fun hf=> ?_) (fun hf=> ?_)
  · conv=>whnf
    repeat (refine⟨⟨_,rfl⟩,?_⟩;conv=>whnf)
    refine S_label hs ?_
    conv=>whnf
    repeat (refine⟨⟨_,rfl⟩,?_⟩;conv=>whnf)
    exact⟨by unfold regE;rw [if_pos hf],.int _ _⟩
  · conv=>whnf
    repeat (refine⟨⟨_,rfl⟩,?_⟩;conv=>whnf)
    exact⟨by unfold regE;rw [if_neg hf],.int _ _⟩
 refine aD h0 (.cons _ _ _ _ (aG flat_regA) .nil) ?_
 rintro v rfl
 exact h _ rfl
theorem S_dsp {m:Mem} {K:AV->Mem->Prop} {v:AV} {ag:Int} {i:Bool} {x y c r:Nat} (hv:v=dspA ag i x y c r) (hx:x<w256) (hy:y<w256) (hc:c<w256) (hr:r<w256) (h:∀ e,e=dspE ag i x y c r->K (.int .i64 e) m):ACall Pg eN [v] m K:=by
 subst hv
 have h0:ACall Pg eN [dspA ag i x y c r] [] (fun v _=>v= .int .i64 (dspE ag i x y c r)/\Flat true v):=by
  refine rD ⟨rfl,?_⟩
  conv=>whnf
  repeat (refine⟨⟨_,rfl⟩,?_⟩;conv=>whnf)
  refine aE (fun h1=> ?_) (fun h1=> ?_)
  · have h1:=of_eqf h1
    conv=>whnf
    repeat (refine⟨⟨_,rfl⟩,?_⟩;conv=>whnf)
    refine aE (fun h2=> ?_) (fun h2=> ?_)
    · have h2:=of_decide_eq_true h2
      conv=>whnf
      repeat (refine⟨⟨_,rfl⟩,?_⟩;conv=>whnf)
      exact⟨by unfold dspE;rw [if_neg (by omega)],.int _ _⟩
    · have h2:=of_decide_eq_false h2
      conv=>whnf
      repeat (refine⟨⟨_,rfl⟩,?_⟩;conv=>whnf)
      refine S_sub (i:=i) (x:=x) (y:=y) (c:=c) (r:=r) rfl hx hy hc hr (fun e he=> ?_)
      conv=>whnf
      repeat (refine⟨⟨_,rfl⟩,?_⟩;conv=>whnf)
      exact⟨by unfold dspE;rw [if_pos (by omega),he],.int _ _⟩
  · have h1:=of_neqf h1
    conv=>whnf
    repeat (refine⟨⟨_,rfl⟩,?_⟩;conv=>whnf)
    exact⟨by unfold dspE;rw [if_neg (by omega)],.int _ _⟩
 refine aD h0 (.cons _ _ _ _ (aG flat_dspA) .nil) ?_
 rintro v rfl
 exact h _ rfl
theorem S_postE {m:Mem} {K:AV->Mem->Prop} {v:AV} {ns c1:Nat} {S:Nat->Nat->Int} {nc c2:Nat} {I:Nat->Bool} {X Y:Nat->Nat} (hv:v=postA ns c1 S nc c2 I X Y) (hX:∀ j,j<nc->X j<w256) (hY:∀ j,j<nc->Y j<w256) (h:∀ e,e=pstE ns nc I X Y->K (.int .i64 e) m):ACall Pg eG [v] m K:=by
 subst hv;exact S_post hX hY (h _ rfl)
theorem S_aCheck0 (k:Int) (i:Bool) (x y:Nat) (s:ByteArray) (ns c1:Nat) (S:Nat->Nat->Int) (nc c2:Nat) (I:Nat->Bool) (X Y:Nat->Nat) (ag:Int) (c r:Nat) (hx:x<w256) (hy:y<w256) (hc:c<w256) (hr:r<w256) (hs:s.size<=1000000000) (hX:∀ j,j<nc->X j<w256) (hY:∀ j,j<nc->Y j<w256):
 ACall Pg pE [actV k i x y s ns c1 S nc c2 I X Y ag c r] [] (fun v _=>v= .int .i64 (chkE k i x y s ns nc I X Y ag c r)/\Flat true v):=by
 refine B_act_Check ⟨rfl,?_⟩
 conv=>whnf
 repeat (refine⟨⟨_,rfl⟩,?_⟩;conv=>whnf)
 rcases(show k=1\/k=2\/k=3\/k=4\/k=5\/¬ (1<=k/\k<=5) by omega)with h | h | h | h | h | h
 · subst h
   refine fB ⟨rfl,?_⟩
   conv=>whnf
   repeat (refine⟨⟨_,rfl⟩,?_⟩;conv=>whnf)
   refine S_empty (by decide) hx hy hc hr (fun he=> ?_) (fun he=> ?_)
   · conv=>whnf
     repeat (refine⟨⟨_,rfl⟩,?_⟩;conv=>whnf)
     refine S_reg (i:=i) (x:=x) (y:=y) (s:=s) rfl hx hy hs (fun e hE=> ?_)
     conv=>whnf
     repeat (refine⟨⟨_,rfl⟩,?_⟩;conv=>whnf)
     exact⟨by unfold chkE;rw [if_pos (by decide),if_pos he,if_pos rfl,hE];rfl,.int _ _⟩
   · conv=>whnf
     repeat (refine⟨⟨_,rfl⟩,?_⟩;conv=>whnf)
     exact⟨by unfold chkE;rw [if_pos (by decide),if_neg he],.int _ _⟩
 · subst h
   refine fB ⟨rfl,?_⟩
   conv=>whnf
   repeat (refine⟨⟨_,rfl⟩,?_⟩;conv=>whnf)
   refine S_empty (by decide) hx hy hc hr (fun he=> ?_) (fun he=> ?_)
   · conv=>whnf
     repeat (refine⟨⟨_,rfl⟩,?_⟩;conv=>whnf)
     refine S_postE (ns:=ns) (c1:=c1) (S:=S) (nc:=nc) (c2:=c2) (I:=I) (X:=X) (Y:=Y) rfl hX hY (fun e hE=> ?_)
     conv=>whnf
     repeat (refine⟨⟨_,rfl⟩,?_⟩;conv=>whnf)
     exact⟨by unfold chkE;rw [if_pos (by decide),if_pos he,if_neg (by decide),if_pos rfl,hE];rfl,.int _ _⟩
   · conv=>whnf
     repeat (refine⟨⟨_,rfl⟩,?_⟩;conv=>whnf)
     exact⟨by unfold chkE;rw [if_pos (by decide),if_neg he],.int _ _⟩
 · subst h
   refine fB ⟨rfl,?_⟩
   conv=>whnf
   repeat (refine⟨⟨_,rfl⟩,?_⟩;conv=>whnf)
   refine S_empty (by decide) hx hy hc hr (fun he=> ?_) (fun he=> ?_)
   · conv=>whnf
     repeat (refine⟨⟨_,rfl⟩,?_⟩;conv=>whnf)
     refine S_dsp (ag:=ag) (i:=i) (x:=x) (y:=y) (c:=c) (r:=r) rfl hx hy hc hr (fun e hE=> ?_)
     conv=>whnf
     repeat (refine⟨⟨_,rfl⟩,?_⟩;conv=>whnf)
     exact⟨by unfold chkE;rw [if_pos (by decide),if_pos he,if_neg (by decide),if_neg (by decide),if_pos rfl,hE];rfl,.int _ _⟩
   · conv=>whnf
     repeat (refine⟨⟨_,rfl⟩,?_⟩;conv=>whnf)
     exact⟨by unfold chkE;rw [if_pos (by decide),if_neg he],.int _ _⟩
 · subst h
   refine fB ⟨rfl,?_⟩
   conv=>whnf
   repeat (refine⟨⟨_,rfl⟩,?_⟩;conv=>whnf)
   refine S_empty (by decide) hx hy hc hr (fun he=> ?_) (fun he=> ?_)
   · conv=>whnf
     repeat (refine⟨⟨_,rfl⟩,?_⟩;conv=>whnf)
     refine S_sub (i:=i) (x:=x) (y:=y) (c:=c) (r:=r) rfl hx hy hc hr (fun e hE=> ?_)
     conv=>whnf
     repeat (refine⟨⟨_,rfl⟩,?_⟩;conv=>whnf)
     exact⟨by unfold chkE;rw [if_pos (by decide),if_pos he,if_neg (by decide),if_neg (by decide),if_neg (by decide),if_pos rfl,hE],.int _ _⟩
   · conv=>whnf
     repeat (refine⟨⟨_,rfl⟩,?_⟩;conv=>whnf)
     exact⟨by unfold chkE;rw [if_pos (by decide),if_neg he],.int _ _⟩
 · subst h
   refine fB ⟨rfl,?_⟩
   conv=>whnf
   repeat (refine⟨⟨_,rfl⟩,?_⟩;conv=>whnf)
   refine S_empty (by decide) hx hy hc hr (fun he=> ?_) (fun he=> ?_)
   · conv=>whnf
     repeat (refine⟨⟨_,rfl⟩,?_⟩;conv=>whnf)
     exact⟨by unfold chkE;rw [if_pos (by decide),if_pos he,if_neg (by decide),if_neg (by decide),if_neg (by decide),if_neg (by decide)],.int _ _⟩
   · conv=>whnf
     repeat (refine⟨⟨_,rfl⟩,?_⟩;conv=>whnf)
     exact⟨by unfold chkE;rw [if_pos (by decide),if_neg he],.int _ _⟩
 · refine fB ⟨rfl,?_⟩
   conv=>whnf
   repeat (refine⟨⟨_,rfl⟩,?_⟩;conv=>whnf)
   refine jN (by simp;omega) ?_
   conv=>whnf
   repeat (refine⟨⟨_,rfl⟩,?_⟩;conv=>whnf)
   refine jN (by simp;omega) ?_
   conv=>whnf
   repeat (refine⟨⟨_,rfl⟩,?_⟩;conv=>whnf)
   refine jN (by simp;omega) ?_
   conv=>whnf
   repeat (refine⟨⟨_,rfl⟩,?_⟩;conv=>whnf)
   refine jN (by simp;omega) ?_
   conv=>whnf
   repeat (refine⟨⟨_,rfl⟩,?_⟩;conv=>whnf)
   refine jN (by simp;omega) ?_
   conv=>whnf
   repeat (refine⟨⟨_,rfl⟩,?_⟩;conv=>whnf)
   exact⟨by unfold chkE;rw [if_neg h],.int _ _⟩
end Go.Proofs.YtfolpdmbpbbimaaGreat
end

section
namespace Go.Proofs.YtfolpdmbpbbimaaGreat
open Go Go.Wit
end Go.Proofs.YtfolpdmbpbbimaaGreat
end

section
namespace Go.Proofs.YtfolpdmbpbbimaaGreat
open Go Go.Wit
end Go.Proofs.YtfolpdmbpbbimaaGreat
end

section
namespace Go.Proofs.YtfolpdmbpbbimaaGreat
open Go Go.Wit
theorem rowAtE {s:Nat->Int} {g:Nat->Nat->AV} {i p:Nat} {A:AV} (hi:i<32) (hp:p=i) (hA:A=updG ⟨1,32,g⟩ 0 0 32 ((List.range 32).map fun i=> .int .u8 (s i)) p 0):A= .int .u8 (s i):=by
 subst hp hA
 rw [lI (by omega) hi,List.getD_eq_getElem?_getD,List.getElem?_map,List.getElem?_range hi]
 rfl
theorem xorW {nv:Bool} {σ:Nat->Option Nat} {P:Nat->Int} {c:Int} {k i j N p:Nat} {x y:Int} {A:AV} (hj:j<1) (hx:x=dA .xor .u8 y c) (hy:y=P k) (hp:p=k) (hA:A=updG ⟨1,N,aB (fun i=>if i<k then xorB (P i) c else 0)⟩ p 0 1 [.int .u8 x] i j):
 RV nv σ A (aB (fun i=>if i<k+1 then xorB (P i) c else 0) i j):=by
 subst hp
 exact updB (a:=fun i=>xorB (P i) c) (z:=fun _=>0) hj (by rw [hx,hy];rfl) hA
theorem zeroW {nv:Bool} {σ:Nat->Option Nat} {P:Nat->Int} {c:Int} {i j:Nat} {A:AV} (hj:j<1) (hA:A= [AV.int IntKind.u8 0].getD j AV.un):RV nv σ A (aB (fun i=>if i<0 then xorB (P i) c else 0) i j):=by
 obtain rfl:j=0:=by omega
 exact zeroB (j:=0) (a:=fun i=>xorB (P i) c) (z:=fun _=>0) (hA.trans rfl)
set_option maxHeartbeats 1000000 in
theorem S_RMac0 (n c1:Nat) (f:Nat->Int) (k c2:Nat) (g:Nat->Int) (hn:n<=900000) (hk:k<=900000) (hf:∀ i,i<n->0<=f i/\f i<=255) (hg:∀ i,i<k->0<=g i/\g i<=255):
 ACall Pg iG [.vsl 1 n c1 (aB f),.vsl 1 k c2 (aB g)] [] (fun v _=>v= .agg (rowL (macB n f k g))/\Flat true v):=by
 have hP:∀ i,64<n->keyP n f i=if i<32 then sumB n f i else 0:=fun i h=>by simp only [keyP,keyN,keyG,if_pos h]
 have hP':∀ i,¬ 64<n->keyP n f i=if i<n then f i else 0:=fun i h=>by simp only [keyP,keyN,keyG,if_neg h]
 have hM:macB n f k g=sumB 96 (outF (keyP n f) (sumB (64+k) (inF (keyP n f) g))):=rfl
 generalize keyP n f=P at*
 generalize hM2:macB n f k g=M at*
 refine xT ⟨rfl,?_⟩
 conv=>whnf
 repeat (refine⟨⟨_,rfl⟩,?_⟩;conv=>whnf)
 refine aE (fun hc=> ?_) (fun hc=> ?_)
 · have hc:64<n:=by simp at hc;omega
   have hPs:∀ i,i<32->P i=sumB n f i:=fun i h=>by rw [hP i hc,if_pos h]
   have hP0:∀ i,¬ i<32->P i=0:=fun i h=>by rw [hP i hc,if_neg h]
   conv=>whnf
   repeat (refine⟨⟨_,rfl⟩,?_⟩;conv=>whnf)
   refine kX (f:=f) aQ.vsl (by omega) hf (fun s hs hsb=> ?_)
   rw [<- hs]at hPs
   rw [rowL]
   conv=>whnf
   repeat (refine⟨⟨_,rfl⟩,?_⟩;conv=>whnf)
   obtain⟨cap0,hcap0⟩ :∃ c:Nat,c=32:=⟨_,rfl⟩
   refine aT aJ (I:=fun q l m=>∃ (j:Nat),l= [(0,.sl 3 0 32 32),(1,.vsl 1 k c2 (aB g)),(4,.ptr 0 0 0),(5,.ptr 1 0 0),(6,.ptr 2 0 0),(8,.int .i64 j)] /\ m= [some ⟨1,32,fun _ _=> .int .u8 0⟩,some ⟨1,64,aB (fun i=>if i<j then xorB (P i) 54 else 0)⟩,some ⟨1,64,aB (fun i=>if i<j then xorB (P i) 92 else 0)⟩,some ⟨1,32,aB s⟩] /\ q+j=64) 64
    (l0:= [(0,.sl 3 0 32 32),(1,.vsl 1 k c2 (aB g)),(4,.ptr 0 0 0),(5,.ptr 1 0 0),(6,.ptr 2 0 0),(8,.int .i64 (0:Nat))]) (m0:= [some ⟨1,32,fun _ _=> .int .u8 0⟩,some ⟨1,64,aB (fun i=>if i<0 then xorB (P i) 54 else 0)⟩,some ⟨1,64,aB (fun i=>if i<0 then xorB (P i) 92 else 0)⟩,some ⟨1,32,aB s⟩]) [some 0,some 1,some 2,some 3] ⟨0,rfl,rfl,rfl⟩ ?_ ?_
   · exact .mk0 ⟨.sl _ _ _ _ _ rfl,.eq _ _ rfl (.vsl _ _ _ _ rfl (fun _ _ _ _=> .int _ _)),.ptr _ _ _ _ rfl,.ptr _ _ _ _ rfl,.ptr _ _ _ _ rfl,Flat.i rfl,trivial⟩ ⟨.old 0 0 _ _ rfl rfl ⟨rfl,Nat.le_refl _,fun i j hi hj=>oneU0 hj rfl⟩,.old 1 1 _ _ rfl rfl ⟨rfl,Nat.le_refl _,fun i j hi hj=>zeroW hj rfl⟩,.old 2 2 _ _ rfl rfl ⟨rfl,Nat.le_refl _,fun i j hi hj=>zeroW hj rfl⟩,.old 3 3 _ _ rfl rfl ⟨rfl,Nat.le_refl _,fun i j hi hj=>sumBlk hi hj rfl⟩,trivial⟩ rfl rfl
   · rintro q l m ⟨j,rfl,rfl,hq⟩
     conv=>whnf
     repeat (refine⟨⟨_,rfl⟩,?_⟩;conv=>whnf)
     refine aE (fun hb=> ?_) (fun hb=> ?_)
     · have hb:j<64:=by simp at hb;omega
       conv=>whnf
       repeat (refine⟨⟨_,rfl⟩,?_⟩;conv=>whnf)
       refine aE (fun hb2=> ?_) (fun hb2=> ?_)
       · have hb2:j<32:=by simp at hb2;omega
         conv=>whnf
         repeat (refine⟨⟨_,rfl⟩,?_⟩;conv=>whnf)
         refine aA (by simp;omega) ?_
         conv=>whnf
         repeat (refine⟨⟨_,rfl⟩,?_⟩;conv=>whnf)
         refine aA (by simp [bI,Nat.ble_eq];omega) ?_
         conv=>whnf
         repeat (refine⟨⟨_,rfl⟩,?_⟩;conv=>whnf)
         refine aA (by simp;omega) ?_
         conv=>whnf
         repeat (refine⟨⟨_,rfl⟩,?_⟩;conv=>whnf)
         refine aA (by simp [bI,Nat.ble_eq];omega) ?_
         conv=>whnf
         repeat (refine⟨⟨_,rfl⟩,?_⟩;conv=>whnf)
         refine aA (by simp;omega) ?_
         conv=>whnf
         repeat (refine⟨⟨_,rfl⟩,?_⟩;conv=>whnf)
         refine aA (by simp [bI,Nat.ble_eq];omega) ?_
         conv=>whnf
         repeat (refine⟨⟨_,rfl⟩,?_⟩;conv=>whnf)
         have e5:IntKind.i64.wrap ((j:Int)+1)=((j+1:Nat):Int):=by rw [w64 (by omega) (by omega)];omega
         refine⟨q - 1,[(0,.sl 3 0 32 32),(1,.vsl 1 k c2 (aB g)),(4,.ptr 0 0 0),(5,.ptr 1 0 0),(6,.ptr 2 0 0),(8,.int .i64 ((j+1:Nat):Int))],[some ⟨1,32,fun _ _=> .int .u8 0⟩,some ⟨1,64,aB (fun i=>if i<j+1 then xorB (P i) 54 else 0)⟩,some ⟨1,64,aB (fun i=>if i<j+1 then xorB (P i) 92 else 0)⟩,some ⟨1,32,aB s⟩],[some 0,some 1,some 2,some 3],by omega,⟨j+1,rfl,rfl,by omega⟩,?_⟩
         exact .mk0 ⟨.sl _ _ _ _ _ rfl,.eq _ _ rfl (.vsl _ _ _ _ rfl (fun _ _ _ _=> .int _ _)),.ptr _ _ _ _ rfl,.ptr _ _ _ _ rfl,.ptr _ _ _ _ rfl,Flat.i e5,trivial⟩ ⟨.old 0 0 _ _ rfl rfl ⟨rfl,Nat.le_refl _,fun i j hi hj=> .eq _ _ rfl (.int _ _)⟩,.old 1 1 _ _ rfl rfl ⟨rfl,Nat.le_refl _,fun a b ha hb=>xorW hb rfl (by rw [Nat.zero_add];exact(hPs j hb2).symm) (Nat.zero_add _) rfl⟩,.old 2 2 _ _ rfl rfl ⟨rfl,Nat.le_refl _,fun a b ha hb=>xorW hb rfl (by rw [Nat.zero_add];exact(hPs j hb2).symm) (Nat.zero_add _) rfl⟩,.old 3 3 _ _ rfl rfl ⟨rfl,Nat.le_refl _,fun i j hi hj=> .eq _ _ rfl (.int _ _)⟩,trivial⟩ rfl rfl
       · have hb2:¬ j<32:=by simp at hb2;omega
         conv=>whnf
         repeat (refine⟨⟨_,rfl⟩,?_⟩;conv=>whnf)
         refine aA (by simp;omega) ?_
         conv=>whnf
         repeat (refine⟨⟨_,rfl⟩,?_⟩;conv=>whnf)
         refine aA (by simp [bI,Nat.ble_eq];omega) ?_
         conv=>whnf
         repeat (refine⟨⟨_,rfl⟩,?_⟩;conv=>whnf)
         refine aA (by simp;omega) ?_
         conv=>whnf
         repeat (refine⟨⟨_,rfl⟩,?_⟩;conv=>whnf)
         refine aA (by simp [bI,Nat.ble_eq];omega) ?_
         conv=>whnf
         repeat (refine⟨⟨_,rfl⟩,?_⟩;conv=>whnf)
         have e5:IntKind.i64.wrap ((j:Int)+1)=((j+1:Nat):Int):=by rw [w64 (by omega) (by omega)];omega
         refine⟨q - 1,[(0,.sl 3 0 32 32),(1,.vsl 1 k c2 (aB g)),(4,.ptr 0 0 0),(5,.ptr 1 0 0),(6,.ptr 2 0 0),(8,.int .i64 ((j+1:Nat):Int))],[some ⟨1,32,fun _ _=> .int .u8 0⟩,some ⟨1,64,aB (fun i=>if i<j+1 then xorB (P i) 54 else 0)⟩,some ⟨1,64,aB (fun i=>if i<j+1 then xorB (P i) 92 else 0)⟩,some ⟨1,32,aB s⟩],[some 0,some 1,some 2,some 3],by omega,⟨j+1,rfl,rfl,by omega⟩,?_⟩
         exact .mk0 ⟨.sl _ _ _ _ _ rfl,.eq _ _ rfl (.vsl _ _ _ _ rfl (fun _ _ _ _=> .int _ _)),.ptr _ _ _ _ rfl,.ptr _ _ _ _ rfl,.ptr _ _ _ _ rfl,Flat.i e5,trivial⟩ ⟨.old 0 0 _ _ rfl rfl ⟨rfl,Nat.le_refl _,fun i j hi hj=> .eq _ _ rfl (.int _ _)⟩,.old 1 1 _ _ rfl rfl ⟨rfl,Nat.le_refl _,fun a b ha hb=>xorW hb rfl (hP0 j hb2).symm (Nat.zero_add _) rfl⟩,.old 2 2 _ _ rfl rfl ⟨rfl,Nat.le_refl _,fun a b ha hb=>xorW hb rfl (hP0 j hb2).symm (Nat.zero_add _) rfl⟩,.old 3 3 _ _ rfl rfl ⟨rfl,Nat.le_refl _,fun i j hi hj=> .eq _ _ rfl (.int _ _)⟩,trivial⟩ rfl rfl
     · have hb:j=64:=by simp at hb;omega
       subst hb
       conv=>whnf
       repeat (refine⟨⟨_,rfl⟩,?_⟩;conv=>whnf)
       refine sA (n:=64) (k:=k) (f:=fun i=>if i<64 then xorB (P i) 54 else 0) (g:=g) (fO.sl rfl (Nat.le_refl 2) (fun i hi=> ?_)) (by decide) (by omega) (fun cap2 h0 hh0=> ?_)
       · have:i=0\/i=1:=by omega
         rcases this with rfl | rfl
         · exact aQ.sl rfl (Nat.le_refl _) fun i hi=>by rw [Nat.zero_add];rfl
         · exact aQ.vsl
       conv=>whnf
       repeat (refine⟨⟨_,rfl⟩,?_⟩;conv=>whnf)
       refine kX (n:=64+k) (f:=inF P g) (aQ.sl rfl (Nat.le_of_eq (Nat.zero_add _)) fun i hi=> ?_) (by omega) (fun i hi=> ?_) (fun s1 hs1 hsb1=> ?_)
       · rw [Nat.zero_add,hh0];unfold inF catB
         by_cases h:i<64
         · rw [if_pos h,if_pos h];exact(if_pos h).symm
         · rw [if_neg h,if_neg h]
       · unfold inF;split
         · exact gU _ _
         · exact hg _ (by omega)
       rw [rowL]
       conv=>whnf
       repeat (refine⟨⟨_,rfl⟩,?_⟩;conv=>whnf)
       refine sA (n:=64) (k:=32) (f:=fun i=>if i<64 then xorB (P i) 92 else 0) (g:=s1) (fO.sl rfl (Nat.le_refl 2) (fun i hi=> ?_)) (by decide) (by decide) (fun cap3 h1 hh1=> ?_)
       · have:i=0\/i=1:=by omega
         rcases this with rfl | rfl
         · exact aQ.sl rfl (Nat.le_refl _) fun i hi=>by rw [Nat.zero_add];rfl
         · exact aQ.any rfl (Nat.le_refl _) fun i hi=>rowAtE hi (by omega) rfl
       conv=>whnf
       repeat (refine⟨⟨_,rfl⟩,?_⟩;conv=>whnf)
       refine kX (n:=96) (f:=outF P s1) (aQ.sl rfl (Nat.le_of_eq (Nat.zero_add _)) fun i hi=> ?_) (by decide) (fun i hi=> ?_) (fun s2 hs2 hsb2=> ?_)
       · rw [Nat.zero_add,hh1];unfold outF catB
         by_cases h:i<64
         · rw [if_pos h,if_pos h];exact(if_pos h).symm
         · rw [if_neg h,if_neg h]
       · unfold outF;split
         · exact gU _ _
         · exact hsb1 _
       rw [rowL]
       conv=>whnf
       repeat (refine⟨⟨_,rfl⟩,?_⟩;conv=>whnf)
       have e9:s2=M:=by rw [hs2,hM,hs1]
       subst e9
       exact nP rfl
 · have hc:¬ 64<n:=by simp at hc;omega
   have hPs:∀ i,i<n->P i=f i:=fun i h=>by rw [hP' i hc,if_pos h]
   have hP0:∀ i,¬ i<n->P i=0:=fun i h=>by rw [hP' i hc,if_neg h]
   conv=>whnf
   repeat (refine⟨⟨_,rfl⟩,?_⟩;conv=>whnf)
   refine aT aJ (I:=fun q l m=>∃ (j:Nat),l= [(0,.vsl 1 n c1 (aB f)),(1,.vsl 1 k c2 (aB g)),(4,.ptr 0 0 0),(5,.ptr 1 0 0),(6,.ptr 2 0 0),(8,.int .i64 j)] /\ m= [some ⟨1,32,fun _ _=> .int .u8 0⟩,some ⟨1,64,aB (fun i=>if i<j then xorB (P i) 54 else 0)⟩,some ⟨1,64,aB (fun i=>if i<j then xorB (P i) 92 else 0)⟩] /\ q+j=64) 64
    (l0:= [(0,.vsl 1 n c1 (aB f)),(1,.vsl 1 k c2 (aB g)),(4,.ptr 0 0 0),(5,.ptr 1 0 0),(6,.ptr 2 0 0),(8,.int .i64 (0:Nat))]) (m0:= [some ⟨1,32,fun _ _=> .int .u8 0⟩,some ⟨1,64,aB (fun i=>if i<0 then xorB (P i) 54 else 0)⟩,some ⟨1,64,aB (fun i=>if i<0 then xorB (P i) 92 else 0)⟩]) [some 0,some 1,some 2] ⟨0,rfl,rfl,rfl⟩ ?_ ?_
   · exact .mk0 ⟨.eq _ _ rfl (.vsl _ _ _ _ rfl (fun _ _ _ _=> .int _ _)),.eq _ _ rfl (.vsl _ _ _ _ rfl (fun _ _ _ _=> .int _ _)),.ptr _ _ _ _ rfl,.ptr _ _ _ _ rfl,.ptr _ _ _ _ rfl,Flat.i rfl,trivial⟩ ⟨.old 0 0 _ _ rfl rfl ⟨rfl,Nat.le_refl _,fun i j hi hj=>oneU0 hj rfl⟩,.old 1 1 _ _ rfl rfl ⟨rfl,Nat.le_refl _,fun i j hi hj=>zeroW hj rfl⟩,.old 2 2 _ _ rfl rfl ⟨rfl,Nat.le_refl _,fun i j hi hj=>zeroW hj rfl⟩,trivial⟩ rfl rfl
   · rintro q l m ⟨j,rfl,rfl,hq⟩
     conv=>whnf
     repeat (refine⟨⟨_,rfl⟩,?_⟩;conv=>whnf)
     refine aE (fun hb=> ?_) (fun hb=> ?_)
     · have hb:j<64:=by simp at hb;omega
       conv=>whnf
       repeat (refine⟨⟨_,rfl⟩,?_⟩;conv=>whnf)
       refine aE (fun hb2=> ?_) (fun hb2=> ?_)
       · have hb2:j<n:=by simp at hb2;omega
         conv=>whnf
         repeat (refine⟨⟨_,rfl⟩,?_⟩;conv=>whnf)
         refine aA (by simp;omega) ?_
         conv=>whnf
         repeat (refine⟨⟨_,rfl⟩,?_⟩;conv=>whnf)
         refine aA (by simp;omega) ?_
         conv=>whnf
         repeat (refine⟨⟨_,rfl⟩,?_⟩;conv=>whnf)
         refine aA (by simp [bI,Nat.ble_eq];omega) ?_
         conv=>whnf
         repeat (refine⟨⟨_,rfl⟩,?_⟩;conv=>whnf)
         refine aA (by simp;omega) ?_
         conv=>whnf
         repeat (refine⟨⟨_,rfl⟩,?_⟩;conv=>whnf)
         refine aA (by simp [bI,Nat.ble_eq];omega) ?_
         conv=>whnf
         repeat (refine⟨⟨_,rfl⟩,?_⟩;conv=>whnf)
         have e5:IntKind.i64.wrap ((j:Int)+1)=((j+1:Nat):Int):=by rw [w64 (by omega) (by omega)];omega
         refine⟨q - 1,[(0,.vsl 1 n c1 (aB f)),(1,.vsl 1 k c2 (aB g)),(4,.ptr 0 0 0),(5,.ptr 1 0 0),(6,.ptr 2 0 0),(8,.int .i64 ((j+1:Nat):Int))],[some ⟨1,32,fun _ _=> .int .u8 0⟩,some ⟨1,64,aB (fun i=>if i<j+1 then xorB (P i) 54 else 0)⟩,some ⟨1,64,aB (fun i=>if i<j+1 then xorB (P i) 92 else 0)⟩],[some 0,some 1,some 2],by omega,⟨j+1,rfl,rfl,by omega⟩,?_⟩
         exact .mk0 ⟨.eq _ _ rfl (.vsl _ _ _ _ rfl (fun _ _ _ _=> .int _ _)),.eq _ _ rfl (.vsl _ _ _ _ rfl (fun _ _ _ _=> .int _ _)),.ptr _ _ _ _ rfl,.ptr _ _ _ _ rfl,.ptr _ _ _ _ rfl,Flat.i e5,trivial⟩ ⟨.old 0 0 _ _ rfl rfl ⟨rfl,Nat.le_refl _,fun i j hi hj=> .eq _ _ rfl (.int _ _)⟩,.old 1 1 _ _ rfl rfl ⟨rfl,Nat.le_refl _,fun a b ha hb=>xorW hb rfl (hPs j hb2).symm (Nat.zero_add _) rfl⟩,.old 2 2 _ _ rfl rfl ⟨rfl,Nat.le_refl _,fun a b ha hb=>xorW hb rfl (hPs j hb2).symm (Nat.zero_add _) rfl⟩,trivial⟩ rfl rfl
       · have hb2:¬ j<n:=by simp at hb2;omega
         conv=>whnf
         repeat (refine⟨⟨_,rfl⟩,?_⟩;conv=>whnf)
         refine aA (by simp;omega) ?_
         conv=>whnf
         repeat (refine⟨⟨_,rfl⟩,?_⟩;conv=>whnf)
         refine aA (by simp [bI,Nat.ble_eq];omega) ?_
         conv=>whnf
         repeat (refine⟨⟨_,rfl⟩,?_⟩;conv=>whnf)
         refine aA (by simp;omega) ?_
         conv=>whnf
         repeat (refine⟨⟨_,rfl⟩,?_⟩;conv=>whnf)
         refine aA (by simp [bI,Nat.ble_eq];omega) ?_
         conv=>whnf
         repeat (refine⟨⟨_,rfl⟩,?_⟩;conv=>whnf)
         have e5:IntKind.i64.wrap ((j:Int)+1)=((j+1:Nat):Int):=by rw [w64 (by omega) (by omega)];omega
         refine⟨q - 1,[(0,.vsl 1 n c1 (aB f)),(1,.vsl 1 k c2 (aB g)),(4,.ptr 0 0 0),(5,.ptr 1 0 0),(6,.ptr 2 0 0),(8,.int .i64 ((j+1:Nat):Int))],[some ⟨1,32,fun _ _=> .int .u8 0⟩,some ⟨1,64,aB (fun i=>if i<j+1 then xorB (P i) 54 else 0)⟩,some ⟨1,64,aB (fun i=>if i<j+1 then xorB (P i) 92 else 0)⟩],[some 0,some 1,some 2],by omega,⟨j+1,rfl,rfl,by omega⟩,?_⟩
         exact .mk0 ⟨.eq _ _ rfl (.vsl _ _ _ _ rfl (fun _ _ _ _=> .int _ _)),.eq _ _ rfl (.vsl _ _ _ _ rfl (fun _ _ _ _=> .int _ _)),.ptr _ _ _ _ rfl,.ptr _ _ _ _ rfl,.ptr _ _ _ _ rfl,Flat.i e5,trivial⟩ ⟨.old 0 0 _ _ rfl rfl ⟨rfl,Nat.le_refl _,fun i j hi hj=> .eq _ _ rfl (.int _ _)⟩,.old 1 1 _ _ rfl rfl ⟨rfl,Nat.le_refl _,fun a b ha hb=>xorW hb rfl (hP0 j hb2).symm (Nat.zero_add _) rfl⟩,.old 2 2 _ _ rfl rfl ⟨rfl,Nat.le_refl _,fun a b ha hb=>xorW hb rfl (hP0 j hb2).symm (Nat.zero_add _) rfl⟩,trivial⟩ rfl rfl
     · have hb:j=64:=by simp at hb;omega
       subst hb
       conv=>whnf
       repeat (refine⟨⟨_,rfl⟩,?_⟩;conv=>whnf)
       refine sA (n:=64) (k:=k) (f:=fun i=>if i<64 then xorB (P i) 54 else 0) (g:=g) (fO.sl rfl (Nat.le_refl 2) (fun i hi=> ?_)) (by decide) (by omega) (fun cap2 h0 hh0=> ?_)
       · have:i=0\/i=1:=by omega
         rcases this with rfl | rfl
         · exact aQ.sl rfl (Nat.le_refl _) fun i hi=>by rw [Nat.zero_add];rfl
         · exact aQ.vsl
       conv=>whnf
       repeat (refine⟨⟨_,rfl⟩,?_⟩;conv=>whnf)
       refine kX (n:=64+k) (f:=inF P g) (aQ.sl rfl (Nat.le_of_eq (Nat.zero_add _)) fun i hi=> ?_) (by omega) (fun i hi=> ?_) (fun s1 hs1 hsb1=> ?_)
       · rw [Nat.zero_add,hh0];unfold inF catB
         by_cases h:i<64
         · rw [if_pos h,if_pos h];exact(if_pos h).symm
         · rw [if_neg h,if_neg h]
       · unfold inF;split
         · exact gU _ _
         · exact hg _ (by omega)
       rw [rowL]
       conv=>whnf
       repeat (refine⟨⟨_,rfl⟩,?_⟩;conv=>whnf)
       refine sA (n:=64) (k:=32) (f:=fun i=>if i<64 then xorB (P i) 92 else 0) (g:=s1) (fO.sl rfl (Nat.le_refl 2) (fun i hi=> ?_)) (by decide) (by decide) (fun cap3 h1 hh1=> ?_)
       · have:i=0\/i=1:=by omega
         rcases this with rfl | rfl
         · exact aQ.sl rfl (Nat.le_refl _) fun i hi=>by rw [Nat.zero_add];rfl
         · exact aQ.any rfl (Nat.le_refl _) fun i hi=>rowAtE hi (by omega) rfl
       conv=>whnf
       repeat (refine⟨⟨_,rfl⟩,?_⟩;conv=>whnf)
       refine kX (n:=96) (f:=outF P s1) (aQ.sl rfl (Nat.le_of_eq (Nat.zero_add _)) fun i hi=> ?_) (by decide) (fun i hi=> ?_) (fun s2 hs2 hsb2=> ?_)
       · rw [Nat.zero_add,hh1];unfold outF catB
         by_cases h:i<64
         · rw [if_pos h,if_pos h];exact(if_pos h).symm
         · rw [if_neg h,if_neg h]
       · unfold outF;split
         · exact gU _ _
         · exact hsb1 _
       rw [rowL]
       conv=>whnf
       repeat (refine⟨⟨_,rfl⟩,?_⟩;conv=>whnf)
       have e9:s2=M:=by rw [hs2,hM,hs1]
       subst e9
       exact nP rfl
theorem S_RMac {m:Mem} {x y:AV} {n k:Nat} {f g:Nat->Int} {K:AV->Mem->Prop} (hx:aQ m x n f) (hy:aQ m y k g) (hn:n<=900000) (hk:k<=900000) (hf:∀ i,i<n->0<=f i/\f i<=255) (hg:∀ i,i<k->0<=g i/\g i<=255)
 (h:∀ s,s=macB n f k g->(∀ i,0<=s i/\s i<=255)->K (.agg (rowL s)) m):ACall Pg iG [x,y] m K:=by
 obtain⟨c1,h1⟩:=hx
 obtain⟨c2,h2⟩:=hy
 refine aD (S_RMac0 n c1 f k c2 g hn hk hf hg) (.cons _ _ _ _ h1 (.cons _ _ _ _ h2 .nil)) ?_
 rintro v rfl
 exact h _ rfl (sumB_lt _ _)
end Go.Proofs.YtfolpdmbpbbimaaGreat
end

section
namespace Go.Proofs.YtfolpdmbpbbimaaGreat
open Go Go.Wit
noncomputable def tryP (n:Nat) (f:Nat->Int) (c:Nat):Except Int (Pt Fp):=rd 33 (catB 1 (fun _=>2) (sumB (n+4) (catB n f (beF c 4))))
def PtRes (n:Nat) (f:Nat->Int) (v:AV):Prop:=
 (∃ c P,c<256/\(∀ d,d<c->∃ e,tryP n f d= .error e)/\tryP n f c= .ok P/\On P/\v= .tup [ptA P,.int .i64 ((c+1:Nat):Int),.int .i64 0])\/
 ((∀ d,d<256->∃ e,tryP n f d= .error e)/\v= .tup [noPt,.int .i64 0,.int .i64 5])
theorem PtRes.same {n:Nat} {f:Nat->Int} {v w:AV} (h1:PtRes n f v) (h2:PtRes n f w):v=w:=by
 rcases h1 with⟨c,P,hc,hd,hP,_,rfl⟩ | ⟨hd,rfl⟩
 · rcases h2 with⟨c2,P2,hc2,hd2,hP2,_,rfl⟩ | ⟨hd2,rfl⟩
   · obtain rfl:c=c2:=by
      rcases Nat.lt_trichotomy c c2 with h | h | h
      · obtain⟨e,he⟩:=hd2 c h;rw [hP]at he;cases he
      · exact h
      · obtain⟨e,he⟩:=hd c2 h;rw [hP2]at he;cases he
     rw [hP]at hP2
     obtain rfl:P=P2:=by injection hP2
     rfl
   · obtain⟨e,he⟩:=hd2 c hc;rw [hP]at he;cases he
 · rcases h2 with⟨c2,P2,hc2,hd2,hP2,_,rfl⟩ | ⟨hd2,rfl⟩
   · obtain⟨e,he⟩:=hd c2 hc2;rw [hP2]at he;cases he
   · rfl
end Go.Proofs.YtfolpdmbpbbimaaGreat
end

section
namespace Go.Proofs.YtfolpdmbpbbimaaGreat
open Go Go.Wit
end Go.Proofs.YtfolpdmbpbbimaaGreat
end

section
namespace Go.Proofs.YtfolpdmbpbbimaaGreat
open Go Go.Wit
theorem lend_act {m:Mem} {B:List Nat} {k:Int} {i:Bool} {x y:Nat} {s:ByteArray} {sl co sl' co':AV} {ag:Int} {c r:Nat} (h1:Lend (fun _=>none) B m sl sl') (h2:Lend (fun _=>none) B m co co'):
 Lend (fun _=>none) B m (actA k i x y s sl co ag c r) (actA k i x y s sl' co' ag c r):=by
 refine .aggR _ _ rfl (fun j hj=> ?_)
 have hj:j<22:=hj
 have:j=0\/j=1\/j=2\/j=3\/j=4\/j=5\/j=6\/j=7\/j=8\/j=9\/j=10\/j=11\/j=12\/j=13\/j=14\/j=15\/j=16\/j=17\/j=18\/j=19\/j=20\/j=21:=by omega
 rcases this with rfl | rfl | rfl | rfl | rfl | rfl | rfl | rfl | rfl | rfl | rfl | rfl | rfl | rfl | rfl | rfl | rfl | rfl | rfl | rfl | rfl | rfl
 all_goals first
  | exact h1
  | exact h2
  | exact .rv _ _ (.eq _ _ rfl (.int _ _))
  | exact .rv _ _ (.eq _ _ rfl (.bool _))
  | exact .rv _ _ (.eq _ _ rfl (.str _))
theorem zY {m:Mem} {K:AV->Mem->Prop} {v:AV} {k:Int} {i:Bool} {x y:Nat} {s:ByteArray} {sl co:AV} {ns:Nat} {S:Nat->Nat->Int} {nc:Nat} {I:Nat->Bool} {X Y:Nat->Nat} {ag:Int} {c r:Nat} (hv:v=actA k i x y s sl co ag c r) (h1:bW m sl 32 ns (cI S)) (h2:bW m co 9 nc (fY I X Y))
 (hx:x<w256) (hy:y<w256) (hc:c<w256) (hr:r<w256) (hs:s.size<=1000000000) (hX:∀ j,j<nc->X j<w256) (hY:∀ j,j<nc->Y j<w256) (h:∀ e,e=chkE k i x y s ns nc I X Y ag c r->K (.int .i64 e) m):ACall Pg pE [v] m K:=by
 subst hv
 obtain⟨c1,g1⟩:=h1
 obtain⟨c2,g2⟩:=h2
 refine aD (S_aCheck0 k i x y s ns c1 S nc c2 I X Y ag c r hx hy hc hr hs hX hY) (.cons _ _ _ _ (lend_act g1 g2) .nil) ?_
 rintro v rfl
 exact h _ rfl
theorem zW {m:Mem} {K:AV->Mem->Prop} {v w:AV} {n:Nat} {P:Pt Fp} (hv:v=numA n) (hw:w=ptA P) (hn:n<w256) (oP:On P) (h:∀ R,On R->R=nmul n P->K (.tup [ptA R,.int .i64 0]) m):ACall Pg cC [v,w] m K:=by
 subst hv hw;exact T_Times hn oP h
theorem S_ProveE {m:Mem} {K:AV->Mem->Prop} {v w u:AV} {s k:Nat} {b:Pt Fp} (hv:v=numA s) (hw:w=numA k) (hu:u=ptA b) (hs:s<w256) (hk:k<w256) (ob:On b) (h:∀ c r,c=prfC s k b->r=prfR s k c->c<nN->r<nN->K (.tup [prA c r,.int .i64 0]) m):ACall Pg jS [v,w,u] m K:=by
 subst hv hw hu;exact S_Prove hs hk ob h
theorem zK {a:Nat} {P:Pt Fp} (oP:On P) (hP:isI P=false) (h0:a ≠ 0) (h1:a<nN):isI (nmul a P)=false:=by
  cases h:isI (nmul a P)with
  | false=>rfl
  | true =>
    exfalso
    obtain⟨j,rfl⟩:=all_G oP
    rw [<- kA crvP on_G]at h
    have hd:=qU (isI_inf h)
    rcases prmN.dvd_mul hd with hd | hd
    · have:=Nat.le_of_dvd (by omega) hd
      omega
    · have:nmul j gG= .inf:=by
        rw [<- nQ j,Nat.mod_eq_zero_of_dvd hd];rfl
      rw [this]at hP;cases hP
end Go.Proofs.YtfolpdmbpbbimaaGreat
end

section
namespace Go.Proofs.YtfolpdmbpbbimaaGreat
open Go Go.Wit
set_option maxHeartbeats 1000000 in
theorem S_Mac0 (n c1:Nat) (f:Nat->Int) (k c2:Nat) (g:Nat->Int) (hn:n<=900000) (hk:k<=900000) (hf:∀ i,i<n->0<=f i/\f i<=255) (hg:∀ i,i<k->0<=g i/\g i<=255):
 ACall Pg uA [.vsl 1 n c1 (aB f),.vsl 1 k c2 (aB g)] [] (fun v _=>v= .agg (rowL (macB n f k g))/\Flat true v):=by
 have hP:∀ i,64<n->keyP n f i=if i<32 then sumB n f i else 0:=fun i h=>by simp only [keyP,keyN,keyG,if_pos h]
 have hP':∀ i,¬ 64<n->keyP n f i=if i<n then f i else 0:=fun i h=>by simp only [keyP,keyN,keyG,if_neg h]
 have hM:macB n f k g=sumB 96 (outF (keyP n f) (sumB (64+k) (inF (keyP n f) g))):=rfl
 generalize keyP n f=P at*
 generalize hM2:macB n f k g=M at*
 refine B_sha_Mac ⟨rfl,?_⟩
 conv=>whnf
 repeat (refine⟨⟨_,rfl⟩,?_⟩;conv=>whnf)
 refine aE (fun hc=> ?_) (fun hc=> ?_)
 · have hc:64<n:=by simp at hc;omega
   conv=>whnf
   repeat (refine⟨⟨_,rfl⟩,?_⟩;conv=>whnf)
   refine S_SumR (f:=f) aQ.vsl (by omega) hf (fun s hs hsb=> ?_)
   rw [rowL]
   conv=>whnf
   repeat (refine⟨⟨_,rfl⟩,?_⟩;conv=>whnf)
   refine aT aJ (I:=fun q l m=>∃ (j:Nat),l= [(1,.vsl 1 k c2 (aB g)),(4,.ptr 0 0 0),(6,.sl 1 0 64 64),(7,.sl 2 0 64 64),(25,.int .i64 (64:Nat)),(26,.int .i64 j)] /\
    m= [some ⟨1,32,fun _ _=> .int .u8 0⟩,some ⟨1,64,aB (fun i=>if i<j then xorB (P i) 54 else P i)⟩,some ⟨1,64,aB (fun i=>if i<j then xorB (P i) 92 else P i)⟩] /\ q+j=64) 64
    (l0:= [(1,.vsl 1 k c2 (aB g)),(4,.ptr 0 0 0),(6,.sl 1 0 64 64),(7,.sl 2 0 64 64),(25,.int .i64 (64:Nat)),(26,.int .i64 (0:Nat))]) (m0:= [some ⟨1,32,fun _ _=> .int .u8 0⟩,some ⟨1,64,aB (fun i=>if i<0 then xorB (P i) 54 else P i)⟩,some ⟨1,64,aB (fun i=>if i<0 then xorB (P i) 92 else P i)⟩]) [some 0,some 2,some 3] ⟨0,rfl,rfl,rfl⟩ ?_ ?_
   · refine .mk0 ⟨.eq _ _ rfl (.vsl _ _ _ _ rfl (fun _ _ _ _=> .int _ _)),.ptr _ _ _ _ rfl,.sl _ _ _ _ _ rfl,.sl _ _ _ _ _ rfl,Flat.i rfl,Flat.i rfl,trivial⟩ ⟨.old 0 0 _ _ rfl rfl ⟨rfl,Nat.le_refl _,fun i j hi hj=>oneU0 hj rfl⟩,.old 1 2 _ _ rfl rfl ⟨rfl,Nat.le_refl _,fun i j hi hj=> ?_⟩,.old 2 3 _ _ rfl rfl ⟨rfl,Nat.le_refl _,fun i j hi hj=> ?_⟩,trivial⟩ rfl rfl
     · have hj:j<1:=hj
       obtain rfl:j=0:=by omega
       exact keyW2 (P:=P) (s:=s) (a:=fun i=>xorB (P i) 54) hj (by rw [hP i hc,hs]) rfl
     · have hj:j<1:=hj
       obtain rfl:j=0:=by omega
       exact keyW2 (P:=P) (s:=s) (a:=fun i=>xorB (P i) 92) hj (by rw [hP i hc,hs]) rfl
   · rintro q l m ⟨j,rfl,rfl,hq⟩
     conv=>whnf
     repeat (refine⟨⟨_,rfl⟩,?_⟩;conv=>whnf)
     refine aE (fun hb=> ?_) (fun hb=> ?_)
     · have hb:j<64:=by simp at hb;omega
       conv=>whnf
       repeat (refine⟨⟨_,rfl⟩,?_⟩;conv=>whnf)
       refine aA (by simp;omega) ?_
       conv=>whnf
       repeat (refine⟨⟨_,rfl⟩,?_⟩;conv=>whnf)
       simp only [Int.toNat_natCast,Nat.zero_add]
       refine aA (by simp [bI,Nat.ble_eq];omega) ?_
       conv=>whnf
       repeat (refine⟨⟨_,rfl⟩,?_⟩;conv=>whnf)
       refine aA (by simp;omega) ?_
       conv=>whnf
       repeat (refine⟨⟨_,rfl⟩,?_⟩;conv=>whnf)
       simp only [Int.toNat_natCast,Nat.zero_add]
       refine aA (by simp [bI,Nat.ble_eq];omega) ?_
       conv=>whnf
       repeat (refine⟨⟨_,rfl⟩,?_⟩;conv=>whnf)
       refine aA (by simp;omega) ?_
       conv=>whnf
       repeat (refine⟨⟨_,rfl⟩,?_⟩;conv=>whnf)
       simp only [Int.toNat_natCast,Nat.zero_add]
       refine aA (by simp [bI,Nat.ble_eq];omega) ?_
       conv=>whnf
       repeat (refine⟨⟨_,rfl⟩,?_⟩;conv=>whnf)
       refine aA (by simp;omega) ?_
       conv=>whnf
       repeat (refine⟨⟨_,rfl⟩,?_⟩;conv=>whnf)
       simp only [Int.toNat_natCast,Nat.zero_add]
       refine aA (by simp [bI,Nat.ble_eq];omega) ?_
       conv=>whnf
       repeat (refine⟨⟨_,rfl⟩,?_⟩;conv=>whnf)
       have e5:IntKind.i64.wrap ((j:Int)+1)=((j+1:Nat):Int):=by rw [w64 (by omega) (by omega)];omega
       have e6:∀ x,dA .xor .u8 (if j<j then x else P j) 54=xorB (P j) 54:=fun x=>by rw [if_neg (Nat.lt_irrefl _)];rfl
       have e7:∀ x,dA .xor .u8 (if j<j then x else P j) 92=xorB (P j) 92:=fun x=>by rw [if_neg (Nat.lt_irrefl _)];rfl
       refine⟨q - 1,[(1,.vsl 1 k c2 (aB g)),(4,.ptr 0 0 0),(6,.sl 1 0 64 64),(7,.sl 2 0 64 64),(25,.int .i64 (64:Nat)),(26,.int .i64 ((j+1:Nat):Int))],[some ⟨1,32,fun _ _=> .int .u8 0⟩,some ⟨1,64,aB (fun i=>if i<j+1 then xorB (P i) 54 else P i)⟩,some ⟨1,64,aB (fun i=>if i<j+1 then xorB (P i) 92 else P i)⟩],[some 0,some 1,some 2],by omega,⟨j+1,rfl,rfl,by omega⟩,?_⟩
       refine .mk0 ⟨.eq _ _ rfl (.vsl _ _ _ _ rfl (fun _ _ _ _=> .int _ _)),.ptr _ _ _ _ rfl,.sl _ _ _ _ _ rfl,.sl _ _ _ _ _ rfl,Flat.i rfl,Flat.i e5,trivial⟩ ⟨.old 0 0 _ _ rfl rfl ⟨rfl,Nat.le_refl _,fun i j hi hj=> .eq _ _ rfl (.int _ _)⟩,.old 1 1 _ _ rfl rfl ⟨rfl,Nat.le_refl _,fun a b ha hb=> ?_⟩,.old 2 2 _ _ rfl rfl ⟨rfl,Nat.le_refl _,fun a b ha hb=> ?_⟩,trivial⟩ rfl rfl
       · exact updB (a:=fun i=>xorB (P i) 54) (z:=P) hb (e6 _) rfl
       · exact updB (a:=fun i=>xorB (P i) 92) (z:=P) hb (e7 _) rfl
     · have hb:j=64:=by simp at hb;omega
       subst hb
       conv=>whnf
       repeat (refine⟨⟨_,rfl⟩,?_⟩;conv=>whnf)
       refine aA (bQ (by simp) rfl rfl (by omega) (by omega)) (fun cap1 hcap1=> ?_)
       conv=>whnf
       repeat (refine⟨⟨_,rfl⟩,?_⟩;conv=>whnf)
       refine S_SumR (n:=64+k) (f:=inF P g) (aQ.any rfl (by simp) (fun i hi=> ?_)) (by omega) (fun i hi=> ?_) (fun s1 hs1 hsb1=> ?_)
       · exact catP (fun i h=>by simp only [inF,if_pos h]) (fun i h=>by simp only [inF];rw [if_neg (by omega),show 64+i - 64=i by omega]) (k:=k) (fun i h=>rfl) hi
       · by_cases h:i<64
         · simp only [inF,if_pos h];exact gU _ _
         · simp only [inF,if_neg h];exact hg _ (by omega)
       rw [rowL]
       conv=>whnf
       repeat (refine⟨⟨_,rfl⟩,?_⟩;conv=>whnf)
       intro cap2 hcap2
       conv=>whnf
       repeat (refine⟨⟨_,rfl⟩,?_⟩;conv=>whnf)
       refine S_SumR (n:=96) (f:=outF P s1) (aQ.any rfl (by simp) (fun i hi=> ?_)) (by omega) (fun i hi=> ?_) (fun s2 hs2 hsb2=> ?_)
       · exact catP (fun i h=>by simp only [outF,if_pos h]) (fun i h=>by simp only [outF];rw [if_neg (by omega),show 64+i - 64=i by omega]) (k:=32) (fun i h=>rowAt h rfl) hi
       · by_cases h:i<64
         · simp only [outF,if_pos h];exact gU _ _
         · simp only [outF,if_neg h];exact hsb1 _
       rw [rowL]
       conv=>whnf
       repeat (refine⟨⟨_,rfl⟩,?_⟩;conv=>whnf)
       have e9:s2=M:=by rw [hs2,hM,hs1]
       subst e9
       exact nP rfl
 · have hc:¬ 64<n:=by simp at hc;omega
   conv=>whnf
   repeat (refine⟨⟨_,rfl⟩,?_⟩;conv=>whnf)
   refine aT aJ (I:=fun q l m=>∃ (j:Nat),l= [(1,.vsl 1 k c2 (aB g)),(4,.ptr 0 0 0),(6,.sl 1 0 64 64),(7,.sl 2 0 64 64),(25,.int .i64 (64:Nat)),(26,.int .i64 j)] /\
    m= [some ⟨1,32,fun _ _=> .int .u8 0⟩,some ⟨1,64,aB (fun i=>if i<j then xorB (P i) 54 else P i)⟩,some ⟨1,64,aB (fun i=>if i<j then xorB (P i) 92 else P i)⟩] /\ q+j=64) 64
    (l0:= [(1,.vsl 1 k c2 (aB g)),(4,.ptr 0 0 0),(6,.sl 1 0 64 64),(7,.sl 2 0 64 64),(25,.int .i64 (64:Nat)),(26,.int .i64 (0:Nat))]) (m0:= [some ⟨1,32,fun _ _=> .int .u8 0⟩,some ⟨1,64,aB (fun i=>if i<0 then xorB (P i) 54 else P i)⟩,some ⟨1,64,aB (fun i=>if i<0 then xorB (P i) 92 else P i)⟩]) [some 0,some 1,some 2] ⟨0,rfl,rfl,rfl⟩ ?_ ?_
   · refine .mk0 ⟨.eq _ _ rfl (.vsl _ _ _ _ rfl (fun _ _ _ _=> .int _ _)),.ptr _ _ _ _ rfl,.sl _ _ _ _ _ rfl,.sl _ _ _ _ _ rfl,Flat.i rfl,Flat.i rfl,trivial⟩ ⟨.old 0 0 _ _ rfl rfl ⟨rfl,Nat.le_refl _,fun i j hi hj=>oneU0 hj rfl⟩,.old 1 1 _ _ rfl rfl ⟨rfl,Nat.le_refl _,fun i j hi hj=> ?_⟩,.old 2 2 _ _ rfl rfl ⟨rfl,Nat.le_refl _,fun i j hi hj=> ?_⟩,trivial⟩ rfl rfl
     · have hj:j<1:=hj
       obtain rfl:j=0:=by omega
       exact keyW1 (P:=P) (f:=f) (n:=n) (a:=fun i=>xorB (P i) 54) hj (by omega) (hP' i hc) rfl
     · have hj:j<1:=hj
       obtain rfl:j=0:=by omega
       exact keyW1 (P:=P) (f:=f) (n:=n) (a:=fun i=>xorB (P i) 92) hj (by omega) (hP' i hc) rfl
   · rintro q l m ⟨j,rfl,rfl,hq⟩
     conv=>whnf
     repeat (refine⟨⟨_,rfl⟩,?_⟩;conv=>whnf)
     refine aE (fun hb=> ?_) (fun hb=> ?_)
     · have hb:j<64:=by simp at hb;omega
       conv=>whnf
       repeat (refine⟨⟨_,rfl⟩,?_⟩;conv=>whnf)
       refine aA (by simp;omega) ?_
       conv=>whnf
       repeat (refine⟨⟨_,rfl⟩,?_⟩;conv=>whnf)
       simp only [Int.toNat_natCast,Nat.zero_add]
       refine aA (by simp [bI,Nat.ble_eq];omega) ?_
       conv=>whnf
       repeat (refine⟨⟨_,rfl⟩,?_⟩;conv=>whnf)
       refine aA (by simp;omega) ?_
       conv=>whnf
       repeat (refine⟨⟨_,rfl⟩,?_⟩;conv=>whnf)
       simp only [Int.toNat_natCast,Nat.zero_add]
       refine aA (by simp [bI,Nat.ble_eq];omega) ?_
       conv=>whnf
       repeat (refine⟨⟨_,rfl⟩,?_⟩;conv=>whnf)
       refine aA (by simp;omega) ?_
       conv=>whnf
       repeat (refine⟨⟨_,rfl⟩,?_⟩;conv=>whnf)
       simp only [Int.toNat_natCast,Nat.zero_add]
       refine aA (by simp [bI,Nat.ble_eq];omega) ?_
       conv=>whnf
       repeat (refine⟨⟨_,rfl⟩,?_⟩;conv=>whnf)
       refine aA (by simp;omega) ?_
       conv=>whnf
       repeat (refine⟨⟨_,rfl⟩,?_⟩;conv=>whnf)
       simp only [Int.toNat_natCast,Nat.zero_add]
       refine aA (by simp [bI,Nat.ble_eq];omega) ?_
       conv=>whnf
       repeat (refine⟨⟨_,rfl⟩,?_⟩;conv=>whnf)
       have e5:IntKind.i64.wrap ((j:Int)+1)=((j+1:Nat):Int):=by rw [w64 (by omega) (by omega)];omega
       have e6:∀ x,dA .xor .u8 (if j<j then x else P j) 54=xorB (P j) 54:=fun x=>by rw [if_neg (Nat.lt_irrefl _)];rfl
       have e7:∀ x,dA .xor .u8 (if j<j then x else P j) 92=xorB (P j) 92:=fun x=>by rw [if_neg (Nat.lt_irrefl _)];rfl
       refine⟨q - 1,[(1,.vsl 1 k c2 (aB g)),(4,.ptr 0 0 0),(6,.sl 1 0 64 64),(7,.sl 2 0 64 64),(25,.int .i64 (64:Nat)),(26,.int .i64 ((j+1:Nat):Int))],[some ⟨1,32,fun _ _=> .int .u8 0⟩,some ⟨1,64,aB (fun i=>if i<j+1 then xorB (P i) 54 else P i)⟩,some ⟨1,64,aB (fun i=>if i<j+1 then xorB (P i) 92 else P i)⟩],[some 0,some 1,some 2],by omega,⟨j+1,rfl,rfl,by omega⟩,?_⟩
       refine .mk0 ⟨.eq _ _ rfl (.vsl _ _ _ _ rfl (fun _ _ _ _=> .int _ _)),.ptr _ _ _ _ rfl,.sl _ _ _ _ _ rfl,.sl _ _ _ _ _ rfl,Flat.i rfl,Flat.i e5,trivial⟩ ⟨.old 0 0 _ _ rfl rfl ⟨rfl,Nat.le_refl _,fun i j hi hj=> .eq _ _ rfl (.int _ _)⟩,.old 1 1 _ _ rfl rfl ⟨rfl,Nat.le_refl _,fun a b ha hb=> ?_⟩,.old 2 2 _ _ rfl rfl ⟨rfl,Nat.le_refl _,fun a b ha hb=> ?_⟩,trivial⟩ rfl rfl
       · exact updB (a:=fun i=>xorB (P i) 54) (z:=P) hb (e6 _) rfl
       · exact updB (a:=fun i=>xorB (P i) 92) (z:=P) hb (e7 _) rfl
     · have hb:j=64:=by simp at hb;omega
       subst hb
       conv=>whnf
       repeat (refine⟨⟨_,rfl⟩,?_⟩;conv=>whnf)
       refine aA (bQ (by simp) rfl rfl (by omega) (by omega)) (fun cap1 hcap1=> ?_)
       conv=>whnf
       repeat (refine⟨⟨_,rfl⟩,?_⟩;conv=>whnf)
       refine S_SumR (n:=64+k) (f:=inF P g) (aQ.any rfl (by simp) (fun i hi=> ?_)) (by omega) (fun i hi=> ?_) (fun s1 hs1 hsb1=> ?_)
       · exact catP (fun i h=>by simp only [inF,if_pos h]) (fun i h=>by simp only [inF];rw [if_neg (by omega),show 64+i - 64=i by omega]) (k:=k) (fun i h=>rfl) hi
       · by_cases h:i<64
         · simp only [inF,if_pos h];exact gU _ _
         · simp only [inF,if_neg h];exact hg _ (by omega)
       rw [rowL]
       conv=>whnf
       repeat (refine⟨⟨_,rfl⟩,?_⟩;conv=>whnf)
       intro cap2 hcap2
       conv=>whnf
       repeat (refine⟨⟨_,rfl⟩,?_⟩;conv=>whnf)
       refine S_SumR (n:=96) (f:=outF P s1) (aQ.any rfl (by simp) (fun i hi=> ?_)) (by omega) (fun i hi=> ?_) (fun s2 hs2 hsb2=> ?_)
       · exact catP (fun i h=>by simp only [outF,if_pos h]) (fun i h=>by simp only [outF];rw [if_neg (by omega),show 64+i - 64=i by omega]) (k:=32) (fun i h=>rowAt h rfl) hi
       · by_cases h:i<64
         · simp only [outF,if_pos h];exact gU _ _
         · simp only [outF,if_neg h];exact hsb1 _
       rw [rowL]
       conv=>whnf
       repeat (refine⟨⟨_,rfl⟩,?_⟩;conv=>whnf)
       have e9:s2=M:=by rw [hs2,hM,hs1]
       subst e9
       exact nP rfl
theorem S_Mac {m:Mem} {x y:AV} {n k:Nat} {f g:Nat->Int} {K:AV->Mem->Prop} (hx:aQ m x n f) (hy:aQ m y k g) (hn:n<=900000) (hk:k<=900000) (hf:∀ i,i<n->0<=f i/\f i<=255) (hg:∀ i,i<k->0<=g i/\g i<=255)
 (h:∀ s,s=macB n f k g->(∀ i,0<=s i/\s i<=255)->K (.agg (rowL s)) m):ACall Pg uA [x,y] m K:=by
 obtain⟨c1,hl⟩:=hx
 obtain⟨c2,hl2⟩:=hy
 refine aD (S_Mac0 n c1 f k c2 g hn hk hf hg) (.cons _ _ _ _ hl (.cons _ _ _ _ hl2 .nil)) ?_
 rintro v rfl
 exact h _ rfl (sumB_lt _ _)
end Go.Proofs.YtfolpdmbpbbimaaGreat
end

section
namespace Go.Proofs.YtfolpdmbpbbimaaGreat
open Go Go.Wit
def stF (k:Nat) (f:Nat->Int) (i:Nat):Int:=macB k f 8 (beF (i / 32:Nat) 8) (i % 32)
theorem stF_lt {k:Nat} {f:Nat->Int} (i:Nat):0<=stF k f i/\stF k f i<=255:=sumB_lt _ _ _
theorem stW {nv:Bool} {σ:Nat->Option Nat} {k c i j:Nat} {f:Nat->Int} {s:Nat->Int} {h:Nat->Nat->AV} {A:AV} (hj:j<1) (hi:i<32*(c+1)) (hs:s=macB k f 8 (beF (c:Nat) 8)) (hA:A=catG (32*c) (aB (stF k f)) h i j) (hh:∀ t,t<32->h t 0= .int .u8 (s t)):RV nv σ A (aB (stF k f) i j):=by
 subst hA
 obtain rfl:j=0:=by omega
 refine RV.of ?_ (.int _ _)
 by_cases h1:i<32*c
 · rw [cU h1]
 · rw [bK (by omega),hh _ (by omega),hs]
   show _=AV.int .u8 (macB k f 8 (beF (i / 32:Nat) 8) (i % 32))
   rw [show i / 32=c by omega,show i % 32=i - 32*c by omega]
theorem S_DStream0 (k c1:Nat) (f:Nat->Int) (n:Int) (hk:k<=900000) (hf:∀ i,i<k->0<=f i/\f i<=255):
 ACall Pg kF [.vsl 1 k c1 (aB f),.int .i64 n] [] (fun v m'=>∃ n' f' x vs,v= .tup (x::vs)/\((0<=n/\n<=65536/\n'=n.toNat/\f'=stF k f/\vs= [.int .i64 0])\/(¬ (0<=n/\n<=65536)/\n'=0/\vs= [.int .i64 4]))/\RetB n' f' x m'/\Flats true vs):=by
 refine B_draw_Stream ⟨rfl,?_⟩
 have hbad:¬ (0<=n/\n<=65536)->∀ m',∃ n' f' x vs,AV.tup [.nils,.int .i64 4] = .tup (x::vs)/\((0<=n/\n<=65536/\n'=n.toNat/\f'=stF k f/\vs= [.int .i64 0])\/(¬ (0<=n/\n<=65536)/\n'=0/\vs= [.int .i64 4]))/\RetB n' f' x m'/\Flats true vs:=fun h m'=>
  ⟨0,fun _=>0,.nils,_,rfl,.inr ⟨h,rfl,rfl⟩,.inl ⟨rfl,rfl⟩,.cons _ _ (.int _ _) .nil⟩
 conv=>whnf
 repeat (refine⟨⟨[],rfl⟩,?_⟩;conv=>whnf)
 refine aE (fun h0=> ?_) (fun h0=> ?_)
 rotate_left
 · conv=>whnf
   repeat (refine⟨⟨[],rfl⟩,?_⟩;conv=>whnf)
   exact hbad (by simp at h0;omega) []
 conv=>whnf
 repeat (refine⟨⟨[],rfl⟩,?_⟩;conv=>whnf)
 refine aE (fun h1=> ?_) (fun h1=> ?_)
 · conv=>whnf
   repeat (refine⟨⟨[],rfl⟩,?_⟩;conv=>whnf)
   exact hbad (by simp at h1;omega) []
 obtain⟨N,rfl⟩ :∃ N:Nat,n=N:=⟨n.toNat,by simp at h0;omega⟩
 have hN:N<=65536:=by simp at h1;omega
 clear h0 h1 hbad
 conv=>whnf
 repeat (refine⟨⟨[],rfl⟩,?_⟩;conv=>whnf)
 refine aT aJ (I:=fun q l m=>∃ (c c':Nat),l= [(0,.vsl 1 k c1 (aB f)),(1,.int .i64 N),(6,.sl 0 0 (32*c) c'),(7,.int .u64 c)] /\ m= [some ⟨1,32*c,aB (stF k f)⟩] /\ q+c=(N+31) / 32) ((N+31) / 32)
  (l0:= [(0,.vsl 1 k c1 (aB f)),(1,.int .i64 N),(6,.sl 0 0 (32*0) 0),(7,.int .u64 (0:Nat))]) (m0:= [some ⟨1,32*0,aB (stF k f)⟩]) [none] ⟨0,0,rfl,rfl,rfl⟩ ?_ ?_
 · exact .mk0 ⟨.eq _ _ rfl (.vsl _ _ _ _ rfl (fun _ _ _ _=> .int _ _)),Flat.i rfl,.nils _ _,Flat.i rfl,trivial⟩ ⟨.ph _ _ _ rfl,trivial⟩ rfl rfl
 · rintro q l m ⟨c,c',rfl,rfl,hq⟩
   conv=>whnf
   repeat (refine⟨⟨[],rfl⟩,?_⟩;conv=>whnf)
   refine aE (fun hb=> ?_) (fun hb=> ?_)
   · have hb:32*c<N:=by simp at hb;omega
     conv=>whnf
     repeat (refine⟨⟨[],rfl⟩,?_⟩;conv=>whnf)
     refine S_number (s:=8) (x:=(c:Int)) (by omega) (by decide) (fun cap2=> ?_)
     conv=>whnf
     repeat (refine⟨⟨[],rfl⟩,?_⟩;conv=>whnf)
     refine S_Mac (f:=f) (g:=beF c 8) aQ.vsl (aQ.sl rfl (Nat.le_refl 8) fun i hi=>by rw [Nat.zero_add]) hk (by decide) hf (fun _ _=>beF_lt) (fun s hs hsb=> ?_)
     rw [rowL]
     conv=>whnf
     repeat (refine⟨⟨[],rfl⟩,?_⟩;conv=>whnf)
     refine aA (bQ (by first | rfl | simp) rfl rfl (by omega) (by omega)) (fun cap4 hcap4=> ?_)
     conv=>whnf
     repeat (refine⟨⟨[],rfl⟩,?_⟩;conv=>whnf)
     have e5:IntKind.u64.wrap ((c:Int)+1)=((c+1:Nat):Int):=by rw [wu64];omega
     refine⟨q - 1,[(0,.vsl 1 k c1 (aB f)),(1,.int .i64 N),(6,.sl 0 0 (32*(c+1)) cap4),(7,.int .u64 ((c+1:Nat):Int))],[some ⟨1,32*(c+1),aB (stF k f)⟩],[some 3],by omega,⟨c+1,cap4,rfl,rfl,by omega⟩,?_⟩
     refine .mk0 ⟨.eq _ _ rfl (.vsl _ _ _ _ rfl (fun _ _ _ _=> .int _ _)),Flat.i rfl,.sl _ _ _ _ _ rfl,Flat.i e5,trivial⟩ ⟨.old 0 3 _ _ rfl rfl ⟨rfl,Nat.le_refl _,fun i j hi hj=> ?_⟩,trivial⟩ rfl rfl
     dsimp only
     refine stW hj hi hs rfl fun t ht=> ?_
     refine rowAtE ht ?_ rfl
     omega
   · have hb:N<=32*c:=by simp at hb;omega
     conv=>whnf
     repeat (refine⟨⟨[],rfl⟩,?_⟩;conv=>whnf)
     refine aA (by simp;omega) ?_
     conv=>whnf
     repeat (refine⟨⟨[],rfl⟩,?_⟩;conv=>whnf)
     refine aA (bQ rfl (decide_eq_true (by show 0+0+N<=32*c;omega)) rfl (by show (0+N)*1<=140737488355328;omega) (by show 0+N<=140737488355328;omega)) (fun cap4 hcap4=> ?_)
     conv=>whnf
     repeat (refine⟨⟨[],rfl⟩,?_⟩;conv=>whnf)
     refine⟨N,stF k f,_,_,rfl,.inl ⟨by omega,by omega,rfl,rfl,rfl⟩,.inr ⟨2,cap4,0+N,_,by rw [Nat.zero_add];rfl,rfl,by omega,fun i hi=> ?_⟩,.cons _ _ (.int _ _) .nil⟩
     dsimp only
     rw [bK (by omega)]
     show aB (stF k f) (0+0+(i - 0)) 0=_
     rw [show 0+0+(i - 0)=i by omega]
     rfl
theorem S_DStream {m:Mem} {x:AV} {K:AV->Mem->Prop} {k:Nat} {f:Nat->Int} {n:Int} (hx:aQ m x k f) (hk:k<=900000) (hf:∀ i,i<k->0<=f i/\f i<=255)
 (h1:0<=n->n<=65536->∀ cap,memK (m++ [some ⟨1,n.toNat,aB (stF k f)⟩]) (K (.tup [.sl m.length 0 n.toNat cap,.int .i64 0])))
 (h2:¬ (0<=n/\n<=65536)->∀ g cap,memK (m++ [some ⟨1,0,aB g⟩]) (K (.tup [.sl m.length 0 0 cap,.int .i64 4]))):ACall Pg kF [x,.int .i64 n] m K:=by
 simp only [cO]at h1 h2
 obtain⟨cap,hl⟩:=hx
 refine qV (S_DStream0 k cap f n hk hf) (.cons _ _ _ _ hl (.cons _ _ _ _ aK .nil)) ?_
 rintro n' f' cap' vs (⟨g1,g2,rfl,rfl,rfl⟩ | ⟨h,rfl,rfl⟩)
 · exact h1 g1 g2 cap'
 · exact h2 h f' cap'
theorem S_RStream0 (k c1:Nat) (f:Nat->Int) (N:Nat) (hN:N<=65536) (hk:k<=900000) (hf:∀ i,i<k->0<=f i/\f i<=255):
 ACall Pg dN [.vsl 1 k c1 (aB f),.int .i64 N] [] (fun v m'=>∃ n' f',(n'=N/\f'=stF k f)/\RetB n' f' v m'):=by
 refine sG ⟨rfl,?_⟩
 conv=>whnf
 repeat (refine⟨⟨[],rfl⟩,?_⟩;conv=>whnf)
 refine aT aJ (I:=fun q l m=>∃ (c c':Nat),l= [(0,.vsl 1 k c1 (aB f)),(1,.int .i64 N),(5,.sl 0 0 (32*c) c'),(6,.int .u64 c)] /\ m= [some ⟨1,32*c,aB (stF k f)⟩] /\ q+c=(N+31) / 32) ((N+31) / 32)
  (l0:= [(0,.vsl 1 k c1 (aB f)),(1,.int .i64 N),(5,.sl 0 0 (32*0) 0),(6,.int .u64 (0:Nat))]) (m0:= [some ⟨1,32*0,aB (stF k f)⟩]) [none] ⟨0,0,rfl,rfl,rfl⟩ ?_ ?_
 · exact .mk0 ⟨.eq _ _ rfl (.vsl _ _ _ _ rfl (fun _ _ _ _=> .int _ _)),Flat.i rfl,.nils _ _,Flat.i rfl,trivial⟩ ⟨.ph _ _ _ rfl,trivial⟩ rfl rfl
 · rintro q l m ⟨c,c',rfl,rfl,hq⟩
   conv=>whnf
   repeat (refine⟨⟨[],rfl⟩,?_⟩;conv=>whnf)
   refine aE (fun hb=> ?_) (fun hb=> ?_)
   · have hb:32*c<N:=by simp at hb;omega
     conv=>whnf
     repeat (refine⟨⟨[],rfl⟩,?_⟩;conv=>whnf)
     refine S_be (s:=8) (x:=(c:Int)) (by omega) (by decide) (fun cap2=> ?_)
     conv=>whnf
     repeat (refine⟨⟨[],rfl⟩,?_⟩;conv=>whnf)
     refine S_RMac (f:=f) (g:=beF c 8) aQ.vsl (aQ.sl rfl (Nat.le_refl 8) fun i hi=>by rw [Nat.zero_add]) hk (by decide) hf (fun _ _=>beF_lt) (fun s hs hsb=> ?_)
     rw [rowL]
     conv=>whnf
     repeat (refine⟨⟨[],rfl⟩,?_⟩;conv=>whnf)
     refine aA (bQ (by first | rfl | simp) rfl rfl (by omega) (by omega)) (fun cap4 hcap4=> ?_)
     conv=>whnf
     repeat (refine⟨⟨[],rfl⟩,?_⟩;conv=>whnf)
     have e5:IntKind.u64.wrap ((c:Int)+1)=((c+1:Nat):Int):=by rw [wu64];omega
     refine⟨q - 1,[(0,.vsl 1 k c1 (aB f)),(1,.int .i64 N),(5,.sl 0 0 (32*(c+1)) cap4),(6,.int .u64 ((c+1:Nat):Int))],[some ⟨1,32*(c+1),aB (stF k f)⟩],[some 3],by omega,⟨c+1,cap4,rfl,rfl,by omega⟩,?_⟩
     refine .mk0 ⟨.eq _ _ rfl (.vsl _ _ _ _ rfl (fun _ _ _ _=> .int _ _)),Flat.i rfl,.sl _ _ _ _ _ rfl,Flat.i e5,trivial⟩ ⟨.old 0 3 _ _ rfl rfl ⟨rfl,Nat.le_refl _,fun i j hi hj=> ?_⟩,trivial⟩ rfl rfl
     dsimp only
     refine stW hj hi hs rfl fun t ht=> ?_
     refine rowAtE ht ?_ rfl
     omega
   · have hb:N<=32*c:=by simp at hb;omega
     conv=>whnf
     repeat (refine⟨⟨[],rfl⟩,?_⟩;conv=>whnf)
     refine aA (by simp;omega) ?_
     conv=>whnf
     repeat (refine⟨⟨[],rfl⟩,?_⟩;conv=>whnf)
     exact⟨N,_,⟨rfl,rfl⟩,.inr ⟨0,c',32*c,_,rfl,rfl,hb,fun i hi=>rfl⟩⟩
theorem S_RStream {m:Mem} {x:AV} {K:AV->Mem->Prop} {k N:Nat} {f:Nat->Int} (hx:aQ m x k f) (hN:N<=65536) (hk:k<=900000) (hf:∀ i,i<k->0<=f i/\f i<=255)
 (h1:∀ cap,memK (m++ [some ⟨1,N,aB (stF k f)⟩]) (K (.sl m.length 0 N cap))):ACall Pg dN [x,.int .i64 N] m K:=by
 simp only [cO]at h1
 obtain⟨cap,hl⟩:=hx
 refine eO (S_RStream0 k cap f N hN hk hf) (.cons _ _ _ _ hl (.cons _ _ _ _ aK .nil)) ?_
 rintro n' f' cap' ⟨rfl,rfl⟩
 exact h1 cap'
end Go.Proofs.YtfolpdmbpbbimaaGreat
end

section
namespace Go.Proofs.YtfolpdmbpbbimaaGreat
open Go Go.Wit
def isD (i:Int):Bool:=decide (1<=i) && decide (i<=8)
theorem qY {m:Mem} {K:AV->Mem->Prop} {i:Int} (h:K (.bool (isD i)) m):ACall Pg jC [.int .i64 i] m K:=by
 have h0:ACall Pg jC [.int .i64 i] [] (fun v _=>v= .bool (isD i)/\Flat true v):=by
  refine B_pair_dealer ⟨rfl,?_⟩
  conv=>whnf
  repeat (refine⟨⟨[],rfl⟩,?_⟩;conv=>whnf)
  refine aE (fun h=> ?_) (fun h=> ?_)
  · conv=>whnf
    repeat (refine⟨⟨[],rfl⟩,?_⟩;conv=>whnf)
    have e:decide (1<=i)=true:=by simpa using h
    exact⟨by unfold isD;rw [e];rfl,.bool _⟩
  · conv=>whnf
    repeat (refine⟨⟨[],rfl⟩,?_⟩;conv=>whnf)
    have e:decide (1<=i)=false:=by simpa using h
    exact⟨by unfold isD;rw [e];rfl,.bool _⟩
 refine aD h0 (.cons _ _ _ _ aK .nil) ?_
 rintro v rfl
 exact h
def keyF (P:Pt Fp) (a b:Int):Nat->Int:=catB (pbN P) (pbF P) (fun i=>if i=0 then a else b)
def tnF (P:Pt Fp) (a b:Int) (f:Nat->Int) (i:Nat):Int:=xorB (f i) (stF (pbN P+2) (keyF P a b) i)
theorem keyF_in {P:Pt Fp} {a b:Int} (ha:isD a=true) (hb:isD b=true) (i:Nat) (hi:i<pbN P+2):0<=keyF P a b i/\keyF P a b i<=255:=by
 simp only [isD,Bool.and_eq_true,decide_eq_true_eq]at ha hb
 refine vM (m:=2) (fun i _=>pbF_lt P i) (fun i _=> ?_) hi
 split <;> omega
theorem isD_u8 {a:Int} (ha:isD a=true):IntKind.u8.wrap a=a:=by
 simp only [isD,Bool.and_eq_true,decide_eq_true_eq]at ha
 rw [IntKind.wrap_u8];omega
theorem rowL_at {f:Nat->Int} {i:Nat} {A:AV} (hi:i<32) (hA:A=(List.map (fun i=>AV.int .u8 (f i)) (List.range 32)).getD (i*1+0) .un):A= .int .u8 (f i):=by
 rw [hA,show i*1+0=i by omega]
 exact rowL_get hi
theorem turnW {nv:Bool} {σ:Nat->Option Nat} {T f g:Nat->Int} {k i j p q r:Nat} {x:Int} {A:AV} (hj:j<1) (hx:x=dA .xor .u8 (if q<k then T q else f q) (g r)) (hT:T k=xorB (f k) (g k)) (hp:p=k) (hq:q=k) (hr:r=k) (hA:A=updG ⟨1,32,aB (fun i=>if i<k then T i else f i)⟩ p 0 1 [.int .u8 x] i j):
 RV nv σ A (aB (fun i=>if i<k+1 then T i else f i) i j):=by
 subst hp hq hr
 exact updB (a:=T) (z:=f) hj (by rw [hx,if_neg (Nat.lt_irrefl _),hT];rfl) hA
theorem outTurn {s z:Nat->Int} {g:Nat->Nat->AV} {l:List AV} (hl:l=List.map (cellG ⟨1,32,updG ⟨1,32,g⟩ 0 0 32 (List.map (cellG ⟨1,32,aB (fun i=>if i<32 then s i else z i)⟩ 0 0) (List.range 32))⟩ 0 0) (List.range 32)):AV.agg l= .agg (rowL s):=by
 have e:List.map (cellG ⟨1,32,aB (fun i=>if i<32 then s i else z i)⟩ 0 0) (List.range 32)=(List.range 32).map fun i=> .int .u8 (s i):=by
  refine List.map_congr_left fun i hi=> ?_
  rw [qH,Nat.zero_add]
  show AV.int .u8 (if i<32 then s i else z i)=_
  rw [if_pos (List.mem_range.1 hi)]
 rw [e]at hl
 exact(nP hl).1
theorem S_turned0 (P:Pt Fp) (oP:On P) (a b:Int) (ha:isD a=true) (hb:isD b=true) (f:Nat->Int) (hf:∀ i,i<32->0<=f i/\f i<=255):
 ACall Pg dD [ptA P,.int .i64 a,.int .i64 b,.agg (rowL f)] [] (fun v _=>v= .tup [.agg (rowL (tnF P a b f)),.int .i64 0] /\ Flat true v):=by
 have hT:∀ i,tnF P a b f i=xorB (f i) (stF (pbN P+2) (keyF P a b) i):=fun _=>rfl
 generalize tnF P a b f=T at*
 have hk:=keyF_in (P:=P) ha hb
 have hn:=pbN_le P
 have hcell:∀ {n:Nat} {g h:Nat->Nat->AV},(∀ i,g i 0= .int .u8 (pbF P i))->h 0 0= .int .u8 (IntKind.u8.wrap a)->h 1 0= .int .u8 (IntKind.u8.wrap b)->∀ i,i<pbN P+2->catG (pbN P) g h i 0= .int .u8 (keyF P a b i):=fun h0 h1 h2 i hi=>by
  unfold keyF
  by_cases h:i<pbN P
  · rw [cU h,catB_lt h,h0]
  · rw [bK (by omega),catB_ge (by omega)]
    have:i - pbN P=0\/i - pbN P=1:=by omega
    rcases this with e | e
    · rw [e,h1,isD_u8 ha,if_pos rfl]
    · rw [e,h2,isD_u8 hb,if_neg (by decide)]
 unfold rowL
 refine pF ⟨rfl,?_⟩
 conv=>whnf
 repeat (refine⟨⟨_,rfl⟩,?_⟩;conv=>whnf)
 refine qY ?_
 rw [ha]
 conv=>whnf
 repeat (refine⟨⟨_,rfl⟩,?_⟩;conv=>whnf)
 refine qY ?_
 rw [hb]
 conv=>whnf
 repeat (refine⟨⟨_,rfl⟩,?_⟩;conv=>whnf)
 refine S_CBytes oP (fun cap1=> ?_)
 conv=>whnf
 repeat (refine⟨⟨_,rfl⟩,?_⟩;conv=>whnf)
 refine aA (bQ (by first | rfl | simp) rfl rfl (by omega) (by omega)) (fun cap2 hcap2=> ?_)
 conv=>whnf
 repeat (refine⟨⟨_,rfl⟩,?_⟩;conv=>whnf)
 refine S_DStream (k:=pbN P+2) (f:=keyF P a b) (n:=32) (aQ.any rfl (Nat.le_of_eq (Nat.zero_add _)) fun i hi=> ?_) (by omega) hk (fun _ _ cap3=> ?_) (fun h=>absurd h (by decide))
 · rw [show 0+i=i from Nat.zero_add i]
   dsimp only
   exact hcell (n:=0) (fun _=>rfl) rfl rfl i hi
 conv=>whnf
 repeat (refine⟨⟨_,rfl⟩,?_⟩;conv=>whnf)
 refine aT aJ (I:=fun q l m=>∃ (j:Nat),l= [(7,.ptr 0 0 0),(8,.ptr 1 0 0),(9,.int .i64 0),(12,.sl 2 0 32 cap3),(47,.int .i64 j)] /\ m= [some ⟨1,32,aB (fun i=>if i<j then T i else f i)⟩,some ⟨1,32,fun _ _=> .int .u8 0⟩,some ⟨1,32,aB (stF (pbN P+2) (keyF P a b))⟩] /\ q+j=32) 32
  (l0:= [(7,.ptr 0 0 0),(8,.ptr 1 0 0),(9,.int .i64 0),(12,.sl 2 0 32 cap3),(47,.int .i64 (0:Nat))]) (m0:= [some ⟨1,32,aB (fun i=>if i<0 then T i else f i)⟩,some ⟨1,32,fun _ _=> .int .u8 0⟩,some ⟨1,32,aB (stF (pbN P+2) (keyF P a b))⟩]) [some 1,some 2,some 6] ⟨0,rfl,rfl,rfl⟩ ?_ ?_
 · refine .mk0 ⟨.ptr _ _ _ _ rfl,.ptr _ _ _ _ rfl,Flat.i rfl,.sl _ _ _ _ _ rfl,Flat.i rfl,trivial⟩ ⟨.old 0 1 _ _ rfl rfl ⟨rfl,Nat.le_refl _,fun i j hi hj=> ?_⟩,.old 1 2 _ _ rfl rfl ⟨rfl,Nat.le_refl _,fun i j hi hj=>oneU0 hj rfl⟩,.old 2 6 _ _ rfl rfl ⟨rfl,Nat.le_refl _,fun i j hi hj=>RV.of rfl (.int _ _)⟩,trivial⟩ rfl rfl
   have hj:j<1:=hj
   obtain rfl:j=0:=by omega
   exact zeroB (j:=0) (a:=T) (z:=f) (rowL_at hi rfl)
 · rintro q l m ⟨j,rfl,rfl,hq⟩
   conv=>whnf
   repeat (refine⟨⟨_,rfl⟩,?_⟩;conv=>whnf)
   refine aE (fun hb=> ?_) (fun hb=> ?_)
   · have hb:j<32:=by simp at hb;omega
     conv=>whnf
     repeat (refine⟨⟨_,rfl⟩,?_⟩;conv=>whnf)
     refine aA (by simp;omega) ?_
     conv=>whnf
     repeat (refine⟨⟨_,rfl⟩,?_⟩;conv=>whnf)
     refine aA (by simp [bI,Nat.ble_eq];omega) ?_
     conv=>whnf
     repeat (refine⟨⟨_,rfl⟩,?_⟩;conv=>whnf)
     refine aA (by simp;omega) ?_
     conv=>whnf
     repeat (refine⟨⟨_,rfl⟩,?_⟩;conv=>whnf)
     refine aA (by simp [bI,Nat.ble_eq];omega) ?_
     conv=>whnf
     repeat (refine⟨⟨_,rfl⟩,?_⟩;conv=>whnf)
     refine aA (by simp;omega) ?_
     conv=>whnf
     repeat (refine⟨⟨_,rfl⟩,?_⟩;conv=>whnf)
     refine aA (by simp [bI,Nat.ble_eq];omega) ?_
     conv=>whnf
     repeat (refine⟨⟨_,rfl⟩,?_⟩;conv=>whnf)
     have e5:IntKind.i64.wrap ((j:Int)+1)=((j+1:Nat):Int):=by rw [w64 (by omega) (by omega)];omega
     refine⟨q - 1,[(7,.ptr 0 0 0),(8,.ptr 1 0 0),(9,.int .i64 0),(12,.sl 2 0 32 cap3),(47,.int .i64 ((j+1:Nat):Int))],[some ⟨1,32,aB (fun i=>if i<j+1 then T i else f i)⟩,some ⟨1,32,fun _ _=> .int .u8 0⟩,some ⟨1,32,aB (stF (pbN P+2) (keyF P a b))⟩],[some 0,some 1,some 2],by omega,⟨j+1,rfl,rfl,by omega⟩,?_⟩
     exact .mk0 ⟨.ptr _ _ _ _ rfl,.ptr _ _ _ _ rfl,Flat.i rfl,.sl _ _ _ _ _ rfl,Flat.i e5,trivial⟩ ⟨.old 0 0 _ _ rfl rfl ⟨rfl,Nat.le_refl _,fun x y hx hy=>turnW hy rfl (hT j) (Nat.zero_add _) (Nat.zero_add _) (Nat.zero_add _) rfl⟩,.old 1 1 _ _ rfl rfl ⟨rfl,Nat.le_refl _,fun i j hi hj=> .eq _ _ rfl (.int _ _)⟩,.old 2 2 _ _ rfl rfl ⟨rfl,Nat.le_refl _,fun i j hi hj=>RV.of rfl (.int _ _)⟩,trivial⟩ rfl rfl
   · have hb:j=32:=by simp at hb;omega
     subst hb
     conv=>whnf
     repeat (refine⟨⟨_,rfl⟩,?_⟩;conv=>whnf)
     have e0:=outTurn (s:=T) (z:=f) (g:=fun _ _=> .int .u8 0) rfl
     refine⟨congrArg (fun x=>AV.tup [x,.int .i64 0]) e0,?_⟩
     refine Eq.mpr (congrArg (fun x=>Flat true (AV.tup [x,.int .i64 0])) e0) ?_
     exact .tup _ (.cons _ _ eQ (.cons _ _ (.int _ _) .nil))
theorem S_turned {m:Mem} {K:AV->Mem->Prop} {P:Pt Fp} {a b:Int} {f:Nat->Int} (oP:On P) (ha:isD a=true) (hb:isD b=true) (hf:∀ i,i<32->0<=f i/\f i<=255) (h:∀ s,s=tnF P a b f->(∀ i,0<=s i/\s i<=255)->K (.tup [.agg (rowL s),.int .i64 0]) m):ACall Pg dD [ptA P,.int .i64 a,.int .i64 b,.agg (rowL f)] m K:=by
 refine aD (S_turned0 P oP a b ha hb f hf) (.cons _ _ _ _ (aG bU) (.cons _ _ _ _ aK (.cons _ _ _ _ aK (.cons _ _ _ _ (aG eQ) .nil)))) ?_
 rintro v rfl
 exact h _ rfl fun i=>gU _ _
theorem S_turned_no {m:Mem} {K:AV->Mem->Prop} {i:Bool} {x y:Nat} {a b:Int} {f:Nat->Int} (hab:(isD a && isD b)=false) (h:K (.tup [.agg (rowL fun _=>0),.int .i64 1]) m):ACall Pg dD [rawA i x y,.int .i64 a,.int .i64 b,.agg (rowL f)] m K:=by
  have h0:ACall Pg dD [rawA i x y,.int .i64 a,.int .i64 b,.agg (rowL f)] [] (fun v _=>v= .tup [.agg (rowL fun _=>0),.int .i64 1] /\ Flat true v):=by
    unfold rowL
    refine pF ⟨rfl,?_⟩
    conv=>whnf
    repeat (refine⟨⟨_,rfl⟩,?_⟩;conv=>whnf)
    refine qY ?_
    cases ha:isD a with
    | false =>
      conv=>whnf
      repeat (refine⟨⟨_,rfl⟩,?_⟩;conv=>whnf)
      have e0:=(nP (s:=fun _=>0) (g:=fun _ j=> [AV.int .u8 0].getD j .un) rfl).1
      refine⟨congrArg (fun x=>AV.tup [x,.int .i64 1]) e0,?_⟩
      refine Eq.mpr (congrArg (fun x=>Flat true (AV.tup [x,.int .i64 1])) e0) ?_
      exact .tup _ (.cons _ _ eQ (.cons _ _ (.int _ _) .nil))
    | true =>
      rw [ha,Bool.true_and]at hab
      conv=>whnf
      repeat (refine⟨⟨_,rfl⟩,?_⟩;conv=>whnf)
      refine qY ?_
      rw [hab]
      conv=>whnf
      repeat (refine⟨⟨_,rfl⟩,?_⟩;conv=>whnf)
      have e0:=(nP (s:=fun _=>0) (g:=fun _ j=> [AV.int .u8 0].getD j .un) rfl).1
      refine⟨congrArg (fun x=>AV.tup [x,.int .i64 1]) e0,?_⟩
      refine Eq.mpr (congrArg (fun x=>Flat true (AV.tup [x,.int .i64 1])) e0) ?_
      exact .tup _ (.cons _ _ eQ (.cons _ _ (.int _ _) .nil))
  refine aD h0 (.cons _ _ _ _ (aG cG) (.cons _ _ _ _ aK (.cons _ _ _ _ aK (.cons _ _ _ _ (aG eQ) .nil)))) ?_
  rintro v rfl
  exact h
theorem S_turned_bad {m:Mem} {K:AV->Mem->Prop} {i:Bool} {x y:Nat} {a b:Int} {f:Nat->Int} (hx:x<w256) (hy:y<w256) (hbad:Bad i x y) (ha:isD a=true) (hb:isD b=true) (h:K (.tup [.agg (rowL fun _=>0),.int .i64 3]) m):ACall Pg dD [rawA i x y,.int .i64 a,.int .i64 b,.agg (rowL f)] m K:=by
 have h0:ACall Pg dD [rawA i x y,.int .i64 a,.int .i64 b,.agg (rowL f)] [] (fun v _=>v= .tup [.agg (rowL fun _=>0),.int .i64 3] /\ Flat true v):=by
  unfold rowL
  refine pF ⟨rfl,?_⟩
  conv=>whnf
  repeat (refine⟨⟨_,rfl⟩,?_⟩;conv=>whnf)
  refine qY ?_
  rw [ha]
  conv=>whnf
  repeat (refine⟨⟨_,rfl⟩,?_⟩;conv=>whnf)
  refine qY ?_
  rw [hb]
  conv=>whnf
  repeat (refine⟨⟨_,rfl⟩,?_⟩;conv=>whnf)
  refine S_CBytes_bad (i:=i) (x:=x) (y:=y) hx hy hbad (fun cap1 f1=> ?_)
  conv=>whnf
  repeat (refine⟨⟨_,rfl⟩,?_⟩;conv=>whnf)
  have e0:=(nP (s:=fun _=>0) (g:=fun _ j=> [AV.int .u8 0].getD j .un) rfl).1
  refine⟨congrArg (fun x=>AV.tup [x,.int .i64 3]) e0,?_⟩
  refine Eq.mpr (congrArg (fun x=>Flat true (AV.tup [x,.int .i64 3])) e0) ?_
  exact .tup _ (.cons _ _ eQ (.cons _ _ (.int _ _) .nil))
 refine aD h0 (.cons _ _ _ _ (aG cG) (.cons _ _ _ _ aK (.cons _ _ _ _ aK (.cons _ _ _ _ (aG eQ) .nil)))) ?_
 rintro v rfl
 exact h
end Go.Proofs.YtfolpdmbpbbimaaGreat
end

section
namespace Go.Proofs.YtfolpdmbpbbimaaGreat
open Go Go.Wit
theorem S_turnedAny {m:Mem} {K:AV->Mem->Prop} {i:Bool} {x y:Nat} {a b:Int} {f:Nat->Int} (hx:x<w256) (hy:y<w256) (hf:∀ i,i<32->0<=f i/\f i<=255)
    (h1:(isD a && isD b)=false->K (.tup [.agg (rowL fun _=>0),.int .i64 1]) m)
    (h2:isD a=true->isD b=true->Bad i x y->K (.tup [.agg (rowL fun _=>0),.int .i64 3]) m)
    (h3:isD a=true->isD b=true->∀ P s,On P->rawA i x y=ptA P->s=tnF P a b f->(∀ i,0<=s i/\s i<=255)->K (.tup [.agg (rowL s),.int .i64 0]) m):ACall Pg dD [rawA i x y,.int .i64 a,.int .i64 b,.agg (rowL f)] m K:=by
  cases hab:(isD a && isD b)with
  | false=>exact S_turned_no hab (h1 hab)
  | true =>
    rw [Bool.and_eq_true]at hab
    by_cases hP:∃ P,On P/\rawA i x y=ptA P
    · obtain⟨P,oP,e⟩:=hP
      rw [e]
      exact S_turned oP hab.1 hab.2 hf fun s hs hb=>h3 hab.1 hab.2 P s oP e hs hb
    · have hbad:Bad i x y:=fun P oP e=>hP ⟨P,oP,e⟩
      exact S_turned_bad hx hy hbad hab.1 hab.2 (h2 hab.1 hab.2 hbad)
theorem flat_ne {n:Nat} {e:Int}:Flat true (.tup [numA n,.int .i64 e]):= .tup _ (.cons _ _ aL (.cons _ _ (.int _ _) .nil))
theorem S_LOfE {m:Mem} {K:AV->Mem->Prop} {x:AV} {f:Nat->Int} (hx:x= .agg (rowL f)) (hf:∀ i,i<32->0<=f i/\f i<=255) (h:∀ n,n=ofZ f->n<w256->K (numA n) m):ACall Pg lA [x] m K:=by
 subst hx;exact S_LOf hf h
theorem S_Open0 (i:Bool) (x y:Nat) (a b:Int) (f:Nat->Int) (hx:x<w256) (hy:y<w256) (hf:∀ i,i<32->0<=f i/\f i<=255):ACall Pg kZ [rawA i x y,.int .i64 a,.int .i64 b,.agg (rowL f)] [] (fun v _=>
 (((isD a && isD b)=false/\v= .tup [numA 0,.int .i64 1])\/(isD a=true/\isD b=true/\Bad i x y/\v= .tup [numA 0,.int .i64 3])\/
  (isD a=true/\isD b=true/\∃ P,On P/\rawA i x y=ptA P/\v= .tup [numA (ofZ (tnF P a b f)),.int .i64 0]))/\Flat true v):=by
 have er:AV.agg (rowL f)= .agg ((List.range 32).map fun i=> .int .u8 (f i)):=rfl
 rw [er]
 refine B_pair_Open ⟨rfl,?_⟩
 conv=>whnf
 repeat (refine⟨⟨_,rfl⟩,?_⟩;conv=>whnf)
 refine S_turnedAny (i:=i) (x:=x) (y:=y) (f:=f) hx hy hf (fun h=> ?_) (fun h1 h2 h3=> ?_) (fun h1 h2 P t oP eP ht hbt=> ?_)
 · rw [rowL]
   conv=>whnf
   repeat (refine⟨⟨_,rfl⟩,?_⟩;conv=>whnf)
   exact⟨.inl ⟨h,rfl⟩,flat_ne (n:=0)⟩
 · rw [rowL]
   conv=>whnf
   repeat (refine⟨⟨_,rfl⟩,?_⟩;conv=>whnf)
   exact⟨.inr (.inl ⟨h1,h2,h3,rfl⟩),flat_ne (n:=0)⟩
 · rw [rowL]
   conv=>whnf
   repeat (refine⟨⟨_,rfl⟩,?_⟩;conv=>whnf)
   have e0:=(nP (s:=t) (g:=fun _ j=> [AV.int .u8 0].getD j .un) rfl).1
   refine S_LOfE e0 (fun i _=>hbt i) (fun n hn hn1=> ?_)
   rw [ht]at hn
   conv=>whnf
   repeat (refine⟨⟨_,rfl⟩,?_⟩;conv=>whnf)
   refine⟨.inr (.inr ⟨h1,h2,P,oP,eP,by rw [<- hn];rfl⟩),flat_ne (n:=n)⟩
theorem S_Open {m:Mem} {K:AV->Mem->Prop} {i:Bool} {x y:Nat} {a b:Int} {f:Nat->Int} (hx:x<w256) (hy:y<w256) (hf:∀ i,i<32->0<=f i/\f i<=255)
 (h1:(isD a && isD b)=false->K (.tup [numA 0,.int .i64 1]) m)
 (h2:isD a=true->isD b=true->Bad i x y->K (.tup [numA 0,.int .i64 3]) m)
 (h3:isD a=true->isD b=true->∀ P n,On P->rawA i x y=ptA P->n=ofZ (tnF P a b f)->K (.tup [numA n,.int .i64 0]) m):ACall Pg kZ [rawA i x y,.int .i64 a,.int .i64 b,.agg (rowL f)] m K:=by
 refine aD (S_Open0 i x y a b f hx hy hf) (.cons _ _ _ _ (aG cG) (.cons _ _ _ _ aK (.cons _ _ _ _ aK (.cons _ _ _ _ (aG eQ) .nil)))) ?_
 rintro v (⟨h,rfl⟩ | ⟨g1,g2,g3,rfl⟩ | ⟨g1,g2,P,oP,e,rfl⟩)
 · exact h1 h
 · exact h2 g1 g2 g3
 · exact h3 g1 g2 P _ oP e rfl
theorem S_RStreamE {m:Mem} {x:AV} {K:AV->Mem->Prop} {k k2 N:Nat} (e:k2=k) {f:Nat->Int} (hx:aQ m x k2 f) (hN:N<=65536) (hk:k<=900000) (hf:∀ i,i<k->0<=f i/\f i<=255)
 (h1:∀ cap,memK (m++ [some ⟨1,N,aB (stF k f)⟩]) (K (.sl m.length 0 N cap))):ACall Pg dN [x,.int .i64 N] m K:=by
 subst e;exact S_RStream hx hN hk hf h1
theorem key_cells {P:Pt Fp} {a b:Int} (ha:isD a=true) (hb:isD b=true) {g h:Nat->Nat->AV} {i:Nat} (hi:i<pbN P+2) (hg:∀ i,i<pbN P->g i 0= .int .u8 (pbF P i)) (h0:h 0 0= .int .u8 (IntKind.u8.wrap a)) (h1:h 1 0= .int .u8 (IntKind.u8.wrap b)) {z:Nat->Nat->AV}:catG (0+pbN P) (catG 0 z g) h i 0= .int .u8 (keyF P a b i):=by
 unfold keyF
 rw [Nat.zero_add]
 by_cases h:i<pbN P
 · rw [cU h,catB_lt h,bK (Nat.zero_le _),Nat.sub_zero,hg i h]
 · rw [bK (by omega),catB_ge (by omega)]
   have:i - pbN P=0\/i - pbN P=1:=by omega
   rcases this with e | e
   · rw [e,h0,isD_u8 ha,if_pos rfl]
   · rw [e,h1,isD_u8 hb,if_neg (by decide)]
theorem S_Rstr0 (P:Pt Fp) (a b:Int) (ha:isD a=true) (hb:isD b=true):ACall Pg fH [ptA P,.int .i64 a,.int .i64 b] [] (fun v m'=>∃ n' f',(n'=32/\f'=stF (pbN P+2) (keyF P a b))/\RetB n' f' v m'):=by
 have hk:=keyF_in (P:=P) ha hb
 have hn:=pbN_le P
 refine sC ⟨rfl,?_⟩
 conv=>whnf
 repeat (refine⟨⟨_,rfl⟩,?_⟩;conv=>whnf)
 refine S_PBytes (P:=P) (fun cap1=> ?_)
 conv=>whnf
 repeat (refine⟨⟨_,rfl⟩,?_⟩;conv=>whnf)
 refine aA (bQ (by first | rfl | simp) (decide_eq_true (by show 0+pbN P<=pbN P;omega)) rfl (by omega) (by omega)) (fun cap2 hcap2=> ?_)
 conv=>whnf
 repeat (refine⟨⟨_,rfl⟩,?_⟩;conv=>whnf)
 refine aA (bQ (by first | rfl | simp) rfl rfl (by omega) (by omega)) (fun cap3 hcap3=> ?_)
 conv=>whnf
 repeat (refine⟨⟨_,rfl⟩,?_⟩;conv=>whnf)
 refine S_RStreamE (k:=pbN P+2) (k2:=0+pbN P+2) (by omega) (f:=keyF P a b) (N:=32) (aQ.any rfl (Nat.le_of_eq (Nat.zero_add _)) fun i hi=> ?_) (by decide) (by omega) hk (fun cap4=> ?_)
 · rw [show 0+i=i from Nat.zero_add i]
   dsimp only
   exact key_cells ha hb (by omega) (fun i hi=>by show AV.int .u8 (pbF P (0+i))=_;rw [Nat.zero_add]) rfl rfl
 conv=>whnf
 repeat (refine⟨⟨_,rfl⟩,?_⟩;conv=>whnf)
 exact⟨32,_,⟨rfl,rfl⟩,.inr ⟨_,cap4,32,_,rfl,rfl,Nat.le_refl _,fun i hi=>rfl⟩⟩
theorem S_Rstr {m:Mem} {K:AV->Mem->Prop} {P:Pt Fp} {a b:Int} (ha:isD a=true) (hb:isD b=true) (h1:∀ cap,memK (m++ [some ⟨1,32,aB (stF (pbN P+2) (keyF P a b))⟩]) (K (.sl m.length 0 32 cap))):ACall Pg fH [ptA P,.int .i64 a,.int .i64 b] m K:=by
 simp only [cO]at h1
 refine eO (S_Rstr0 P a b ha hb) (.cons _ _ _ _ (aG bU) (.cons _ _ _ _ aK (.cons _ _ _ _ aK .nil))) ?_
 rintro n' f' cap' ⟨rfl,rfl⟩
 exact h1 cap'
theorem S_RSeal0 (P:Pt Fp) (a b:Int) (n:Nat) (ha:isD a=true) (hb:isD b=true):ACall Pg gL [ptA P,.int .i64 a,.int .i64 b,numA n] [] (fun v _=>v= .agg (rowL (tnF P a b (iZ n)))/\Flat true v):=by
 have hT:∀ i,tnF P a b (iZ n) i=xorB (iZ n i) (stF (pbN P+2) (keyF P a b) i):=fun _=>rfl
 generalize tnF P a b (iZ n)=T at*
 refine vT ⟨rfl,?_⟩
 conv=>whnf
 repeat (refine⟨⟨_,rfl⟩,?_⟩;conv=>whnf)
 refine S_RBytes (a:=n) (fun s hs hb0=> ?_)
 rw [<- hs]at hT
 rw [rowL]
 conv=>whnf
 repeat (refine⟨⟨_,rfl⟩,?_⟩;conv=>whnf)
 refine S_Rstr (P:=P) ha hb (fun cap3=> ?_)
 conv=>whnf
 repeat (refine⟨⟨_,rfl⟩,?_⟩;conv=>whnf)
 refine aT aJ (I:=fun q l m=>∃ (j:Nat),l= [(8,.ptr 1 0 0),(9,.ptr 0 0 0),(10,.sl 2 0 32 cap3),(11,.int .i64 j)] /\ m= [some ⟨1,32,aB (fun i=>if i<j then T i else s i)⟩,some ⟨1,32,fun _ _=> .int .u8 0⟩,some ⟨1,32,aB (stF (pbN P+2) (keyF P a b))⟩] /\ q+j=32) 32
  (l0:= [(8,.ptr 1 0 0),(9,.ptr 0 0 0),(10,.sl 2 0 32 cap3),(11,.int .i64 (0:Nat))]) (m0:= [some ⟨1,32,aB (fun i=>if i<0 then T i else s i)⟩,some ⟨1,32,fun _ _=> .int .u8 0⟩,some ⟨1,32,aB (stF (pbN P+2) (keyF P a b))⟩]) [some 3,some 2,some 4] ⟨0,rfl,rfl,rfl⟩ ?_ ?_
 · refine .mk0 ⟨.ptr _ _ _ _ rfl,.ptr _ _ _ _ rfl,.sl _ _ _ _ _ rfl,Flat.i rfl,trivial⟩ ⟨.old 0 3 _ _ rfl rfl ⟨rfl,Nat.le_refl _,fun i j hi hj=> ?_⟩,.old 1 2 _ _ rfl rfl ⟨rfl,Nat.le_refl _,fun i j hi hj=>oneU0 hj rfl⟩,.old 2 4 _ _ rfl rfl ⟨rfl,Nat.le_refl _,fun i j hi hj=>RV.of rfl (.int _ _)⟩,trivial⟩ rfl rfl
   have hj:j<1:=hj
   obtain rfl:j=0:=by omega
   exact zeroB (j:=0) (a:=T) (z:=s) (rowAtE (p:=i) hi rfl rfl)
 · rintro q l m ⟨j,rfl,rfl,hq⟩
   conv=>whnf
   repeat (refine⟨⟨_,rfl⟩,?_⟩;conv=>whnf)
   refine aE (fun hb=> ?_) (fun hb=> ?_)
   · have hb:j<32:=by simp at hb;omega
     conv=>whnf
     repeat (refine⟨⟨_,rfl⟩,?_⟩;conv=>whnf)
     refine aA (by simp;omega) ?_
     conv=>whnf
     repeat (refine⟨⟨_,rfl⟩,?_⟩;conv=>whnf)
     refine aA (by simp [bI,Nat.ble_eq];omega) ?_
     conv=>whnf
     repeat (refine⟨⟨_,rfl⟩,?_⟩;conv=>whnf)
     refine aA (by simp;omega) ?_
     conv=>whnf
     repeat (refine⟨⟨_,rfl⟩,?_⟩;conv=>whnf)
     refine aA (by simp [bI,Nat.ble_eq];omega) ?_
     conv=>whnf
     repeat (refine⟨⟨_,rfl⟩,?_⟩;conv=>whnf)
     refine aA (by simp;omega) ?_
     conv=>whnf
     repeat (refine⟨⟨_,rfl⟩,?_⟩;conv=>whnf)
     refine aA (by simp [bI,Nat.ble_eq];omega) ?_
     conv=>whnf
     repeat (refine⟨⟨_,rfl⟩,?_⟩;conv=>whnf)
     have e5:IntKind.i64.wrap ((j:Int)+1)=((j+1:Nat):Int):=by rw [w64 (by omega) (by omega)];omega
     refine⟨q - 1,[(8,.ptr 1 0 0),(9,.ptr 0 0 0),(10,.sl 2 0 32 cap3),(11,.int .i64 ((j+1:Nat):Int))],[some ⟨1,32,aB (fun i=>if i<j+1 then T i else s i)⟩,some ⟨1,32,fun _ _=> .int .u8 0⟩,some ⟨1,32,aB (stF (pbN P+2) (keyF P a b))⟩],[some 0,some 1,some 2],by omega,⟨j+1,rfl,rfl,by omega⟩,?_⟩
     exact .mk0 ⟨.ptr _ _ _ _ rfl,.ptr _ _ _ _ rfl,.sl _ _ _ _ _ rfl,Flat.i e5,trivial⟩ ⟨.old 0 0 _ _ rfl rfl ⟨rfl,Nat.le_refl _,fun x y hx hy=>turnW hy rfl (hT j) (Nat.zero_add _) (Nat.zero_add _) (Nat.zero_add _) rfl⟩,.old 1 1 _ _ rfl rfl ⟨rfl,Nat.le_refl _,fun i j hi hj=> .eq _ _ rfl (.int _ _)⟩,.old 2 2 _ _ rfl rfl ⟨rfl,Nat.le_refl _,fun i j hi hj=>RV.of rfl (.int _ _)⟩,trivial⟩ rfl rfl
   · have hb:j=32:=by simp at hb;omega
     subst hb
     conv=>whnf
     repeat (refine⟨⟨_,rfl⟩,?_⟩;conv=>whnf)
     have e0:=outTurn (s:=T) (z:=s) (g:=fun _ _=> .int .u8 0) rfl
     refine⟨e0,?_⟩
     exact Eq.mpr (congrArg (Flat true) e0) eQ
theorem S_RSeal {m:Mem} {K:AV->Mem->Prop} {P:Pt Fp} {a b:Int} {n:Nat} (ha:isD a=true) (hb:isD b=true) (h:∀ s,s=tnF P a b (iZ n)->(∀ i,0<=s i/\s i<=255)->K (.agg (rowL s)) m):ACall Pg gL [ptA P,.int .i64 a,.int .i64 b,numA n] m K:=by
 refine aD (S_RSeal0 P a b n ha hb) (.cons _ _ _ _ (aG bU) (.cons _ _ _ _ aK (.cons _ _ _ _ aK (.cons _ _ _ _ aF .nil)))) ?_
 rintro v rfl
 exact h _ rfl fun i=>gU _ _
end Go.Proofs.YtfolpdmbpbbimaaGreat
end

section
namespace Go.Proofs.YtfolpdmbpbbimaaGreat
open Go Go.Wit
theorem flat_no_e {e:Int}:Flat true (.tup [noPt,.int .i64 e]):= .tup _ (.cons _ _ (flat_no true) (.cons _ _ (.int _ _) .nil))
theorem flat_be {b:Bool} {e:Int}:Flat true (.tup [.bool b,.int .i64 e]):= .tup _ (.cons _ _ (.bool _) (.cons _ _ (.int _ _) .nil))
theorem S_At {m:Mem} {a:AV} {K:AV->Mem->Prop} {n x:Nat} {P:Nat->Pt Fp} (ha:bW m a 9 n (ptsG P)) (hx:x<w256) (oP:∀ i,i<n->On (P i)) (hn:n<=64) (h:∀ R,On R->R=polyP P x n->K (.tup [ptA R,.int .i64 0]) m):ACall Pg nE [a,numA x] m K:=by
 obtain⟨cap,hl⟩:=ha
 refine aD (S_At0 n cap P x hx oP hn) (.cons _ _ _ _ hl (.cons _ _ _ _ aF .nil)) ?_
 rintro v rfl
 exact h _ (On.polyP oP) rfl
theorem S_At_bad {m:Mem} {a:AV} {K:AV->Mem->Prop} {n x:Nat} {I:Nat->Bool} {X Y:Nat->Nat} (ha:bW m a 9 n (fY I X Y)) (hX:∀ i,i<n->X i<w256) (hY:∀ i,i<n->Y i<w256) {b:Nat} (hbn:b<n) (hb:Bad (I b) (X b) (Y b)) (hg:∀ k,k<b->∃ P,On P/\rawA (I k) (X k) (Y k)=ptA P) (hn:n<=64) (h:K (.tup [noPt,.int .i64 3]) m):ACall Pg nE [a,numA x] m K:=by
 obtain⟨cap,hl⟩:=ha
 have h0:ACall Pg nE [.vsl 9 n cap (fY I X Y),numA x] [] (fun v _=>v= .tup [noPt,.int .i64 3] /\ Flat true v):=by
  refine B_feld_At ⟨rfl,?_⟩
  conv=>whnf
  repeat (refine⟨⟨[],rfl⟩,?_⟩;conv=>whnf)
  refine aE (fun h=> ?_) (fun h=> ?_)
  · exfalso;simp at h;omega
  conv=>whnf
  repeat (refine⟨⟨[],rfl⟩,?_⟩;conv=>whnf)
  refine S_points_bad (I:=I) (X:=X) (Y:=Y) (bW.vsl fun _ _ _ _=>mU) hX hY hbn hb hg (by omega) ?_
  conv=>whnf
  repeat (refine⟨⟨[],rfl⟩,?_⟩;conv=>whnf)
  exact⟨rfl,flat_no_e⟩
 refine aD h0 (.cons _ _ _ _ hl (.cons _ _ _ _ aF .nil)) ?_
 rintro v rfl
 exact h
def eq9 (i:Bool) (x y:Nat) (j:Bool) (u v:Nat):Bool:=(i == j) && (lim x 0 == lim u 0 && (lim x 1 == lim u 1 && (lim x 2 == lim u 2 && (lim x 3 == lim u 3 && (lim y 0 == lim v 0 && (lim y 1 == lim v 1 && (lim y 2 == lim v 2 && (lim y 3 == lim v 3 && true))))))))
theorem eq9_iff {i j:Bool} {x y u v:Nat} (hx:x<w256) (hy:y<w256) (hu:u<w256) (hv:v<w256):eq9 i x y j u v=decide (i=j/\x=u/\y=v):=by
 have e:eq9 i x y j u v=((i == j) && (eqX x u && eqX y v)):=by
  unfold eq9 eqX
  simp [Bool.and_assoc]
 rw [e,gW hx hu,gW hy hv]
 cases i <;> cases j <;> simp
theorem eq9_pt {P Q:Pt Fp}:eq9 (isI P) (xN P) (yN P) (isI Q) (xN Q) (yN Q)=true ↔ P=Q:=by
 rw [eq9_iff (xN_w P) (yN_w P) (xN_w Q) (yN_w Q),decide_eq_true_iff]
 constructor
 · rintro⟨a,b,c⟩;exact pU (by rw [ptA,ptA,a,b,c])
 · rintro rfl;exact⟨rfl,rfl,rfl⟩
theorem S_Fits0 (n cap:Nat) (P:Nat->Pt Fp) (x y:Nat) (hx:x<w256) (hy:y<w256) (oP:∀ i,i<n->On (P i)) (hn:n<=64):ACall Pg gE [.vsl 9 n cap (ptsG P),numA x,numA y] [] (fun v _=>((nmul y gG=polyP P x n/\v= .tup [.bool true,.int .i64 0])\/(nmul y gG ≠ polyP P x n/\v= .tup [.bool false,.int .i64 0]))/\Flat true v):=by
 refine B_feld_Fits ⟨rfl,?_⟩
 conv=>whnf
 repeat (refine⟨⟨[],rfl⟩,?_⟩;conv=>whnf)
 refine S_At (P:=P) (bW.vsl fun _ _ _ _=>bZ) hx oP hn (fun R oR hR=> ?_)
 conv=>whnf
 repeat (refine⟨⟨[],rfl⟩,?_⟩;conv=>whnf)
 refine T_Base hy (fun Q oQ hQ=> ?_)
 conv=>whnf
 repeat (refine⟨⟨[],rfl⟩,?_⟩;conv=>whnf)
 rw [<- hQ,<- hR]
 show ((Q=R/\AV.tup [.bool (eq9 (isI Q) (xN Q) (yN Q) (isI R) (xN R) (yN R)),.int .i64 0] = .tup [.bool true,.int .i64 0])\/(Q ≠ R/\AV.tup [.bool (eq9 (isI Q) (xN Q) (yN Q) (isI R) (xN R) (yN R)),.int .i64 0] = .tup [.bool false,.int .i64 0]))/\Flat true (AV.tup [.bool (eq9 (isI Q) (xN Q) (yN Q) (isI R) (xN R) (yN R)),.int .i64 0])
 refine⟨?_,flat_be⟩
 by_cases e:Q=R
 · exact .inl ⟨e,by rw [eq9_pt.2 e]⟩
 · exact .inr ⟨e,by rw [show eq9 (isI Q) (xN Q) (yN Q) (isI R) (xN R) (yN R)=false by rw [Bool.eq_false_iff];exact fun h=>e (eq9_pt.1 h)]⟩
theorem S_Fits {m:Mem} {a:AV} {K:AV->Mem->Prop} {n x y:Nat} {P:Nat->Pt Fp} (ha:bW m a 9 n (ptsG P)) (hx:x<w256) (hy:y<w256) (oP:∀ i,i<n->On (P i)) (hn:n<=64) (h1:nmul y gG=polyP P x n->K (.tup [.bool true,.int .i64 0]) m) (h2:nmul y gG ≠ polyP P x n->K (.tup [.bool false,.int .i64 0]) m):ACall Pg gE [a,numA x,numA y] m K:=by
 obtain⟨cap,hl⟩:=ha
 refine aD (S_Fits0 n cap P x y hx hy oP hn) (.cons _ _ _ _ hl (.cons _ _ _ _ aF (.cons _ _ _ _ aF .nil))) ?_
 rintro v (⟨e,rfl⟩ | ⟨e,rfl⟩)
 · exact h1 e
 · exact h2 e
theorem S_Fits_bad {m:Mem} {a:AV} {K:AV->Mem->Prop} {n x y:Nat} {I:Nat->Bool} {X Y:Nat->Nat} (ha:bW m a 9 n (fY I X Y)) (hX:∀ i,i<n->X i<w256) (hY:∀ i,i<n->Y i<w256) {b:Nat} (hbn:b<n) (hb:Bad (I b) (X b) (Y b)) (hg:∀ k,k<b->∃ P,On P/\rawA (I k) (X k) (Y k)=ptA P) (hn:n<=64) (h:K (.tup [.bool false,.int .i64 3]) m):ACall Pg gE [a,numA x,numA y] m K:=by
 obtain⟨cap,hl⟩:=ha
 have h0:ACall Pg gE [.vsl 9 n cap (fY I X Y),numA x,numA y] [] (fun v _=>v= .tup [.bool false,.int .i64 3] /\ Flat true v):=by
  refine B_feld_Fits ⟨rfl,?_⟩
  conv=>whnf
  repeat (refine⟨⟨[],rfl⟩,?_⟩;conv=>whnf)
  refine S_At_bad (I:=I) (X:=X) (Y:=Y) (bW.vsl fun _ _ _ _=>mU) hX hY hbn hb hg hn ?_
  conv=>whnf
  repeat (refine⟨⟨[],rfl⟩,?_⟩;conv=>whnf)
  exact⟨rfl,flat_be⟩
 refine aD h0 (.cons _ _ _ _ hl (.cons _ _ _ _ aF (.cons _ _ _ _ aF .nil))) ?_
 rintro v rfl
 exact h
def sumN (c:Nat->Nat) (x:Nat):Nat->Nat:=Nat.rec (motive:=fun _=>Nat) 0 (fun k ih=>ih+x ^ k*c k)
def horN (c:Nat->Nat) (x n:Nat):Nat->Nat:=Nat.rec (motive:=fun _=>Nat) 0 (fun t ih=>ih*x+c (n - 1 - t))
theorem sumN_succ {c:Nat->Nat} {x k:Nat}:sumN c x (k+1)=sumN c x k+x ^ k*c k:=rfl
theorem horN_succ {c:Nat->Nat} {x n t:Nat}:horN c x n (t+1)=horN c x n t*x+c (n - 1 - t):=rfl
theorem horN_sum {c:Nat->Nat} {x n:Nat}:∀ t,t<=n->sumN c x (n - t)+x ^ (n - t)*horN c x n t=sumN c x n
  | 0,_=>by show sumN c x n+_*0=_;rw [Nat.mul_zero,Nat.add_zero]
  | t + 1, h => by
    have ih:=horN_sum t (c:=c) (x:=x) (n:=n) (by omega)
    have e:n - t=n - (t+1)+1:=by omega
    rw [e,sumN_succ,Nat.pow_succ]at ih
    rw [<- ih,horN_succ,show n - 1 - t=n - (t+1) by omega,Nat.mul_add,Nat.mul_assoc,Nat.mul_comm x (horN c x n t),Nat.add_assoc,Nat.add_comm (x ^ (n - (t+1))*c (n - (t+1)))]
theorem horN_all {c:Nat->Nat} {x n:Nat}:horN c x n n=sumN c x n:=by
 have:=horN_sum (c:=c) (x:=x) (n:=n) n (Nat.le_refl _)
 rw [Nat.sub_self,Nat.pow_zero,Nat.one_mul]at this
 rw [<- this];show _=0+_;rw [Nat.zero_add]
theorem polyP_sum {c:Nat->Nat} {x:Nat}:∀ n,polyP (fun i=>nmul (c i) gG) x n=nmul (sumN c x n) gG
 | 0=>rfl
 | n+1=>by rw [polyP_succ,polyP_sum n,sumN_succ,fV crvP on_G,<- kA crvP on_G]
theorem mod_hor {a x c n:Nat}:(a % n*x % n+c) % n=(a*x+c) % n:=by
 rw [Nat.mod_mul_mod,Nat.mod_add_mod]
end Go.Proofs.YtfolpdmbpbbimaaGreat
end

section
namespace Go.Proofs.YtfolpdmbpbbimaaGreat
open Go Go.Wit
structure Dl where
 ac:Int
 i:Bool
 x:Nat
 y:Nat
 lb:ByteArray
 hd:Int
 ps:Bool
 ns:Nat
 S:Nat->Nat->Int
 nc:Nat
 I:Nat->Bool
 X:Nat->Nat
 Y:Nat->Nat
 bd:Bool
 st:Bool
 j:Bool
 u:Nat
 v:Nat
def dlL (d:Dl) (sl co:AV):List AV:= [.int .i64 d.ac,.bool d.i,.int .u64 (lim d.x 0),.int .u64 (lim d.x 1),.int .u64 (lim d.x 2),.int .u64 (lim d.x 3),.int .u64 (lim d.y 0),.int .u64 (lim d.y 1),.int .u64 (lim d.y 2),.int .u64 (lim d.y 3),
 .str d.lb,.int .i64 d.hd,.bool d.ps,sl,co,.bool d.bd,.bool d.st,.bool d.j,.int .u64 (lim d.u 0),.int .u64 (lim d.u 1),.int .u64 (lim d.u 2),.int .u64 (lim d.u 3),.int .u64 (lim d.v 0),.int .u64 (lim d.v 1),.int .u64 (lim d.v 2),.int .u64 (lim d.v 3)]
def dlG (D:Nat->Dl) (c1 c2:Nat->Nat):Nat->Nat->AV:=fun k j=>(dlL (D k) (.vsl 32 (D k).ns (c1 k) (cI (D k).S)) (.vsl 9 (D k).nc (c2 k) (fY (D k).I (D k).X (D k).Y))).getD j .un
theorem flat_dlL {nv:Bool} {d:Dl} {sl co:AV} (h1:Flat nv sl) (h2:Flat nv co) (j:Nat):Flat nv ((dlL d sl co).getD j .un):=by
 by_cases hj:j<26
 · have:j=0\/j=1\/j=2\/j=3\/j=4\/j=5\/j=6\/j=7\/j=8\/j=9\/j=10\/j=11\/j=12\/j=13\/j=14\/j=15\/j=16\/j=17\/j=18\/j=19\/j=20\/j=21\/j=22\/j=23\/j=24\/j=25:=by omega
   rcases this with rfl | rfl | rfl | rfl | rfl | rfl | rfl | rfl | rfl | rfl | rfl | rfl | rfl | rfl | rfl | rfl | rfl | rfl | rfl | rfl | rfl | rfl | rfl | rfl | rfl | rfl
   all_goals first
    | exact h1
    | exact h2
    | exact .int _ _
    | exact .bool _
    | exact .str _
 · rw [List.getD_eq_getElem?_getD,List.getElem?_eq_none (by show 26<=j;omega)];exact .un
theorem lR {D:Nat->Dl} {c1 c2:Nat->Nat} {k j:Nat}:Flat false (dlG D c1 c2 k j):=flat_dlL vK mV j
theorem lQ {n cap:Nat} {D:Nat->Dl} {c1 c2:Nat->Nat}:Flat false (.vsl 26 n cap (dlG D c1 c2)):= .vsl _ _ _ _ rfl fun _ _ _ _=>lR
def iP (m:Mem) (x:AV) (n:Nat) (D:Nat->Dl):Prop:= ∃ cap c1 c2,Lend (fun _=>none) (List.range m.length) m x (.vsl 26 n cap (dlG D c1 c2))
theorem iP.vsl {m:Mem} {n cap:Nat} {D:Nat->Dl} {c1 c2:Nat->Nat}:iP m (.vsl 26 n cap (dlG D c1 c2)) n D:=⟨cap,c1,c2,aG lQ⟩
theorem iP.nils {m:Mem} {D:Nat->Dl}:iP m .nils 0 D:=⟨0,fun _=>0,fun _=>0,.nils _ _⟩
theorem S_dnum {m:Mem} {x:AV} {K:AV->Mem->Prop} {n:Nat} {D:Nat->Dl} {i:Int} (hx:iP m x n D) (h:∀ b,b=(decide (1<=i) && decide (i<=(n:Int)))->K (.bool b) m):ACall Pg jD [x,.int .i64 i] m K:=by
 have h0:∀ cap c1 c2,ACall Pg jD [.vsl 26 n cap (dlG D c1 c2),.int .i64 i] [] (fun v _=>v= .bool (decide (1<=i) && decide (i<=(n:Int)))/\Flat true v):=fun cap c1 c2=>by
  refine B_deal_number ⟨rfl,?_⟩
  conv=>whnf
  repeat (refine⟨⟨_,rfl⟩,?_⟩;conv=>whnf)
  refine aE (fun h1=> ?_) (fun h1=> ?_)
  · have h1:=of_eqt h1
    conv=>whnf
    repeat (refine⟨⟨_,rfl⟩,?_⟩;conv=>whnf)
    exact⟨by rw [decide_eq_true (p:=1<=i) h1];rfl,.bool _⟩
  · have h1:=of_neqt h1
    conv=>whnf
    repeat (refine⟨⟨_,rfl⟩,?_⟩;conv=>whnf)
    exact⟨by rw [decide_eq_false (p:=1<=i) h1];rfl,.bool _⟩
 obtain⟨cap,c1,c2,hl⟩:=hx
 refine aD (h0 cap c1 c2) (.cons _ _ _ _ hl (.cons _ _ _ _ aK .nil)) ?_
 rintro v rfl
 exact h _ rfl
theorem S_place {m:Mem} {K:AV->Mem->Prop} {i:Nat} (hi:i<1000000) (h:K (numA i) m):ACall Pg mA [.int .i64 (i:Int)] m K:=by
 have h0:ACall Pg mA [.int .i64 (i:Int)] [] (fun v _=>v=numA i/\Flat true v):=by
  refine B_deal_place ⟨rfl,?_⟩
  conv=>whnf
  repeat (refine⟨⟨_,rfl⟩,?_⟩;conv=>whnf)
  have e:IntKind.u64.wrap (i:Int)=((i:Nat):Int):=by rw [wu64];omega
  have g:AV.agg [.int .u64 (IntKind.u64.wrap (i:Int)),.int .u64 0,.int .u64 0,.int .u64 0] = numA i:=by
   rw [e]
   have:=aR (a:=i) (b:=0) (c:=0) (d:=0) (by omega) (by decide) (by decide) (by decide)
   rw [show comb i 0 0 0=i by unfold comb;omega]at this
   rw [this];rfl
  refine⟨g,?_⟩
  exact Eq.mpr (congrArg (Flat true) g) aL
 refine aD h0 (.cons _ _ _ _ aK .nil) ?_
 rintro v rfl
 exact h
def selN (me k:Nat):Nat:=if k<me then k else k - 1
def othN (me q:Nat):Nat:=if q+1<me then q+1 else q+2
theorem selN_0 {me:Nat}:selN me 0=0:=by unfold selN;split <;> rfl
noncomputable def ptOf (d:Dl):Pt Fp:=by
 classical
 exact if h:∃ P,On P/\rawA d.i d.x d.y=ptA P then h.choose else .inf
theorem ptOf_eq {d:Dl} {P:Pt Fp} (oP:On P) (h:rawA d.i d.x d.y=ptA P):ptOf d=P:=by
 classical
 have hh:∃ P,On P/\rawA d.i d.x d.y=ptA P:=⟨P,oP,h⟩
 unfold ptOf
 rw [dif_pos hh]
 exact pU (hh.choose_spec.2.symm.trans h)
noncomputable def sealN (n:Nat) (f:Nat->Int) (t:Nat) (D:Nat->Dl) (me q:Nat):Nat->Int:=tnF (nmul (secN n f) (ptOf (D (othN me q - 1)))) me (othN me q) (iZ (sumN (coN n f) (othN me q) (t+1) % nN))
abbrev actZ:List AV:= [.int .i64 0,.bool false,.int .u64 0,.int .u64 0,.int .u64 0,.int .u64 0,.int .u64 0,.int .u64 0,.int .u64 0,.int .u64 0,.str nB,.nils,.nils,.int .i64 0,.int .u64 0,.int .u64 0,.int .u64 0,.int .u64 0,.int .u64 0,.int .u64 0,.int .u64 0,.int .u64 0]
theorem flat_get {nv:Bool}:∀ {l:List AV} {n:Nat},Flats nv l->Flat nv (l.getD n .un)
 | [],n,_=>by simp;exact .un
 | a::r,0,h=>by cases h with | cons _ _ h1 _=>simpa using h1
 | a::r,n+1,h=>by cases h with | cons _ _ _ h2=>simpa using flat_get (n:=n) h2
theorem flat_actZ {nv:Bool}:Flats nv actZ:=by
 repeat (first | exact .nil | refine .cons _ _ (.int _ _) ?_ | refine .cons _ _ (.bool _) ?_ | refine .cons _ _ (.str _) ?_ | refine .cons _ _ .nils ?_)
theorem vN {nv:Bool} {σ:Nat->Option Nat} {i j:Nat} {A:AV} (hi:i<1) (hj:j<22) (hA:A=lstG 22 actZ i j):RV nv σ A (lstG 22 actZ i j):=
 RV.of hA (flat_get flat_actZ)
theorem act_blk0 {nv:Bool} {σ:Nat->Option Nat} {i j:Nat} {A:AV} (hi:i<1) (hA:A=actZ.getD j .un):RV nv σ A (lstG 22 actZ i j):=by
 obtain rfl:i=0:=by omega
 refine RV.of ?_ (flat_get flat_actZ)
 rw [hA];show _=actZ.getD (0*22+j) .un
 rw [Nat.zero_mul,Nat.zero_add]
theorem S_KeyE {m:Mem} {K:AV->Mem->Prop} {v w:AV} {n:Nat} {P:Pt Fp} (hv:v=numA n) (hw:w=ptA P) (hn:n<w256) (oP:On P) (h:∀ Q,On Q->Q=nmul n P->K (.tup [ptA Q,.int .i64 0]) m):ACall Pg kK [v,w] m K:=by
 subst hv hw
 have h0:ACall Pg kK [numA n,ptA P] [] (fun v _=>v= .tup [ptA (nmul n P),.int .i64 0] /\ Flat true v):=by
  refine B_pair_Key ⟨rfl,?_⟩
  conv=>whnf
  repeat (refine⟨⟨_,rfl⟩,?_⟩;conv=>whnf)
  refine T_Times (n:=n) (P:=P) hn oP (fun Q oQ hQ=> ?_)
  rw [<- hQ]
  conv=>whnf
  repeat (refine⟨⟨_,rfl⟩,?_⟩;conv=>whnf)
  exact⟨rfl,.tup _ (.cons _ _ bU (.cons _ _ (.int _ _) .nil))⟩
 refine aD h0 (.cons _ _ _ _ aF (.cons _ _ _ _ (aG bU) .nil)) ?_
 rintro v rfl
 exact h _ (oP.nmul crvP n) rfl
theorem isD_nat {i:Nat} (h1:1<=i) (h2:i<=8):isD (i:Int)=true:=by
 unfold isD;rw [decide_eq_true (by omega),decide_eq_true (by omega)];rfl
theorem all32 {p:Nat->Prop} (h:p 0/\p 1/\p 2/\p 3/\p 4/\p 5/\p 6/\p 7/\p 8/\p 9/\p 10/\p 11/\p 12/\p 13/\p 14/\p 15/\p 16/\p 17/\p 18/\p 19/\p 20/\p 21/\p 22/\p 23/\p 24/\p 25/\p 26/\p 27/\p 28/\p 29/\p 30/\p 31):∀ j,j<32->p j:=fun j hj=>by
 have:j=0\/j=1\/j=2\/j=3\/j=4\/j=5\/j=6\/j=7\/j=8\/j=9\/j=10\/j=11\/j=12\/j=13\/j=14\/j=15\/j=16\/j=17\/j=18\/j=19\/j=20\/j=21\/j=22\/j=23\/j=24\/j=25\/j=26\/j=27\/j=28\/j=29\/j=30\/j=31:=by omega
 rcases this with rfl | rfl | rfl | rfl | rfl | rfl | rfl | rfl | rfl | rfl | rfl | rfl | rfl | rfl | rfl | rfl | rfl | rfl | rfl | rfl | rfl | rfl | rfl | rfl | rfl | rfl | rfl | rfl | rfl | rfl | rfl | rfl
 all_goals simp [h]
theorem seal_row {nv:Bool} {σ:Nat->Option Nat} {A:AV} {S:Nat->Nat->Int} {k i j:Nat} {s:Nat->Int} {g:Nat->Nat->AV} (hi:i<k+1) (hj:j<32) (hs:∀ j,j<32->s j=S k j) (hA:A=catG k (cI S) g i j) (hg:∀ j,j<32->g 0 j= .int .u8 (s j)):RV nv σ A (cI S i j):=by
 refine RV.of (hA.trans ?_) dF
 by_cases h:i<k
 · rw [cU h]
 · have h:i=k:=by omega
   subst h
   rw [bK (Nat.le_refl _),Nat.sub_self,hg j hj,hs j hj];rfl
end Go.Proofs.YtfolpdmbpbbimaaGreat
end

section
namespace Go.Proofs.YtfolpdmbpbbimaaGreat
open Go Go.Wit
theorem rv_act {nv:Bool} {σ:Nat->Option Nat} {k:Int} {i:Bool} {x y:Nat} {s:ByteArray} {sl co sl' co':AV} {ag:Int} {c r:Nat} (h1:RV nv σ sl sl') (h2:RV nv σ co co'):
 RV nv σ (actA k i x y s sl co ag c r) (actA k i x y s sl' co' ag c r):=by
 refine .agg _ _ ?_
 unfold actL
 refine .cons _ _ _ _ (.eq _ _ rfl (.int _ _)) (.cons _ _ _ _ (.eq _ _ rfl (.bool _)) ?_)
 iterate 8 refine .cons _ _ _ _ (.eq _ _ rfl (.int _ _)) ?_
 refine .cons _ _ _ _ (.eq _ _ rfl (.str _)) (.cons _ _ _ _ h1 (.cons _ _ _ _ h2 (.cons _ _ _ _ (.eq _ _ rfl (.int _ _)) ?_)))
 iterate 8 refine .cons _ _ _ _ (.eq _ _ rfl (.int _ _)) ?_
 exact .nil
theorem lift_act {P:Program} {fn:FuncId} {args args0:List AV} {m:Mem} {K:AV->Mem->Prop} {k:Int} {i:Bool} {x y:Nat} {s:ByteArray} {ag:Int} {c r:Nat} {n1 n2:Nat} {G1 G2:Nat->Nat->AV} {e:Int}
 (h:ACall P fn args0 [] (fun v m'=>∃ sl co,v= .tup [actA k i x y s sl co ag c r,.int .i64 e] /\ RetG 32 n1 G1 sl m'/\RetG 9 n2 G2 co m'))
 (hf1:∀ i j,i<n1->j<32->Flat true (G1 i j)) (hf2:∀ i j,i<n2->j<9->Flat true (G2 i j)) (ha:Lends (fun _=>none) (List.range m.length) m args args0)
 (hK:∀ c1 c2,K (.tup [actA k i x y s (.sl m.length 0 n1 c1) (.sl (m.length+1) 0 n2 c2) ag c r,.int .i64 e]) (m++ [some ⟨32,n1,G1⟩,some ⟨9,n2,G2⟩])):ACall P fn args m K:=by
 refine h.frame0 true (List.range m.length) (fun h=>by cases h) ha (fun v m' hv=> ?_)
 obtain⟨sl,co,rfl,h1,h2⟩:=hv
 obtain⟨c1,q1,r1,b1,d1⟩ :∃ c1 q1,RV true (dS m.length [q1,none]) sl (.sl m.length 0 n1 c1)/\(∀ q2,RV true (dS m.length [q1,q2]) sl (.sl m.length 0 n1 c1))/\((q1=none/\n1=0)\/∃ l N g,q1=some l/\m'[l]? = some (some ⟨32,N,g⟩)/\n1<=N/\∀ i j,i<n1->j<32->g i j=G1 i j):=by
  rcases h1 with⟨rfl,rfl⟩ | ⟨l,cap,N,g,rfl,g1,g2,g3⟩
  · exact⟨0,none,.nils _ _,fun _=> .nils _ _,.inl ⟨rfl,rfl⟩⟩
  · exact⟨cap,some l,.sl _ _ _ _ _ (by simp [dS]),fun _=> .sl _ _ _ _ _ (by simp [dS]),.inr ⟨l,N,g,rfl,g1,g2,g3⟩⟩
 obtain⟨c2,q2,r2,d2⟩ :∃ c2 q2,RV true (dS m.length [q1,q2]) co (.sl (m.length+1) 0 n2 c2)/\((q2=none/\n2=0)\/∃ l N g,q2=some l/\m'[l]? = some (some ⟨9,N,g⟩)/\n2<=N/\∀ i j,i<n2->j<9->g i j=G2 i j):=by
  rcases h2 with⟨rfl,rfl⟩ | ⟨l,cap,N,g,rfl,g1,g2,g3⟩
  · exact⟨0,none,.nils _ _,.inl ⟨rfl,rfl⟩⟩
  · exact⟨cap,some l,.sl _ _ _ _ _ (by simp [dS]),.inr ⟨l,N,g,rfl,g1,g2,g3⟩⟩
 refine⟨.tup [actA k i x y s (.sl m.length 0 n1 c1) (.sl (m.length+1) 0 n2 c2) ag c r,.int .i64 e],[some ⟨32,n1,G1⟩,some ⟨9,n2,G2⟩],[q1,q2],Nat.le_refl _,fun i j q hi hj=> ?_,.tup _ _ (.cons _ _ _ _ (rv_act (b1 q2) r2) (.cons _ _ _ _ (.eq _ _ rfl (.int _ _)) .nil)),⟨?_,?_,trivial⟩,hK c1 c2⟩
 · have key:q1=some q->q2=some q->False:=fun e1 e2=>by
    rcases d1 with⟨rfl,_⟩ | ⟨l,N,g,rfl,g1,_⟩
    · cases e1
    rcases d2 with⟨rfl,_⟩ | ⟨l',N',g',rfl,g1',_⟩
    · cases e2
    obtain rfl:=Option.some.inj e1
    obtain rfl:=Option.some.inj e2
    rw [g1]at g1'
    have:=congrArg (fun o:Option (Option Blk)=>match o with | some (some b)=>b.es | _=>0) g1'
    simp at this
   match i,j,hi,hj with
   | 0,0,_,_=>rfl
   | 1,1,_,_=>rfl
   | 0,1,hi,hj=>exact absurd (key (by simpa using hi) (by simpa using hj)) id
   | 1,0,hi,hj=>exact absurd (key (by simpa using hj) (by simpa using hi)) id
   | i+2,_,hi,_=>simp at hi
   | _,j+2,_,hj=>simp at hj
 · rcases d1 with⟨rfl,rfl⟩ | ⟨l,N,g,rfl,g1,g2,g3⟩
   · exact .ph _ _ _ (by simp [dS])
   · exact .old _ l _ _ (by simp [dS]) g1 ⟨rfl,g2,fun i j hi hj=> .eq _ _ (g3 i j hi hj) (by rw [show (Blk.mk 32 N g).get i j=g i j from rfl,g3 i j hi hj];exact hf1 i j hi hj)⟩
 · rcases d2 with⟨rfl,rfl⟩ | ⟨l,N,g,rfl,g1,g2,g3⟩
   · exact .ph _ _ _ (by simp [dS])
   · exact .old _ l _ _ (by simp [dS]) g1 ⟨rfl,g2,fun i j hi hj=> .eq _ _ (g3 i j hi hj) (by rw [show (Blk.mk 9 N g).get i j=g i j from rfl,g3 i j hi hj];exact hf2 i j hi hj)⟩
end Go.Proofs.YtfolpdmbpbbimaaGreat
end

section
namespace Go.Proofs.YtfolpdmbpbbimaaGreat
open Go Go.Wit
theorem S_be40 (i:Nat) (hi:i<4294967296):ACall Pg iC [.int .i64 i] [] (fun v m'=>∃ n' f',(n'=4/\f'=beF (i:Nat) 4)/\RetB n' f' v m'):=by
 refine xP ⟨rfl,?_⟩
 conv=>whnf
 repeat (refine⟨⟨_,rfl⟩,?_⟩;conv=>whnf)
 refine⟨4,_,⟨rfl,rfl⟩,.inr ⟨0,_,4,_,rfl,rfl,Nat.le_refl _,fun j hj=> ?_⟩⟩
 rcases(show j=0\/j=1\/j=2\/j=3 by omega)with rfl | rfl | rfl | rfl
 · exact congrArg (AV.int .u8) (wu8 (i:Nat) (k:=0) (s:=4) (i:=0) (by omega) rfl)
 · exact congrArg (AV.int .u8) (wu8 (i:Nat) (k:=0) (s:=4) (i:=1) (by omega) rfl)
 · exact congrArg (AV.int .u8) (wu8 (i:Nat) (k:=0) (s:=4) (i:=2) (by omega) rfl)
 · refine congrArg (AV.int .u8) (Eq.trans ?_ (wu8 (i:Nat) (k:=0) (s:=4) (i:=3) (e:=0) (by omega) rfl))
   rw [show ((2:Int) ^ 0)=1 from rfl,Int.fdiv_one]
theorem S_be4 {m:Mem} {K:AV->Mem->Prop} {i:Nat} (hi:i<4294967296) (hK:∀ cap,memK (m++ [some ⟨1,4,aB (beF (i:Nat) 4)⟩]) (K (.sl m.length 0 4 cap))):ACall Pg iC [.int .i64 i] m K:=by
 simp only [cO]at hK
 refine eO (S_be40 i hi) (.cons _ _ _ _ aK .nil) ?_
 rintro n' f' cap ⟨rfl,rfl⟩
 exact hK cap
theorem S_RSecret0 (n cap:Nat) (f:Nat->Int) (hn:n<=16384) (hf:∀ i,i<n->0<=f i/\f i<=255):ACall Pg dM [.vsl 1 n cap (aB f)] [] (fun v _=>v=numA (secN n f)/\Flat true v):=by
 refine sB ⟨rfl,?_⟩
 conv=>whnf
 repeat (refine⟨⟨_,rfl⟩,?_⟩;conv=>whnf)
 refine S_RScalar (s:=seB) (r:=1) (N:=fun _=>n) (F:=fun _=>f) (fO.sl rfl (Nat.le_of_eq (Nat.zero_add _)) fun j hj=> ?_) (by decide) (by decide) (fun j hj=>by omega) (fun j hj k hk=>hf k hk) (fun _ a ha ha1=> ?_) (fun h2=> ?_)
 · obtain rfl:j=0:=by omega
   exact aQ.vsl
 · conv=>whnf
   repeat (refine⟨⟨_,rfl⟩,?_⟩;conv=>whnf)
   refine S_rone (Nat.lt_trans ha1 (by decide)) ?_
   obtain rfl:=ha
   conv=>whnf
   repeat (refine⟨⟨_,rfl⟩,?_⟩;conv=>whnf)
   exact⟨rfl,aL⟩
 · exfalso;rw [nT1]at h2;change 65536<4+6+(4+n)at h2;omega
theorem S_RSecret {m:Mem} {x:AV} {K:AV->Mem->Prop} {n:Nat} {f:Nat->Int} (hx:aQ m x n f) (hn:n<=16384) (hf:∀ i,i<n->0<=f i/\f i<=255) (h:∀ s,s=secN n f->s<nN->s ≠ 0->K (numA s) m):ACall Pg dM [x] m K:=by
 obtain⟨cap,hl⟩:=hx
 refine aD (S_RSecret0 n cap f hn hf) (.cons _ _ _ _ hl .nil) ?_
 rintro v rfl
 exact h _ rfl kN kM
theorem S_roneV {m:Mem} {K:AV->Mem->Prop} {a:Nat} (ha:a<w256) (h:∀ b,b=nL a->K (numA b) m):ACall Pg dX [numA a] m K:=S_rone ha (h _ rfl)
theorem S_RPoly0 (n cap t:Nat) (f:Nat->Int) (hn:n<=16384) (ht:t<64) (hf:∀ i,i<n->0<=f i/\f i<=255):ACall Pg gK [.vsl 1 n cap (aB f),.int .i64 t] []
 (fun v m'=>∃ n' G,(n'=t+1/\G=jF (coN n f))/\RetG 4 n' G v m'):=by
 obtain⟨c,hc⟩ :∃ c:Nat->Nat,c=coN n f:=⟨_,rfl⟩
 rw [<- hc]
 refine vS ⟨rfl,?_⟩
 conv=>whnf
 repeat (refine⟨⟨_,rfl⟩,?_⟩;conv=>whnf)
 refine aT aJ (I:=fun q l m=>∃ (k c':Nat),l= [(0,.vsl 1 n cap (aB f)),(1,.int .i64 t),(5,.sl 0 0 k c'),(6,.int .i64 k)] /\ m= [some ⟨4,k,jF c⟩] /\ q+k=t+1) (t+1)
  (l0:= [(0,.vsl 1 n cap (aB f)),(1,.int .i64 t),(5,.sl 0 0 0 0),(6,.int .i64 (0:Nat))]) (m0:= [some ⟨4,0,jF c⟩]) [none] ⟨0,0,rfl,rfl,by omega⟩ ?_ ?_
 · exact .mk0 ⟨.eq _ _ rfl bF,Flat.i rfl,.nils _ _,Flat.i rfl,trivial⟩ ⟨.ph _ _ _ rfl,trivial⟩ rfl rfl
 · rintro q l m ⟨k,c',rfl,rfl,hq⟩
   conv=>whnf
   repeat (refine⟨⟨_,rfl⟩,?_⟩;conv=>whnf)
   refine aE (fun hb=> ?_) (fun hb=> ?_)
   · have hb:k<t+1:=by simp at hb;omega
     have e5:IntKind.i64.wrap ((k:Int)+1)=((k+1:Nat):Int):=by rw [w64 (by omega) (by omega)];omega
     conv=>whnf
     repeat (refine⟨⟨_,rfl⟩,?_⟩;conv=>whnf)
     refine S_be4 (i:=k) (by omega) (fun c2=> ?_)
     conv=>whnf
     repeat (refine⟨⟨_,rfl⟩,?_⟩;conv=>whnf)
     refine S_RScalar (s:=plB) (r:=2) (N:=pr2 n 4) (F:=pr2 f (beF (k:Nat) 4)) (fO.sl rfl (Nat.le_of_eq (Nat.zero_add _)) fun j hj=> ?_) (by decide) (by decide) (fun j hj=> ?_) (fun j hj k hk=> ?_) (fun _ a ha ha1=> ?_) (fun h=> ?_)
     · rcases(show j=0\/j=1 by omega)with rfl | rfl
       · exact aQ.vsl
       · exact aQ.slG rfl (Nat.le_of_eq (Nat.zero_add _)) (fun j hj=>by rw [Nat.zero_add];rfl)
     · rcases(show j=0\/j=1 by omega)with rfl | rfl
       · show n<=1000000;omega
       · show 4<=1000000;omega
     · rcases(show j=0\/j=1 by omega)with rfl | rfl
       · exact hf k hk
       · exact beF_lt
     rotate_left
     · exfalso
       have hsz:ByteArray.size plB<=10:=by decide
       rw [nT2]at h
       omega
     conv=>whnf
     repeat (refine⟨⟨_,rfl⟩,?_⟩;conv=>whnf)
     refine aE (fun h0=> ?_) (fun h0=> ?_)
     · have h0:k=0:=by simp at h0;omega
       conv=>whnf
       repeat (refine⟨⟨_,rfl⟩,?_⟩;conv=>whnf)
       refine S_roneV (a:=a) (Nat.lt_trans ha1 (by decide)) (fun b hb'=> ?_)
       have hco:b=c k:=by rw [hb',hc,ha,h0];unfold coN;rw [if_pos rfl];rfl
       conv=>whnf
       repeat (refine⟨⟨_,rfl⟩,?_⟩;conv=>whnf)
       refine aA (bQ (by first | rfl | simp) rfl rfl (by omega) (by omega)) (fun cap' hcap=> ?_)
       conv=>whnf
       repeat (refine⟨⟨_,rfl⟩,?_⟩;conv=>whnf)
       refine⟨q - 1,[(0,.vsl 1 n cap (aB f)),(1,.int .i64 t),(5,.sl 0 0 (k+1) cap'),(6,.int .i64 ((k+1:Nat):Int))],[some ⟨4,k+1,jF c⟩],[some 5],by omega,⟨k+1,cap',rfl,rfl,by omega⟩,?_⟩
       refine .mk0 ⟨.eq _ _ rfl bF,Flat.i rfl,.sl _ _ _ _ _ rfl,Flat.i e5,trivial⟩ ⟨.old 0 5 _ _ rfl rfl ⟨rfl,Nat.le_refl _,fun i j hi hj=> ?_⟩,trivial⟩ rfl rfl
       dsimp only at hi hj ⊢
       refine num_row hi hj hco rfl (fun j hj=> ?_)
       rcases(show j=0\/j=1\/j=2\/j=3 by omega)with rfl | rfl | rfl | rfl <;> rfl
     · have h0:¬ k=0:=by simp at h0;omega
       have hco:a=c k:=by rw [hc,ha];unfold coN;rw [if_neg h0];rfl
       conv=>whnf
       repeat (refine⟨⟨_,rfl⟩,?_⟩;conv=>whnf)
       refine aA (bQ (by first | rfl | simp) rfl rfl (by omega) (by omega)) (fun cap' hcap=> ?_)
       conv=>whnf
       repeat (refine⟨⟨_,rfl⟩,?_⟩;conv=>whnf)
       refine⟨q - 1,[(0,.vsl 1 n cap (aB f)),(1,.int .i64 t),(5,.sl 0 0 (k+1) cap'),(6,.int .i64 ((k+1:Nat):Int))],[some ⟨4,k+1,jF c⟩],[some 5],by omega,⟨k+1,cap',rfl,rfl,by omega⟩,?_⟩
       refine .mk0 ⟨.eq _ _ rfl bF,Flat.i rfl,.sl _ _ _ _ _ rfl,Flat.i e5,trivial⟩ ⟨.old 0 5 _ _ rfl rfl ⟨rfl,Nat.le_refl _,fun i j hi hj=> ?_⟩,trivial⟩ rfl rfl
       dsimp only at hi hj ⊢
       refine num_row hi hj hco rfl (fun j hj=> ?_)
       rcases(show j=0\/j=1\/j=2\/j=3 by omega)with rfl | rfl | rfl | rfl <;> rfl
   · have hb:k=t+1:=by simp at hb;omega
     subst hb
     conv=>whnf
     repeat (refine⟨⟨_,rfl⟩,?_⟩;conv=>whnf)
     exact⟨t+1,jF c,⟨rfl,rfl⟩,.inr ⟨0,c',t+1,_,rfl,rfl,Nat.le_refl _,fun _ _ _ _=>rfl⟩⟩
theorem S_RPoly {m:Mem} {x:AV} {K:AV->Mem->Prop} {n t:Nat} {f:Nat->Int} (hx:aQ m x n f) (hn:n<=16384) (ht:t<64) (hf:∀ i,i<n->0<=f i/\f i<=255)
 (h:∀ c cap,c=coN n f->(∀ i,c i<nN)->c 0 ≠ 0->memK (m++ [some ⟨4,t+1,jF c⟩]) (K (.sl m.length 0 (t+1) cap))):ACall Pg gK [x,.int .i64 t] m K:=by
 simp only [cO]at h
 obtain⟨cap,hl⟩:=hx
 refine lift_G (S_RPoly0 n cap t f hn ht hf) (fun n' G hR i j _ _=>by rw [hR.2];exact cR) (.cons _ _ _ _ hl (.cons _ _ _ _ aK .nil)) ?_
 rintro n' G cap' ⟨rfl,rfl⟩
 exact h _ cap' rfl (fun i=>coN_lt) coN_ne
theorem T_rTimesE {m:Mem} {K:AV->Mem->Prop} {v w:AV} {n:Nat} {P:Pt Fp} (hv:v=numA n) (hw:w=ptA P) (hn:n<w256) (oP:On P) (h:∀ Q,On Q->Q=nmul n P->K (ptA Q) m):ACall Pg cB [v,w] m K:=by
 subst hv hw;exact T_rTimes2 hn oP h
end Go.Proofs.YtfolpdmbpbbimaaGreat
end

section
namespace Go.Proofs.YtfolpdmbpbbimaaGreat
open Go Go.Wit
theorem T_rBase {m:Mem} {K:AV->Mem->Prop} {n:Nat} (hn:n<w256) (h:∀ P,On P->P=nmul n gG->K (ptA P) m):ACall Pg cK [numA n] m K:=
 S_rBase hn (h _ (on_G.nmul crvP n) rfl)
theorem S_RCommit0 (n cap:Nat) (c:Nat->Nat) (hc:∀ i,i<n->c i<w256) (hn:n<=1000000):ACall Pg fI [.vsl 4 n cap (jF c)] [] (fun v m'=>∃ n' G,(n'=n/\G=ptsG (fun i=>nmul (c i) gG))/\RetG 9 n' G v m'):=by
 obtain⟨P,hP⟩ :∃ P:Nat->Pt Fp,P=fun i=>nmul (c i) gG:=⟨_,rfl⟩
 rw [<- hP]
 refine sD ⟨rfl,?_⟩
 conv=>whnf
 repeat (refine⟨⟨[],rfl⟩,?_⟩;conv=>whnf)
 refine aT aJ (I:=fun q l m=>∃ (k c':Nat),l= [(0,.vsl 4 n cap (jF c)),(4,.int .i64 k),(3,.sl 0 0 k c')] /\ m= [some ⟨9,k,ptsG P⟩] /\ q+k=n) n
  (l0:= [(0,.vsl 4 n cap (jF c)),(4,.int .i64 (0:Nat)),(3,.sl 0 0 0 0)]) (m0:= [some ⟨9,0,ptsG P⟩]) [none] ⟨0,0,rfl,rfl,rfl⟩ ?_ ?_
 · refine .mk0 ⟨.eq _ _ rfl (.vsl _ _ _ _ rfl (fun _ _ _ _=>cR)),Flat.i rfl,.nils _ _,trivial⟩ ⟨.ph _ _ _ rfl,trivial⟩ rfl rfl
 · rintro q l m ⟨k,c',rfl,rfl,hq⟩
   conv=>whnf
   repeat (refine⟨⟨[],rfl⟩,?_⟩;conv=>whnf)
   refine aE (fun hb=> ?_) (fun hb=> ?_)
   · have hb:k<n:=by simp at hb;omega
     conv=>whnf
     repeat (refine⟨⟨[],rfl⟩,?_⟩;conv=>whnf)
     refine aA (by simp;omega) ?_
     conv=>whnf
     repeat (refine⟨⟨[],rfl⟩,?_⟩;conv=>whnf)
     refine T_rBase (n:=c k) (hc k hb) (fun Q oQ hQ=> ?_)
     conv=>whnf
     repeat (refine⟨⟨[],rfl⟩,?_⟩;conv=>whnf)
     refine aA (bQ (decide_eq_true (Nat.le_refl _)) rfl rfl (by omega) (by omega)) (fun cap' hcap=> ?_)
     conv=>whnf
     repeat (refine⟨⟨[],rfl⟩,?_⟩;conv=>whnf)
     have e5:IntKind.i64.wrap ((k:Int)+1)=((k+1:Nat):Int):=by rw [w64 (by omega) (by omega)];omega
     refine⟨q - 1,[(0,.vsl 4 n cap (jF c)),(4,.int .i64 ((k+1:Nat):Int)),(3,.sl 0 0 (k+1) cap')],[some ⟨9,k+1,ptsG P⟩],[some 2],by omega,⟨k+1,cap',rfl,rfl,by omega⟩,?_⟩
     refine .mk0 ⟨.eq _ _ rfl (.vsl _ _ _ _ rfl (fun _ _ _ _=>cR)),Flat.i e5,.sl _ _ _ _ _ rfl,trivial⟩ ⟨.old 0 2 _ _ rfl rfl ⟨rfl,Nat.le_refl _,fun i j hi hj=> ?_⟩,trivial⟩ rfl rfl
     have hPk:P k=Q:=by rw [hP,hQ]
     have hi:i<k+1:=hi
     have hj:j<9:=hj
     have e:=cat_pts (P:=P) (k:=k) (g:=fun i j=>(rawL (isI Q) (xN Q) (yN Q)).getD (i*9+j) .un) hi (fun h j=>by subst h;rw [Nat.sub_self,Nat.zero_mul,Nat.zero_add,<- hPk];rfl) j
     refine .eq _ _ ?_ ?_
     · refine Eq.trans ?_ e
       dsimp only
       by_cases hik:i<k
       · rw [cU hik,cU hik]
       · rw [bK (by omega),bK (by omega),Nat.zero_add]
         rfl
     · have:Flat false (ptsG P i j):=bZ
       rw [<- e]at this
       dsimp only
       by_cases hik:i<k
       · rw [cU hik];exact bZ
       · rw [bK (by omega)]at this ⊢
         rw [Nat.zero_add]
         exact this
   · have hb:k=n:=by simp at hb;omega
     subst hb
     conv=>whnf
     repeat (refine⟨⟨[],rfl⟩,?_⟩;conv=>whnf)
     exact⟨k,ptsG P,⟨rfl,rfl⟩,.inr ⟨0,c',k,_,rfl,rfl,Nat.le_refl _,fun _ _ _ _=>rfl⟩⟩
theorem S_RCommit {m:Mem} {x:AV} {K:AV->Mem->Prop} {n:Nat} {c:Nat->Nat} (hx:bW m x 4 n (jF c)) (hc:∀ i,i<n->c i<w256) (hn:n<=1000000)
 (h1:∀ P cap,P=(fun i=>nmul (c i) gG)->memK (m++ [some ⟨9,n,ptsG P⟩]) (K (.sl m.length 0 n cap))):ACall Pg fI [x] m K:=by
 simp only [cO]at h1
 obtain⟨cap,hl⟩:=hx
 refine lift_G (S_RCommit0 n cap c hc hn) (fun n G hR i j _ _=>by rw [hR.2];exact bZ) (.cons _ _ _ _ hl .nil) ?_
 rintro n' G cap' ⟨rfl,rfl⟩
 exact h1 _ cap' rfl
end Go.Proofs.YtfolpdmbpbbimaaGreat
end

section
namespace Go.Proofs.YtfolpdmbpbbimaaGreat
open Go Go.Wit
theorem bW.own {m:Mem} {l es n cap N:Nat} {G:Nat->Nat->AV} (h:m[l]? = some (some ⟨es,N,G⟩)) (hn:n<=N) (hf:∀ i j,Flat false (G i j)):bW m (.sl l 0 n cap) es n G:=
 bW.sl h (by omega) fun i j _ _=>⟨by rw [Nat.zero_add],hf i j⟩
end Go.Proofs.YtfolpdmbpbbimaaGreat
end

section
namespace Go.Proofs.YtfolpdmbpbbimaaGreat
open Go Go.Wit
def rowsG (N C:Nat->Nat) (I:Nat->Nat->Bool) (X Y:Nat->Nat->Nat):Nat->Nat->AV:=fun k _=> .vsl 9 (N k) (C k) (fY (I k) (X k) (Y k))
theorem bW.raws {m:Mem} {n cap:Nat} {I:Nat->Bool} {X Y:Nat->Nat} {P:Nat->Pt Fp} (h:∀ i,i<n->rawL (I i) (X i) (Y i)=rawL (isI (P i)) (xN (P i)) (yN (P i))):bW m (.vsl 9 n cap (fY I X Y)) 9 n (ptsG P):=
 ⟨cap,.vsl _ _ _ _ _ fun i j hi hj=>⟨by unfold ptsG fY;rw [h i hi],bZ⟩⟩
def ShowsR (m:Mem) (x:AV) (r:Nat) (N:Nat->Nat) (I:Nat->Nat->Bool) (X Y:Nat->Nat->Nat):Prop:= ∃ cap C,Lend (fun _=>none) (List.range m.length) m x (.vsl 1 r cap (rowsG N C I X Y))
theorem ShowsR.nils {m:Mem} {N:Nat->Nat} {I:Nat->Nat->Bool} {X Y:Nat->Nat->Nat}:ShowsR m .nils 0 N I X Y:=⟨0,fun _=>0,.nils _ _⟩
theorem ShowsR.sl {m:Mem} {l off r cap M:Nat} {N:Nat->Nat} {I:Nat->Nat->Bool} {X Y:Nat->Nat->Nat} {g:Nat->Nat->AV} (h:m[l]? = some (some ⟨1,M,g⟩)) (hn:off+r<=M) (hG:∀ i,i<r->bW m (g (off+i) 0) 9 (N i) (fY (I i) (X i) (Y i))):ShowsR m (.sl l off r cap) r N I X Y:=by
 have hC:∃ C:Nat->Nat,∀ i,i<r->Lend (fun _=>none) (List.range m.length) m (g (off+i) 0) (.vsl 9 (N i) (C i) (fY (I i) (X i) (Y i))):=by
  refine⟨fun i=>if h:i<r then Classical.choose (hG i h)else 0,fun i hi=> ?_⟩
  dsimp only
  rw [dif_pos hi]
  exact Classical.choose_spec (hG i hi)
 obtain⟨C,hC⟩:=hC
 refine⟨cap,C,.slR l off r cap ⟨1,M,g⟩ _ (List.mem_range.2 (bB h)) h hn fun i j hi hj=> ?_⟩
 have hj:j<1:=hj
 obtain rfl:j=0:=by omega
 exact hC i hi
end Go.Proofs.YtfolpdmbpbbimaaGreat
end

section
namespace Go.Proofs.YtfolpdmbpbbimaaGreat
open Go Go.Wit
def plOk (i j:Int):Bool:=isD i && (isD j && !(i == j))
def plN (i j:Int):Int:=if j<i then j - 1 else j - 2
theorem plOk_spec {i j:Int} (h:plOk i j=true):1<=i/\i<=8/\1<=j/\j<=8/\i ≠ j/\0<=plN i j/\plN i j<=6:=by
 simp only [plOk,isD,Bool.and_eq_true,decide_eq_true_eq,Bool.not_eq_true',beq_eq_false_iff_ne,ne_eq]at h
 unfold plN
 split <;> omega
theorem S_jdealer {m:Mem} {K:AV->Mem->Prop} {i:Int} (h:K (.bool (isD i)) m):ACall Pg hZ [.int .i64 i] m K:=by
 have h0:ACall Pg hZ [.int .i64 i] [] (fun v _=>v= .bool (isD i)/\Flat true v):=by
  refine B_judge_dealer ⟨rfl,?_⟩
  conv=>whnf
  repeat (refine⟨⟨_,rfl⟩,?_⟩;conv=>whnf)
  refine aE (fun h=> ?_) (fun h=> ?_)
  · conv=>whnf
    repeat (refine⟨⟨_,rfl⟩,?_⟩;conv=>whnf)
    have e:decide (1<=i)=true:=by simpa using h
    exact⟨by unfold isD;rw [e];rfl,.bool _⟩
  · conv=>whnf
    repeat (refine⟨⟨_,rfl⟩,?_⟩;conv=>whnf)
    have e:decide (1<=i)=false:=by simpa using h
    exact⟨by unfold isD;rw [e];rfl,.bool _⟩
 refine aD h0 (.cons _ _ _ _ aK .nil) ?_
 rintro v rfl
 exact h
theorem S_Place0 (i j:Int):ACall Pg kD [.int .i64 i,.int .i64 j] [] (fun v _=>((plOk i j=true/\v= .tup [.int .i64 (plN i j),.int .i64 0])\/(plOk i j=false/\v= .tup [.int .i64 0,.int .i64 1]))/\Flat true v):=by
  refine B_judge_Place ⟨rfl,?_⟩
  conv=>whnf
  repeat (refine⟨⟨_,rfl⟩,?_⟩;conv=>whnf)
  refine S_jdealer ?_
  cases hi:isD i with
  | false =>
    conv=>whnf
    repeat (refine⟨⟨_,rfl⟩,?_⟩;conv=>whnf)
    exact⟨.inr ⟨by simp [plOk,hi],rfl⟩,flat_ii⟩
  | true =>
    conv=>whnf
    repeat (refine⟨⟨_,rfl⟩,?_⟩;conv=>whnf)
    refine S_jdealer ?_
    cases hj:isD j with
    | false =>
      conv=>whnf
      repeat (refine⟨⟨_,rfl⟩,?_⟩;conv=>whnf)
      exact⟨.inr ⟨by simp [plOk,hi,hj],rfl⟩,flat_ii⟩
    | true =>
      conv=>whnf
      repeat (refine⟨⟨_,rfl⟩,?_⟩;conv=>whnf)
      refine aE (fun h=> ?_) (fun h=> ?_)
      · have h:i=j:=by simpa using h
        conv=>whnf
        repeat (refine⟨⟨_,rfl⟩,?_⟩;conv=>whnf)
        exact⟨.inr ⟨by simp [plOk,h],rfl⟩,flat_ii⟩
      · have h:¬ i=j:=by simpa using h
        have hok:plOk i j=true:=by simp [plOk,hi,hj,h]
        have hb:=plOk_spec hok
        conv=>whnf
        repeat (refine⟨⟨_,rfl⟩,?_⟩;conv=>whnf)
        refine aE (fun h2=> ?_) (fun h2=> ?_)
        · have h2:=of_decide_eq_true h2
          conv=>whnf
          repeat (refine⟨⟨_,rfl⟩,?_⟩;conv=>whnf)
          refine⟨.inl ⟨hok,?_⟩,flat_ii⟩
          rw [w64 (by omega) (by omega)]
          unfold plN;rw [if_pos h2]
        · have h2:=of_decide_eq_false h2
          conv=>whnf
          repeat (refine⟨⟨_,rfl⟩,?_⟩;conv=>whnf)
          refine⟨.inl ⟨hok,?_⟩,flat_ii⟩
          rw [w64 (by omega) (by omega)]
          unfold plN;rw [if_neg h2]
theorem S_Place {m:Mem} {K:AV->Mem->Prop} {i j:Int} (h1:plOk i j=true->∀ p,p=plN i j->K (.tup [.int .i64 p,.int .i64 0]) m) (h2:plOk i j=false->K (.tup [.int .i64 0,.int .i64 1]) m):ACall Pg kD [.int .i64 i,.int .i64 j] m K:=by
 refine aD (S_Place0 i j) (.cons _ _ _ _ aK (.cons _ _ _ _ aK .nil)) ?_
 rintro v (⟨h,rfl⟩ | ⟨h,rfl⟩)
 · exact h1 h _ rfl
 · exact h2 h
def comP (d:Dl):Prop:= ∀ k,k<d.nc->∃ P,On P/\rawA (d.I k) (d.X k) (d.Y k)=ptA P
def posP (d:Dl) (p:Int):Prop:=d.ps=true/\p<d.ns/\d.nc<=64/\comP d
def OkD (d:Dl):Prop:=d.x<w256/\d.y<w256/\d.u<w256/\d.v<w256/\(∀ k,k<d.nc->d.X k<w256)/\(∀ k,k<d.nc->d.Y k<w256)/\(∀ k,k<d.ns->∀ b,b<32->0<=d.S k b/\d.S k b<=255)/\d.ns<=1000000/\d.nc<=1000000
end Go.Proofs.YtfolpdmbpbbimaaGreat
end

section
namespace Go.Proofs.YtfolpdmbpbbimaaGreat
open Go Go.Wit
noncomputable def rawP (i:Bool) (x y:Nat):Pt Fp:=by
 classical
 exact if h:∃ P,On P/\rawA i x y=ptA P then h.choose else .inf
theorem rawP_eq {i:Bool} {x y:Nat} {P:Pt Fp} (oP:On P) (h:rawA i x y=ptA P):rawP i x y=P:=by
 classical
 have hh:∃ P,On P/\rawA i x y=ptA P:=⟨P,oP,h⟩
 unfold rawP
 rw [dif_pos hh]
 exact pU (hh.choose_spec.2.symm.trans h)
noncomputable def cmP (d:Dl):Nat->Pt Fp:=fun k=>rawP (d.I k) (d.X k) (d.Y k)
theorem cmP_on {d:Dl} (h:comP d):∀ k,k<d.nc->On (cmP d k)/\rawA (d.I k) (d.X k) (d.Y k)=ptA (cmP d k):=fun k hk=>by
 obtain⟨P,oP,eP⟩:=h k hk
 unfold cmP
 rw [rawP_eq oP eP]
 exact⟨oP,eP⟩
theorem exBad {d:Dl} (h:¬ comP d):∃ b,b<d.nc/\Bad (d.I b) (d.X b) (d.Y b):=by
 classical
 apply Classical.byContradiction
 intro hn
 refine h fun k hk=>Classical.byContradiction fun hk2=>hn ⟨k,hk,fun P oP eP=>hk2 ⟨P,oP,eP⟩⟩
theorem rawL_of {i:Bool} {x y:Nat} {P:Pt Fp} (h:rawA i x y=ptA P):rawL i x y=rawL (isI P) (xN P) (yN P):=by
 injection h
theorem S_FitsD {m:Mem} {K:AV->Mem->Prop} {v w:AV} {d:Dl} {c x y:Nat} (hv:v= .vsl 9 d.nc c (fY d.I d.X d.Y)) (hw:w=numA x) (hd:comP d) (hn:d.nc<=64) (hx:x<w256) (hy:y<w256)
 (h:∀ b:Bool,(b=true ↔ nmul y gG=polyP (cmP d) x d.nc)->K (.tup [.bool b,.int .i64 0]) m):ACall Pg gE [v,w,numA y] m K:=by
 subst hv hw
 refine S_Fits (P:=cmP d) (bW.raws fun i hi=>rawL_of (cmP_on hd i hi).2) hx hy (fun i hi=>(cmP_on hd i hi).1) hn (fun e=>h true (by simp [e])) (fun e=>h false (by simp [e]))
def hasP (r:Nat) (D:Nat->Dl) (i j:Int):Prop:=i<=r/\j<=r/\posP (D (i.toNat - 1)) (plN i j)
noncomputable def fitV (D:Nat->Dl) (i j:Int) (K:Pt Fp):Nat:=ofZ (tnF K i j ((D (i.toNat - 1)).S (plN i j).toNat))
def FitE (r:Nat) (D:Nat->Dl) (i j:Int) (ki:Bool) (kx ky:Nat) (b:Bool) (e:Int):Prop:=
 (plOk i j=false/\b=false/\e=1)\/(plOk i j=true/\¬ hasP r D i j/\b=false/\e=5)\/(plOk i j=true/\hasP r D i j/\Bad ki kx ky/\b=false/\e=3)\/
 (plOk i j=true/\hasP r D i j/\∃ K,On K/\rawA ki kx ky=ptA K/\e=0/\(b=true ↔ fitV D i j K<nN/\nmul (fitV D i j K) gG=polyP (cmP (D (i.toNat - 1))) j.toNat (D (i.toNat - 1)).nc))
theorem FitE.same {r:Nat} {D:Nat->Dl} {i j:Int} {ki:Bool} {kx ky:Nat} {b b':Bool} {e e':Int} (h:FitE r D i j ki kx ky b e) (h':FitE r D i j ki kx ky b' e'):b=b'/\e=e':=by
 rcases h with⟨h1,hb,he⟩ | ⟨h1,h2,hb,he⟩ | ⟨h1,h2,h3,hb,he⟩ | ⟨h1,h2,K,oK,eK,he,h3⟩
 · rcases h' with⟨g1,gb,ge⟩ | ⟨g1,_⟩ | ⟨g1,_⟩ | ⟨g1,_⟩
   · exact⟨hb.trans gb.symm,he.trans ge.symm⟩
   all_goals (rw [h1]at g1;cases g1)
 · rcases h' with⟨g1,_⟩ | ⟨g1,g2,gb,ge⟩ | ⟨g1,g2,_⟩ | ⟨g1,g2,_⟩
   · rw [h1]at g1;cases g1
   · exact⟨hb.trans gb.symm,he.trans ge.symm⟩
   all_goals exact absurd g2 h2
 · rcases h' with⟨g1,_⟩ | ⟨g1,g2,_⟩ | ⟨g1,g2,g3,gb,ge⟩ | ⟨g1,g2,K',oK',eK',_⟩
   · rw [h1]at g1;cases g1
   · exact absurd h2 g2
   · exact⟨hb.trans gb.symm,he.trans ge.symm⟩
   · exact absurd eK' (h3 K' oK')
 · rcases h' with⟨g1,_⟩ | ⟨g1,g2,_⟩ | ⟨g1,g2,g3,gb,ge⟩ | ⟨g1,g2,K',oK',eK',ge,g3⟩
   · rw [h1]at g1;cases g1
   · exact absurd h2 g2
   · exact absurd eK (g3 K oK)
   · obtain rfl:K=K':=pU (eK.symm.trans eK')
     refine⟨?_,he.trans ge.symm⟩
     rw [Bool.eq_iff_iff,h3,g3]
theorem S_OpenPt {m:Mem} {K:AV->Mem->Prop} {v w:AV} {P:Pt Fp} {a b:Int} {f:Nat->Int} (hv:v=ptA P) (hw:w= .agg (rowL f)) (oP:On P) (ha:isD a=true) (hb:isD b=true) (hf:∀ i,i<32->0<=f i/\f i<=255) (h:∀ n,n=ofZ (tnF P a b f)->n<w256->K (.tup [numA n,.int .i64 0]) m):ACall Pg kZ [v,.int .i64 a,.int .i64 b,w] m K:=by
 subst hv hw
 refine S_Open (i:=isI P) (x:=xN P) (y:=yN P) (f:=f) (xN_w P) (yN_w P) hf (fun h=>by rw [ha,hb]at h;cases h) (fun _ _ h=>absurd rfl (h P oP)) (fun _ _ P2 n2 oP2 eP2 hn2=> ?_)
 obtain rfl:P=P2:=pU eP2
 exact h n2 hn2 (by rw [hn2];exact ofZ_lt (fun i _=>gU _ _))
def VerE (r:Nat) (D:Nat->Dl) (i j:Int) (ki:Bool) (kx ky c s:Nat) (e:Int):Prop:= ∃ b e0,FitE r D i j ki kx ky b e0/\
 ((e0 ≠ 0/\e=e0)\/(e0=0/\(Bad (D (i.toNat - 1)).i (D (i.toNat - 1)).x (D (i.toNat - 1)).y\/Bad (D (j.toNat - 1)).i (D (j.toNat - 1)).x (D (j.toNat - 1)).y)/\e=3)\/
  (e0=0/\∃ A B P,On A/\On B/\On P/\rawA (D (i.toNat - 1)).i (D (i.toNat - 1)).x (D (i.toNat - 1)).y=ptA A/\rawA (D (j.toNat - 1)).i (D (j.toNat - 1)).x (D (j.toNat - 1)).y=ptA B/\rawA ki kx ky=ptA P/\
   e=if hoB B A P c s=true then (if b=true then 13 else 0)else 12))
theorem VerE.same {r:Nat} {D:Nat->Dl} {i j:Int} {ki:Bool} {kx ky c s:Nat} {e e':Int} (h:VerE r D i j ki kx ky c s e) (h':VerE r D i j ki kx ky c s e'):e=e':=by
 obtain⟨b,e0,hf,h⟩:=h
 obtain⟨b',e0',hf',h'⟩:=h'
 obtain⟨rfl,rfl⟩:=hf.same hf'
 rcases h with⟨h1,h2⟩ | ⟨h1,h2,h3⟩ | ⟨h1,A,B,P,oA,oB,oP,eA,eB,eP,h3⟩
 · rcases h' with⟨g1,g2⟩ | ⟨g1,g2,g3⟩ | ⟨g1,_⟩
   · rw [h2,g2]
   · exact absurd g1 h1
   · exact absurd g1 h1
 · rcases h' with⟨g1,g2⟩ | ⟨g1,g2,g3⟩ | ⟨g1,A,B,P,oA,oB,oP,eA,eB,eP,g3⟩
   · exact absurd h1 g1
   · rw [h3,g3]
   · rcases h2 with h | h
     · exact absurd eA (h A oA)
     · exact absurd eB (h B oB)
 · rcases h' with⟨g1,g2⟩ | ⟨g1,g2,g3⟩ | ⟨g1,A',B',P',oA',oB',oP',eA',eB',eP',g3⟩
   · exact absurd h1 g1
   · rcases g2 with h | h
     · exact absurd eA (h A oA)
     · exact absurd eB (h B oB)
   · obtain rfl:A=A':=pU (eA.symm.trans eA')
     obtain rfl:B=B':=pU (eB.symm.trans eB')
     obtain rfl:P=P':=pU (eP.symm.trans eP')
     rw [h3,g3]
end Go.Proofs.YtfolpdmbpbbimaaGreat
end

