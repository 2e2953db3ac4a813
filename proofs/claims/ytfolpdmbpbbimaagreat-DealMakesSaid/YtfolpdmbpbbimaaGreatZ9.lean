/- Texts of a proof, one behind the other; the last of these: The page's Submit; no condition. -/
import Derived.Test.YtfolpdmbpbbimaaGreatZ8
set_option linter.unusedVariables false
set_option linter.unusedSimpArgs false
set_option maxRecDepth 100000
section
namespace Go.Proofs.YtfolpdmbpbbimaaGreat
open Go Go.Wit
theorem eV (s:ByteArray) (i:Nat):((s.data.getD i 0).toNat:Nat)=bC s i:=by
 unfold bC;rw [get_data]
theorem mW (s:ByteArray) (i:Nat):bC s i<256:=(s.get! i).toNat_lt
theorem and31:∀ x:Fin 256,bY .and .i64 ((x.val:Nat):Int) 31=((x.val % 32:Nat):Int):=by decide +kernel
theorem and15:∀ x:Fin 256,bY .and .i64 ((x.val:Nat):Int) 15=((x.val % 16:Nat):Int):=by decide +kernel
theorem and7:∀ x:Fin 256,bY .and .i64 ((x.val:Nat):Int) 7=((x.val % 8:Nat):Int):=by decide +kernel
theorem and63:∀ x:Fin 256,bY .and .u8 ((x.val:Nat):Int) 63=((x.val % 64:Nat):Int):=by decide +kernel
theorem nE:∀ x:Fin 256,bY .and .u8 ((x.val:Nat):Int) 192=((x.val / 64*64:Nat):Int):=by decide +kernel
theorem or64 {a b:Int} (ha:0<=a/\a<4194304) (hb:0<=b/\b<=63):bY .or .i64 (IntKind.i64.wrap (a*2 ^ 6)) b=a*64+b:=by
 obtain⟨A,rfl⟩ :∃ A:Nat,a=A:=⟨a.toNat,by omega⟩
 obtain⟨B,rfl⟩ :∃ B:Nat,b=B:=⟨b.toNat,by omega⟩
 have h1:BitVec.ofInt 64 (IntKind.i64.wrap ((A:Int)*2 ^ 6))=BitVec.ofNat 64 (64*A):=by
  rw [w64 (by omega) (by omega),show ((A:Int)*2 ^ 6)=((64*A:Nat):Int) by omega,BitVec.ofInt_natCast]
 have h2:BitVec.ofInt 64 (B:Int)=BitVec.ofNat 64 B:=BitVec.ofInt_natCast _ _
 show IntKind.i64.wrap ((BitVec.ofInt 64 (IntKind.i64.wrap ((A:Int)*2 ^ 6)) ||| BitVec.ofInt 64 (B:Int)).toNat)=_
 rw [h1,h2,BitVec.toNat_or,BitVec.toNat_ofNat,BitVec.toNat_ofNat,Nat.mod_eq_of_lt (by omega),Nat.mod_eq_of_lt (by omega)]
 have h3:=Nat.two_pow_add_eq_or_of_lt (i:=6) (b:=B) (by omega) A
 rw [show (64:Nat)=2 ^ 6 from rfl,<- h3,w64 (by omega) (by omega)]
 omega
theorem sh6 {R y:Nat} {a:Int} (hR:R<4194304) (hy:y<256) (ha:a=R):bY .or .i64 (IntKind.i64.wrap (a*2 ^ min (Int.toNat 6) IntKind.i64.bits)) (IntKind.i64.wrap (bY .and .u8 (y:Int) 63))=((R*64+y % 64:Nat):Int):=by
 rw [and63 ⟨y,hy⟩,ha,w64 (n:=((y % 64:Nat):Int)) (by omega) (by omega),show min (Int.toNat 6) IntKind.i64.bits=6 from rfl,or64 (by omega) (by omega)]
 omega
theorem bS {a b:Int}:Flat true (.tup [.int .i64 a,.int .i64 b]):= .tup _ (.cons _ _ (.int _ _) (.cons _ _ (.int _ _) .nil))
theorem lU {p:Prop} [Decidable p] (h:(decide p == false)=true):¬ p:=by simpa using h
theorem kE {p:Prop} [Decidable p] (h:(decide p == false)=false):p:=by simpa using h
theorem wN {p:Prop} [Decidable p] (h:(decide p == true)=true):p:=by simpa using h
theorem jC {p:Prop} [Decidable p] (h:(decide p == true)=false):¬ p:=by simpa using h
set_option maxHeartbeats 2000000 in
theorem S_rune10 (s:ByteArray) (h0:0<s.size) (hs:s.size<=1000000000):ACall Pg fN [.str s] [] (fun v _=>((Utf8.decode s 0=(65533,1)/\v= .tup [.int .i64 0,.int .i64 0])\/(∃ c w:Nat,Utf8.decode s 0=(c,w)/\1<=w/\w<=s.size/\v= .tup [.int .i64 c,.int .i64 w]))/\Flat true v):=by
 refine tA ⟨rfl,?_⟩
 conv=>whnf
 repeat (refine⟨⟨_,rfl⟩,?_⟩;conv=>whnf)
 refine aE (by simp;omega) ?_
 rw [show Int.toNat 0=0 from rfl,eV]
 have hb0:=mW s 0
 have hw:IntKind.i64.wrap ((bC s 0:Nat):Int)=((bC s 0:Nat):Int):=w64 (by omega) (by omega)
 have d1:=dec_1 (s:=s)
 have d2:=dec_2 (s:=s)
 have d3:=dec_3 (s:=s)
 have d4:=dec_4 (s:=s)
 have db:=dec_bad (s:=s)
 generalize hx:bC s 0=x at*
 conv=>whnf
 repeat (refine⟨⟨_,rfl⟩,?_⟩;conv=>whnf)
 refine aA (fun h1=> ?_) (fun h1=> ?_)
 · conv=>whnf
   repeat (refine⟨⟨_,rfl⟩,?_⟩;conv=>whnf)
   rw [hw]at h1 ⊢
   refine⟨.inr ⟨x,1,d1 (by simp at h1;omega),Nat.le_refl _,h0,rfl⟩,bS⟩
 · rw [hw]at h1
   conv=>whnf
   repeat (refine⟨⟨_,rfl⟩,?_⟩;conv=>whnf)
   refine aA (fun h2=> ?_) (fun h2=> ?_)
   · rw [hw]at h2
     conv=>whnf
     repeat (refine⟨⟨_,rfl⟩,?_⟩;conv=>whnf)
     refine aA (fun h3=> ?_) (fun h3=> ?_)
     · rw [hw]at h3
       replace d2:=d2 (by simp at h1 h2 h3;omega)
       clear d1 d3 d4 db
       conv=>whnf
       repeat (refine⟨⟨_,rfl⟩,?_⟩;conv=>whnf)
       refine aA (fun h4=> ?_) (fun h4=> ?_)
       · conv=>whnf
         repeat (refine⟨⟨_,rfl⟩,?_⟩;conv=>whnf)
         rw [if_neg (by simp at h4;omega)]at d2
         exact⟨.inl ⟨d2,rfl⟩,bS⟩
       · have h5:2<=s.size:=by simp at h4;omega
         clear h4
         conv=>whnf
         repeat (refine⟨⟨_,rfl⟩,?_⟩;conv=>whnf)
         refine aR aI 3 ?_
         conv=>whnf
         repeat (refine⟨⟨_,rfl⟩,?_⟩;conv=>whnf)
         refine aE (by simp;omega) ?_
         rw [show Int.toNat 1=1 from rfl,eV]
         have hy:=mW s 1
         generalize gy:bC s 1=y at*
         conv=>whnf
         repeat (refine⟨⟨_,rfl⟩,?_⟩;conv=>whnf)
         refine aA (fun hq=> ?_) (fun hq=> ?_)
         · rw [nE ⟨y,hy⟩]at hq
           conv=>whnf
           repeat (refine⟨⟨_,rfl⟩,?_⟩;conv=>whnf)
           rw [if_neg (by simp at hq;omega)]at d2
           exact⟨.inl ⟨d2,rfl⟩,bS⟩
         rw [nE ⟨y,hy⟩]at hq
         have ky:y / 64=2:=by simp at hq;omega
         clear hq
         conv=>whnf
         repeat (refine⟨⟨_,rfl⟩,?_⟩;conv=>whnf)
         refine aE (by simp;omega) ?_
         rw [show Int.toNat 1=1 from rfl,eV,gy]
         conv=>whnf
         repeat (refine⟨⟨_,rfl⟩,?_⟩;conv=>whnf)
         rw [sh6 (a:=bY .and .i64 (IntKind.i64.wrap (x:Int)) 31) (R:=x % 32) (y:=y) (by omega) hy (by rw [hw,and31 ⟨x,hb0⟩])]
         generalize hR:x % 32*64+y % 64=R at*
         generalize hz:(R:Int)=z
         refine aA (fun h6=> ?_) (fun h6=> ?_)
         · have h6':=lU h6
           conv=>whnf
           repeat (refine⟨⟨_,rfl⟩,?_⟩;conv=>whnf)
           refine aA (fun h7=> ?_) (fun h7=> ?_)
           · have h7':=wN h7
             conv=>whnf
             repeat (refine⟨⟨_,rfl⟩,?_⟩;conv=>whnf)
             refine aA (fun h8=> ?_) (fun h8=> ?_)
             · have h8':=lU h8
               conv=>whnf
               repeat (refine⟨⟨_,rfl⟩,?_⟩;conv=>whnf)
               refine aA (fun h9=> ?_) (fun h9=> ?_)
               · have h9':=of_decide_eq_true h9
                 conv=>whnf
                 repeat (refine⟨⟨_,rfl⟩,?_⟩;conv=>whnf)
                 rw [if_neg (by omega)]at d2
                 exact⟨.inl ⟨d2,rfl⟩,bS⟩
               · have h9':=of_decide_eq_false h9
                 conv=>whnf
                 repeat (refine⟨⟨_,rfl⟩,?_⟩;conv=>whnf)
                 rw [if_pos (by omega)]at d2
                 subst hz
                 exact⟨.inr ⟨R,_,d2,by decide,by omega,rfl⟩,bS⟩
             · have h8':=kE h8
               conv=>whnf
               repeat (refine⟨⟨_,rfl⟩,?_⟩;conv=>whnf)
               rw [if_neg (by omega)]at d2
               exact⟨.inl ⟨d2,rfl⟩,bS⟩
           · have h7':=jC h7
             conv=>whnf
             repeat (refine⟨⟨_,rfl⟩,?_⟩;conv=>whnf)
             refine aA (fun h9=> ?_) (fun h9=> ?_)
             · have h9':=of_decide_eq_true h9
               conv=>whnf
               repeat (refine⟨⟨_,rfl⟩,?_⟩;conv=>whnf)
               rw [if_neg (by omega)]at d2
               exact⟨.inl ⟨d2,rfl⟩,bS⟩
             · have h9':=of_decide_eq_false h9
               conv=>whnf
               repeat (refine⟨⟨_,rfl⟩,?_⟩;conv=>whnf)
               rw [if_pos (by omega)]at d2
               subst hz
               exact⟨.inr ⟨R,_,d2,by decide,by omega,rfl⟩,bS⟩
         · have h6':=kE h6
           conv=>whnf
           repeat (refine⟨⟨_,rfl⟩,?_⟩;conv=>whnf)
           rw [if_neg (by omega)]at d2
           exact⟨.inl ⟨d2,rfl⟩,bS⟩
     · rw [hw]at h3
       conv=>whnf
       repeat (refine⟨⟨_,rfl⟩,?_⟩;conv=>whnf)
       refine aA (fun k2=> ?_) (fun k2=> ?_)
       · rw [hw]at k2
         conv=>whnf
         repeat (refine⟨⟨_,rfl⟩,?_⟩;conv=>whnf)
         refine aA (fun k3=> ?_) (fun k3=> ?_)
         · rw [hw]at k3
           replace d3:=d3 (by simp at h1 k2 k3;omega)
           clear d1 d2 d4 db
           conv=>whnf
           repeat (refine⟨⟨_,rfl⟩,?_⟩;conv=>whnf)
           refine aA (fun h4=> ?_) (fun h4=> ?_)
           · conv=>whnf
             repeat (refine⟨⟨_,rfl⟩,?_⟩;conv=>whnf)
             rw [if_neg (by simp at h4;omega)]at d3
             exact⟨.inl ⟨d3,rfl⟩,bS⟩
           · have h5:3<=s.size:=by simp at h4;omega
             clear h4
             conv=>whnf
             repeat (refine⟨⟨_,rfl⟩,?_⟩;conv=>whnf)
             refine aR aI 4 ?_
             conv=>whnf
             repeat (refine⟨⟨_,rfl⟩,?_⟩;conv=>whnf)
             refine aE (by simp;omega) ?_
             rw [show Int.toNat 1=1 from rfl,eV]
             have hy:=mW s 1
             generalize gy:bC s 1=y at*
             conv=>whnf
             repeat (refine⟨⟨_,rfl⟩,?_⟩;conv=>whnf)
             refine aA (fun hq=> ?_) (fun hq=> ?_)
             · rw [nE ⟨y,hy⟩]at hq
               conv=>whnf
               repeat (refine⟨⟨_,rfl⟩,?_⟩;conv=>whnf)
               rw [if_neg (by simp at hq;omega)]at d3
               exact⟨.inl ⟨d3,rfl⟩,bS⟩
             rw [nE ⟨y,hy⟩]at hq
             have ky:y / 64=2:=by simp at hq;omega
             clear hq
             conv=>whnf
             repeat (refine⟨⟨_,rfl⟩,?_⟩;conv=>whnf)
             refine aE (by simp;omega) ?_
             rw [show Int.toNat 1=1 from rfl,eV,gy]
             conv=>whnf
             repeat (refine⟨⟨_,rfl⟩,?_⟩;conv=>whnf)
             rw [sh6 (a:=bY .and .i64 (IntKind.i64.wrap (x:Int)) 15) (R:=x % 16) (y:=y) (by omega) hy (by rw [hw,and15 ⟨x,hb0⟩])]
             rw [show IntKind.i64.wrap (1+1)=2 from rfl]
             refine aE (by simp;omega) ?_
             rw [show Int.toNat 2=2 from rfl,eV]
             have hu:=mW s 2
             generalize gu:bC s 2=u at*
             conv=>whnf
             repeat (refine⟨⟨_,rfl⟩,?_⟩;conv=>whnf)
             refine aA (fun hq=> ?_) (fun hq=> ?_)
             · rw [nE ⟨u,hu⟩]at hq
               conv=>whnf
               repeat (refine⟨⟨_,rfl⟩,?_⟩;conv=>whnf)
               rw [if_neg (by simp at hq;omega)]at d3
               exact⟨.inl ⟨d3,rfl⟩,bS⟩
             rw [nE ⟨u,hu⟩]at hq
             have ku:u / 64=2:=by simp at hq;omega
             clear hq
             conv=>whnf
             repeat (refine⟨⟨_,rfl⟩,?_⟩;conv=>whnf)
             refine aE (by simp;omega) ?_
             rw [show Int.toNat 2=2 from rfl,eV,gu]
             conv=>whnf
             repeat (refine⟨⟨_,rfl⟩,?_⟩;conv=>whnf)
             rw [sh6 (a:=((x % 16*64+y % 64:Nat):Int)) (R:=x % 16*64+y % 64) (y:=u) (by omega) hu rfl,show (x % 16*64+y % 64)*64+u % 64=x % 16*4096+y % 64*64+u % 64 by omega]
             generalize hR:x % 16*4096+y % 64*64+u % 64=R at*
             generalize hz:(R:Int)=z
             refine aA (fun h6=> ?_) (fun h6=> ?_)
             · have h6':=lU h6
               conv=>whnf
               repeat (refine⟨⟨_,rfl⟩,?_⟩;conv=>whnf)
               refine aA (fun h7=> ?_) (fun h7=> ?_)
               · have h7':=wN h7
                 conv=>whnf
                 repeat (refine⟨⟨_,rfl⟩,?_⟩;conv=>whnf)
                 refine aA (fun h8=> ?_) (fun h8=> ?_)
                 · have h8':=lU h8
                   conv=>whnf
                   repeat (refine⟨⟨_,rfl⟩,?_⟩;conv=>whnf)
                   refine aA (fun h9=> ?_) (fun h9=> ?_)
                   · have h9':=of_decide_eq_true h9
                     conv=>whnf
                     repeat (refine⟨⟨_,rfl⟩,?_⟩;conv=>whnf)
                     rw [if_neg (by omega)]at d3
                     exact⟨.inl ⟨d3,rfl⟩,bS⟩
                   · have h9':=of_decide_eq_false h9
                     conv=>whnf
                     repeat (refine⟨⟨_,rfl⟩,?_⟩;conv=>whnf)
                     rw [if_pos (by omega)]at d3
                     subst hz
                     exact⟨.inr ⟨R,_,d3,by decide,by omega,rfl⟩,bS⟩
                 · have h8':=kE h8
                   conv=>whnf
                   repeat (refine⟨⟨_,rfl⟩,?_⟩;conv=>whnf)
                   rw [if_neg (by omega)]at d3
                   exact⟨.inl ⟨d3,rfl⟩,bS⟩
               · have h7':=jC h7
                 conv=>whnf
                 repeat (refine⟨⟨_,rfl⟩,?_⟩;conv=>whnf)
                 refine aA (fun h9=> ?_) (fun h9=> ?_)
                 · have h9':=of_decide_eq_true h9
                   conv=>whnf
                   repeat (refine⟨⟨_,rfl⟩,?_⟩;conv=>whnf)
                   rw [if_neg (by omega)]at d3
                   exact⟨.inl ⟨d3,rfl⟩,bS⟩
                 · have h9':=of_decide_eq_false h9
                   conv=>whnf
                   repeat (refine⟨⟨_,rfl⟩,?_⟩;conv=>whnf)
                   rw [if_pos (by omega)]at d3
                   subst hz
                   exact⟨.inr ⟨R,_,d3,by decide,by omega,rfl⟩,bS⟩
             · have h6':=kE h6
               conv=>whnf
               repeat (refine⟨⟨_,rfl⟩,?_⟩;conv=>whnf)
               rw [if_neg (by omega)]at d3
               exact⟨.inl ⟨d3,rfl⟩,bS⟩
         · rw [hw]at k3
           conv=>whnf
           repeat (refine⟨⟨_,rfl⟩,?_⟩;conv=>whnf)
           refine aA (fun m2=> ?_) (fun m2=> ?_)
           · rw [hw]at m2
             conv=>whnf
             repeat (refine⟨⟨_,rfl⟩,?_⟩;conv=>whnf)
             refine aA (fun m3=> ?_) (fun m3=> ?_)
             · rw [hw]at m3
               replace d4:=d4 (by simp at h1 m2 m3;omega)
               clear d1 d2 d3 db
               conv=>whnf
               repeat (refine⟨⟨_,rfl⟩,?_⟩;conv=>whnf)
               refine aA (fun h4=> ?_) (fun h4=> ?_)
               · conv=>whnf
                 repeat (refine⟨⟨_,rfl⟩,?_⟩;conv=>whnf)
                 rw [if_neg (by simp at h4;omega)]at d4
                 exact⟨.inl ⟨d4,rfl⟩,bS⟩
               · have h5:4<=s.size:=by simp at h4;omega
                 clear h4
                 conv=>whnf
                 repeat (refine⟨⟨_,rfl⟩,?_⟩;conv=>whnf)
                 refine aR aI 5 ?_
                 conv=>whnf
                 repeat (refine⟨⟨_,rfl⟩,?_⟩;conv=>whnf)
                 refine aE (by simp;omega) ?_
                 rw [show Int.toNat 1=1 from rfl,eV]
                 have hy:=mW s 1
                 generalize gy:bC s 1=y at*
                 conv=>whnf
                 repeat (refine⟨⟨_,rfl⟩,?_⟩;conv=>whnf)
                 refine aA (fun hq=> ?_) (fun hq=> ?_)
                 · rw [nE ⟨y,hy⟩]at hq
                   conv=>whnf
                   repeat (refine⟨⟨_,rfl⟩,?_⟩;conv=>whnf)
                   rw [if_neg (by simp at hq;omega)]at d4
                   exact⟨.inl ⟨d4,rfl⟩,bS⟩
                 rw [nE ⟨y,hy⟩]at hq
                 have ky:y / 64=2:=by simp at hq;omega
                 clear hq
                 conv=>whnf
                 repeat (refine⟨⟨_,rfl⟩,?_⟩;conv=>whnf)
                 refine aE (by simp;omega) ?_
                 rw [show Int.toNat 1=1 from rfl,eV,gy]
                 conv=>whnf
                 repeat (refine⟨⟨_,rfl⟩,?_⟩;conv=>whnf)
                 rw [sh6 (a:=bY .and .i64 (IntKind.i64.wrap (x:Int)) 7) (R:=x % 8) (y:=y) (by omega) hy (by rw [hw,and7 ⟨x,hb0⟩])]
                 rw [show IntKind.i64.wrap (1+1)=2 from rfl]
                 refine aE (by simp;omega) ?_
                 rw [show Int.toNat 2=2 from rfl,eV]
                 have hu:=mW s 2
                 generalize gu:bC s 2=u at*
                 conv=>whnf
                 repeat (refine⟨⟨_,rfl⟩,?_⟩;conv=>whnf)
                 refine aA (fun hq=> ?_) (fun hq=> ?_)
                 · rw [nE ⟨u,hu⟩]at hq
                   conv=>whnf
                   repeat (refine⟨⟨_,rfl⟩,?_⟩;conv=>whnf)
                   rw [if_neg (by simp at hq;omega)]at d4
                   exact⟨.inl ⟨d4,rfl⟩,bS⟩
                 rw [nE ⟨u,hu⟩]at hq
                 have ku:u / 64=2:=by simp at hq;omega
                 clear hq
                 conv=>whnf
                 repeat (refine⟨⟨_,rfl⟩,?_⟩;conv=>whnf)
                 refine aE (by simp;omega) ?_
                 rw [show Int.toNat 2=2 from rfl,eV,gu]
                 conv=>whnf
                 repeat (refine⟨⟨_,rfl⟩,?_⟩;conv=>whnf)
                 rw [sh6 (a:=((x % 8*64+y % 64:Nat):Int)) (R:=x % 8*64+y % 64) (y:=u) (by omega) hu rfl]
                 rw [show IntKind.i64.wrap (2+1)=3 from rfl]
                 refine aE (by simp;omega) ?_
                 rw [show Int.toNat 3=3 from rfl,eV]
                 have hv:=mW s 3
                 generalize gv:bC s 3=v at*
                 conv=>whnf
                 repeat (refine⟨⟨_,rfl⟩,?_⟩;conv=>whnf)
                 refine aA (fun hq=> ?_) (fun hq=> ?_)
                 · rw [nE ⟨v,hv⟩]at hq
                   conv=>whnf
                   repeat (refine⟨⟨_,rfl⟩,?_⟩;conv=>whnf)
                   rw [if_neg (by simp at hq;omega)]at d4
                   exact⟨.inl ⟨d4,rfl⟩,bS⟩
                 rw [nE ⟨v,hv⟩]at hq
                 have kv:v / 64=2:=by simp at hq;omega
                 clear hq
                 conv=>whnf
                 repeat (refine⟨⟨_,rfl⟩,?_⟩;conv=>whnf)
                 refine aE (by simp;omega) ?_
                 rw [show Int.toNat 3=3 from rfl,eV,gv]
                 conv=>whnf
                 repeat (refine⟨⟨_,rfl⟩,?_⟩;conv=>whnf)
                 rw [sh6 (a:=(((x % 8*64+y % 64)*64+u % 64:Nat):Int)) (R:=(x % 8*64+y % 64)*64+u % 64) (y:=v) (by omega) hv rfl,show ((x % 8*64+y % 64)*64+u % 64)*64+v % 64=x % 8*262144+y % 64*4096+u % 64*64+v % 64 by omega]
                 generalize hR:x % 8*262144+y % 64*4096+u % 64*64+v % 64=R at*
                 generalize hz:(R:Int)=z
                 refine aA (fun h6=> ?_) (fun h6=> ?_)
                 · have h6':=lU h6
                   conv=>whnf
                   repeat (refine⟨⟨_,rfl⟩,?_⟩;conv=>whnf)
                   refine aA (fun h7=> ?_) (fun h7=> ?_)
                   · have h7':=wN h7
                     conv=>whnf
                     repeat (refine⟨⟨_,rfl⟩,?_⟩;conv=>whnf)
                     refine aA (fun h8=> ?_) (fun h8=> ?_)
                     · have h8':=lU h8
                       conv=>whnf
                       repeat (refine⟨⟨_,rfl⟩,?_⟩;conv=>whnf)
                       refine aA (fun h9=> ?_) (fun h9=> ?_)
                       · have h9':=of_decide_eq_true h9
                         conv=>whnf
                         repeat (refine⟨⟨_,rfl⟩,?_⟩;conv=>whnf)
                         rw [if_neg (by omega)]at d4
                         exact⟨.inl ⟨d4,rfl⟩,bS⟩
                       · have h9':=of_decide_eq_false h9
                         conv=>whnf
                         repeat (refine⟨⟨_,rfl⟩,?_⟩;conv=>whnf)
                         rw [if_pos (by omega)]at d4
                         subst hz
                         exact⟨.inr ⟨R,_,d4,by decide,by omega,rfl⟩,bS⟩
                     · have h8':=kE h8
                       conv=>whnf
                       repeat (refine⟨⟨_,rfl⟩,?_⟩;conv=>whnf)
                       rw [if_neg (by omega)]at d4
                       exact⟨.inl ⟨d4,rfl⟩,bS⟩
                   · have h7':=jC h7
                     conv=>whnf
                     repeat (refine⟨⟨_,rfl⟩,?_⟩;conv=>whnf)
                     refine aA (fun h9=> ?_) (fun h9=> ?_)
                     · have h9':=of_decide_eq_true h9
                       conv=>whnf
                       repeat (refine⟨⟨_,rfl⟩,?_⟩;conv=>whnf)
                       rw [if_neg (by omega)]at d4
                       exact⟨.inl ⟨d4,rfl⟩,bS⟩
                     · have h9':=of_decide_eq_false h9
                       conv=>whnf
                       repeat (refine⟨⟨_,rfl⟩,?_⟩;conv=>whnf)
                       rw [if_pos (by omega)]at d4
                       subst hz
                       exact⟨.inr ⟨R,_,d4,by decide,by omega,rfl⟩,bS⟩
                 · have h6':=kE h6
                   conv=>whnf
                   repeat (refine⟨⟨_,rfl⟩,?_⟩;conv=>whnf)
                   rw [if_neg (by omega)]at d4
                   exact⟨.inl ⟨d4,rfl⟩,bS⟩
             · rw [hw]at m3
               conv=>whnf
               repeat (refine⟨⟨_,rfl⟩,?_⟩;conv=>whnf)
               exact⟨.inl ⟨db (by simp at h1 m3;omega),rfl⟩,bS⟩
           · rw [hw]at m2
             conv=>whnf
             repeat (refine⟨⟨_,rfl⟩,?_⟩;conv=>whnf)
             exact⟨.inl ⟨db (by simp at *;omega),rfl⟩,bS⟩
       · rw [hw]at k2
         have kk:=jC k2
         conv=>whnf
         repeat (refine⟨⟨_,rfl⟩,?_⟩;conv=>whnf)
         refine aA (fun m2=> ?_) (fun m2=> ?_)
         · exfalso
           rw [hw]at m2
           have:=wN m2
           first
            | omega
            | (have:=jC h2;omega)
         · conv=>whnf
           repeat (refine⟨⟨_,rfl⟩,?_⟩;conv=>whnf)
           exact⟨.inl ⟨db (by
            have:=of_decide_eq_false h1
            first
             | omega
             | (have:=jC h2;omega)
             | (exfalso;have:=of_decide_eq_false h3;have:=jC k2;omega)),rfl⟩,bS⟩
   · rw [hw]at h2
     conv=>whnf
     repeat (refine⟨⟨_,rfl⟩,?_⟩;conv=>whnf)
     refine aA (fun k2=> ?_) (fun k2=> ?_)
     · exfalso
       rw [hw]at k2
       have:=jC h2
       have:=wN k2
       omega
     · conv=>whnf
       repeat (refine⟨⟨_,rfl⟩,?_⟩;conv=>whnf)
       refine aA (fun m2=> ?_) (fun m2=> ?_)
       · exfalso
         rw [hw]at m2
         have:=wN m2
         first
          | omega
          | (have:=jC h2;omega)
       · conv=>whnf
         repeat (refine⟨⟨_,rfl⟩,?_⟩;conv=>whnf)
         exact⟨.inl ⟨db (by
          have:=of_decide_eq_false h1
          first
           | omega
           | (have:=jC h2;omega)
           | (exfalso;have:=of_decide_eq_false h3;have:=jC k2;omega)),rfl⟩,bS⟩
theorem S_rune1 {m:Mem} {x:AV} {K:AV->Mem->Prop} {s t:ByteArray} {p:Nat} (hx:x= .str t) (ht:t=s.extract p s.size) (hp:p<s.size) (hs:s.size<=1000000000)
 (h1:Utf8.decode s p=(65533,1)->K (.tup [.int .i64 0,.int .i64 0]) m)
 (h2:∀ c w:Nat,Utf8.decode s p=(c,w)->1<=w->p+w<=s.size->K (.tup [.int .i64 c,.int .i64 w]) m):ACall Pg fN [x] m K:=by
 subst hx ht
 have hz:(s.extract p s.size).size=s.size - p:=by rw [ByteArray.size_extract];omega
 refine aC (S_rune10 (s.extract p s.size) (by omega) (by omega)) (.cons _ _ _ _ (aK (.str _)) .nil) ?_
 rw [dec_rest (by omega),hz]
 rintro v (⟨e,rfl⟩ | ⟨c,w,e,g1,g2,rfl⟩)
 · exact h1 e
 · exact h2 c w e g1 (by omega)
end Go.Proofs.YtfolpdmbpbbimaaGreat
end

section
namespace Go.Proofs.YtfolpdmbpbbimaaGreat
open Go Go.Wit
theorem labR_end {s:ByteArray} {b p n:Nat} (h:¬ p<s.size):labR s b p n=(decide (0<n) && (!(bC s 0 == 32) && !(bC s (s.size - 1) == 32))):=by
 cases b with
 | zero=>rfl
 | succ b=>unfold labR;rw [if_neg h]
theorem S_Label0 (s:ByteArray) (hs:s.size<=1000000000):ACall Pg fO [.str s] [] (fun v _=>v= .bool (qL s)/\Flat true v):=by
 obtain⟨R,hR⟩ :∃ R,R=qL s:=⟨_,rfl⟩
 rw [<- hR]
 unfold qL at hR
 refine tB ⟨rfl,?_⟩
 conv=>whnf
 repeat (refine⟨⟨_,rfl⟩,?_⟩;conv=>whnf)
 refine bE aI (I:=fun q l m=>∃ (p n b:Nat),l= [(0,.str s),(3,.int .i64 n),(4,.int .i64 p)] /\ m= [] /\ R=labR s b p n/\s.size<=p+b/\p<=s.size/\n<=24/\n<=p/\q+p=s.size) s.size
  (l0:= [(0,.str s),(3,.int .i64 (0:Nat)),(4,.int .i64 (0:Nat))]) (m0:= []) [] ⟨0,0,s.size,rfl,rfl,hR,by omega,by omega,by omega,by omega,by omega⟩ ?_ ?_
 · exact .mk0 ⟨.eq _ _ rfl (.str _),Flat.i rfl,Flat.i rfl,trivial⟩ trivial rfl rfl
 · rintro q l m ⟨p,n,b,rfl,rfl,hR,hb,hp,hn,hnp,hq⟩
   conv=>whnf
   repeat (refine⟨⟨_,rfl⟩,?_⟩;conv=>whnf)
   refine aA (fun h1=> ?_) (fun h1=> ?_)
   · have h1:p<s.size:=by simp at h1;omega
     conv=>whnf
     repeat (refine⟨⟨_,rfl⟩,?_⟩;conv=>whnf)
     refine aE (by simp;omega) ?_
     conv=>whnf
     repeat (refine⟨⟨_,rfl⟩,?_⟩;conv=>whnf)
     refine S_rune1 (s:=s) (p:=p) rfl (by simp) h1 hs (fun e=> ?_) (fun c w e w1 w2=> ?_)
     · conv=>whnf
       repeat (refine⟨⟨_,rfl⟩,?_⟩;conv=>whnf)
       have g:R=false:=by
        obtain⟨b,rfl⟩ :∃ b',b=b'+1:=⟨b - 1,by omega⟩
        rw [hR];unfold labR;rw [if_pos h1,e];rfl
       rw [g]
       exact⟨rfl,.bool _⟩
     · obtain⟨b,rfl⟩ :∃ b',b=b'+1:=⟨b - 1,by omega⟩
       have hR2:R=if lT c then (if 24<n+1 then false else labR s b (p+w) (n+1))else false:=by
        rw [hR]
        show (if p<s.size then _ else _)=_
        rw [if_pos h1,e]
       obtain⟨zc,hzc⟩ :∃ z:Int,z=(c:Int):=⟨_,rfl⟩
       rw [<- hzc]
       conv=>whnf
       repeat (refine⟨⟨_,rfl⟩,?_⟩;conv=>whnf)
       refine bP (by simp;omega) ?_
       conv=>whnf
       repeat (refine⟨⟨_,rfl⟩,?_⟩;conv=>whnf)
       refine aA (fun k1=> ?_) (fun k1=> ?_)
       · have k1:=lU k1
         conv=>whnf
         repeat (refine⟨⟨_,rfl⟩,?_⟩;conv=>whnf)
         refine aA (fun k2=> ?_) (fun k2=> ?_)
         · have k2:=wN k2
           conv=>whnf
           repeat (refine⟨⟨_,rfl⟩,?_⟩;conv=>whnf)
           refine aA (fun k3=> ?_) (fun k3=> ?_)
           · have k3:=lU k3
             conv=>whnf
             repeat (refine⟨⟨_,rfl⟩,?_⟩;conv=>whnf)
             refine aA (fun k4=> ?_) (fun k4=> ?_)
             · have k4:zc=65533:=by simpa using k4
               conv=>whnf
               repeat (refine⟨⟨_,rfl⟩,?_⟩;conv=>whnf)
               have g:R=false:=by
                rw [hR2,if_neg]
                rw [show c=65533 by omega]
                decide
               rw [g]
               exact⟨rfl,.bool _⟩
             · have k4:¬ zc=65533:=by simpa using k4
               have hpl:lT c=true:=by
                simp only [lT,Bool.and_eq_true,Bool.or_eq_true,decide_eq_true_eq,Bool.not_eq_true',beq_eq_false_iff_ne,ne_eq]
                omega
               rw [if_pos hpl]at hR2
               have e5:IntKind.i64.wrap ((n:Int)+1)=((n+1:Nat):Int):=by rw [w64 (by omega) (by omega)];omega
               have e6:IntKind.i64.wrap ((p:Int)+(w:Int))=((p+w:Nat):Int):=by rw [w64 (by omega) (by omega)];omega
               conv=>whnf
               repeat (refine⟨⟨_,rfl⟩,?_⟩;conv=>whnf)
               rw [e5]
               refine aA (fun k5=> ?_) (fun k5=> ?_)
               · have k5:=of_decide_eq_true k5
                 conv=>whnf
                 repeat (refine⟨⟨_,rfl⟩,?_⟩;conv=>whnf)
                 rw [if_pos (by omega)]at hR2
                 rw [hR2]
                 exact⟨rfl,.bool _⟩
               · have k5:=of_decide_eq_false k5
                 conv=>whnf
                 repeat (refine⟨⟨_,rfl⟩,?_⟩;conv=>whnf)
                 rw [if_neg (by omega)]at hR2
                 refine⟨q - w,[(0,.str s),(3,.int .i64 ((n+1:Nat):Int)),(4,.int .i64 ((p+w:Nat):Int))],[],[],by omega,⟨p+w,n+1,b,rfl,rfl,hR2,by omega,by omega,by omega,by omega,by omega⟩,?_⟩
                 exact .mk0 ⟨.eq _ _ rfl (.str _),Flat.i rfl,Flat.i e6,trivial⟩ trivial rfl rfl
           · have k3:=kE k3
             conv=>whnf
             repeat (refine⟨⟨_,rfl⟩,?_⟩;conv=>whnf)
             have g:R=false:=by
              rw [hR2,if_neg]
              simp only [lT,Bool.and_eq_true,Bool.or_eq_true,decide_eq_true_eq,Bool.not_eq_true']
              omega
             rw [g]
             exact⟨rfl,.bool _⟩
         · have k2:=jC k2
           conv=>whnf
           repeat (refine⟨⟨_,rfl⟩,?_⟩;conv=>whnf)
           refine aA (fun k4=> ?_) (fun k4=> ?_)
           · have k4:zc=65533:=by simpa using k4
             conv=>whnf
             repeat (refine⟨⟨_,rfl⟩,?_⟩;conv=>whnf)
             have g:R=false:=by
              rw [hR2,if_neg]
              rw [show c=65533 by omega]
              decide
             rw [g]
             exact⟨rfl,.bool _⟩
           · have k4:¬ zc=65533:=by simpa using k4
             have hpl:lT c=true:=by
              simp only [lT,Bool.and_eq_true,Bool.or_eq_true,decide_eq_true_eq,Bool.not_eq_true',beq_eq_false_iff_ne,ne_eq]
              omega
             rw [if_pos hpl]at hR2
             have e5:IntKind.i64.wrap ((n:Int)+1)=((n+1:Nat):Int):=by rw [w64 (by omega) (by omega)];omega
             have e6:IntKind.i64.wrap ((p:Int)+(w:Int))=((p+w:Nat):Int):=by rw [w64 (by omega) (by omega)];omega
             conv=>whnf
             repeat (refine⟨⟨_,rfl⟩,?_⟩;conv=>whnf)
             rw [e5]
             refine aA (fun k5=> ?_) (fun k5=> ?_)
             · have k5:=of_decide_eq_true k5
               conv=>whnf
               repeat (refine⟨⟨_,rfl⟩,?_⟩;conv=>whnf)
               rw [if_pos (by omega)]at hR2
               rw [hR2]
               exact⟨rfl,.bool _⟩
             · have k5:=of_decide_eq_false k5
               conv=>whnf
               repeat (refine⟨⟨_,rfl⟩,?_⟩;conv=>whnf)
               rw [if_neg (by omega)]at hR2
               refine⟨q - w,[(0,.str s),(3,.int .i64 ((n+1:Nat):Int)),(4,.int .i64 ((p+w:Nat):Int))],[],[],by omega,⟨p+w,n+1,b,rfl,rfl,hR2,by omega,by omega,by omega,by omega,by omega⟩,?_⟩
               exact .mk0 ⟨.eq _ _ rfl (.str _),Flat.i rfl,Flat.i e6,trivial⟩ trivial rfl rfl
       · have k1:=kE k1
         conv=>whnf
         repeat (refine⟨⟨_,rfl⟩,?_⟩;conv=>whnf)
         have g:R=false:=by
          rw [hR2,if_neg]
          simp only [lT,Bool.and_eq_true,Bool.or_eq_true,decide_eq_true_eq,Bool.not_eq_true']
          omega
         rw [g]
         exact⟨rfl,.bool _⟩
   · have h1:¬ p<s.size:=by simp at h1;omega
     rw [labR_end h1]at hR
     conv=>whnf
     repeat (refine⟨⟨_,rfl⟩,?_⟩;conv=>whnf)
     refine aA (fun k1=> ?_) (fun k1=> ?_)
     · have k1:=wN k1
       conv=>whnf
       repeat (refine⟨⟨_,rfl⟩,?_⟩;conv=>whnf)
       refine aE (by simp;omega) ?_
       rw [show Int.toNat 0=0 from rfl,eV]
       conv=>whnf
       repeat (refine⟨⟨_,rfl⟩,?_⟩;conv=>whnf)
       have e7:IntKind.i64.wrap ((s.size:Int) - 1)=((s.size - 1:Nat):Int):=by rw [w64 (by omega) (by omega)];omega
       rw [decide_eq_true (p:=0<n) (by omega),Bool.true_and]at hR
       refine aA (fun k2=> ?_) (fun k2=> ?_)
       · have k2:¬ bC s 0=32:=by simp at k2;omega
         conv=>whnf
         repeat (refine⟨⟨_,rfl⟩,?_⟩;conv=>whnf)
         rw [e7]
         refine aE (by simp;omega) ?_
         rw [Int.toNat_natCast,eV]
         conv=>whnf
         repeat (refine⟨⟨_,rfl⟩,?_⟩;conv=>whnf)
         have g:R=((bC s (s.size - 1):Int) != 32):=by
          rw [hR]
          have:(bC s 0 == 32)=false:=by simpa using k2
          rw [this,Bool.not_false,Bool.true_and]
          by_cases h9:bC s (s.size - 1)=32
          · rw [h9];rfl
          · have h10:¬ ((bC s (s.size - 1):Nat):Int)=32:=by omega
            rw [beq_eq_false_iff_ne.2 h9,(bne_iff_ne (a:=((bC s (s.size - 1):Nat):Int)) (b:=32)).2 h10];rfl
         rw [g]
         exact⟨rfl,.bool _⟩
       · have k2:bC s 0=32:=by simp at k2;omega
         conv=>whnf
         repeat (refine⟨⟨_,rfl⟩,?_⟩;conv=>whnf)
         have g:R=false:=by rw [hR,k2];rfl
         rw [g]
         exact⟨rfl,.bool _⟩
     · have k1:=jC k1
       conv=>whnf
       repeat (refine⟨⟨_,rfl⟩,?_⟩;conv=>whnf)
       have g:R=false:=by rw [hR,decide_eq_false (p:=0<n) (by omega)];rfl
       rw [g]
       exact⟨rfl,.bool _⟩
theorem S_Label {m:Mem} {K:AV->Mem->Prop} {s:ByteArray} (hs:s.size<=1000000000) (h:K (.bool (qL s)) m):ACall Pg fO [.str s] m K:=by
 refine aC (S_Label0 s hs) (.cons _ _ _ _ (aK (.str _)) .nil) ?_
 rintro v rfl
 exact h
end Go.Proofs.YtfolpdmbpbbimaaGreat
end

section
namespace Go.Proofs.YtfolpdmbpbbimaaGreat
open Go Go.Wit
structure AcT where
 k:Int
 i:Bool
 x:Nat
 y:Nat
 s:ByteArray
 ns:Nat
 S:Nat->Nat->Int
 nc:Nat
 I:Nat->Bool
 X:Nat->Nat
 Y:Nat->Nat
 ag:Int
 c:Nat
 r:Nat
def nX (S:Nat->Nat->Int):Nat->Nat->AV:=fun i j=> .int .u8 (S i j)
theorem uP {nv:Bool} {S:Nat->Nat->Int} {i j:Nat}:Flat nv (nX S i j):= .int _ _
theorem jY {n cap:Nat} {S:Nat->Nat->Int}:Flat false (.vsl 32 n cap (nX S)):= .vsl _ _ _ _ rfl fun _ _ _ _=>uP
theorem pF {n cap:Nat} {I:Nat->Bool} {X Y:Nat->Nat}:Flat false (.vsl 9 n cap (kQ I X Y)):= .vsl _ _ _ _ rfl fun _ _ _ _=>jE
def actV (k:Int) (i:Bool) (x y:Nat) (s:ByteArray) (ns c1:Nat) (S:Nat->Nat->Int) (nc c2:Nat) (I:Nat->Bool) (X Y:Nat->Nat) (ag:Int) (c r:Nat):AV:=actA k i x y s (.vsl 32 ns c1 (nX S)) (.vsl 9 nc c2 (kQ I X Y)) ag c r
def eqP9 (i:Bool) (x y:Nat) (j:Bool) (u v:Nat):Bool:=(i == j && (lim x 0 == lim u 0 && (lim x 1 == lim u 1 && (lim x 2 == lim u 2 && (lim x 3 == lim u 3 && (lim y 0 == lim v 0 && (lim y 1 == lim v 1 && (lim y 2 == lim v 2 && (lim y 3 == lim v 3 && true)))))))))
def eqR8 (c r d e:Nat):Bool:=(lim c 0 == lim d 0 && (lim c 1 == lim d 1 && (lim c 2 == lim d 2 && (lim c 3 == lim d 3 && (lim r 0 == lim e 0 && (lim r 1 == lim e 1 && (lim r 2 == lim e 2 && (lim r 3 == lim e 3 && true))))))))
theorem eqP9_refl {i:Bool} {x y:Nat}:eqP9 i x y i x y=true:=by simp [eqP9]
theorem eqR8_refl {c r:Nat}:eqR8 c r c r=true:=by simp [eqR8]
theorem eqR8_X {c r d e:Nat}:eqR8 c r d e=(eqX c d && eqX r e):=by
 simp only [eqR8,eqX,Bool.and_true,Bool.and_assoc]
theorem eqP9_X {i j:Bool} {x y u v:Nat}:eqP9 i x y j u v=(i == j && (eqX x u && eqX y v)):=by
 simp only [eqP9,eqX,Bool.and_true,Bool.and_assoc]
theorem zF {i j:Bool} {x y u v:Nat} (hx:x<w256) (hy:y<w256) (hu:u<w256) (hv:v<w256):eqP9 i x y j u v=true ↔ (i=j/\x=u/\y=v):=by
 rw [eqP9_X,mU hx hu,mU hy hv];simp
theorem eqR8_iff {c r d e:Nat} (hc:c<w256) (hr:r<w256) (hd:d<w256) (he:e<w256):eqR8 c r d e=true ↔ (c=d/\r=e):=by
 rw [eqR8_X,mU hc hd,mU hr he];simp
def empP (k:Int) (i:Bool) (x y:Nat) (s:ByteArray) (ns nc:Nat) (ag:Int) (c r:Nat):Prop:=
 ((k=1\/k=3\/k=4)\/(i=false/\x=0/\y=0))/\(k=1\/s.toList=nB.toList)/\(k=2\/ns=0)/\(k=2\/nc=0)/\(k=3\/ag=0)/\((k=3\/k=4)\/(c=0/\r=0))
theorem S_empty_1 (k:Int) (hk:k=1) (i:Bool) (x y:Nat) (s:ByteArray) (ns c1:Nat) (S:Nat->Nat->Int) (nc c2:Nat) (I:Nat->Bool) (X Y:Nat->Nat) (ag:Int) (c r:Nat) (hx:x<w256) (hy:y<w256) (hc:c<w256) (hr:r<w256):
    ACall Pg fF [actV k i x y s ns c1 S nc c2 I X Y ag c r] [] (fun v _=>(empP k i x y s ns nc ag c r/\v= .bool true)\/(¬ empP k i x y s ns nc ag c r/\v= .bool false)):=by
  subst hk
  refine kP ⟨rfl,?_⟩
  conv=>whnf
  repeat (refine⟨⟨_,rfl⟩,?_⟩;conv=>whnf)
  refine eN ⟨rfl,?_⟩
  conv=>whnf
  repeat (refine⟨⟨_,rfl⟩,?_⟩;conv=>whnf)
  refine kO ⟨rfl,?_⟩
  conv=>whnf
  repeat (refine⟨⟨_,rfl⟩,?_⟩;conv=>whnf)
  refine bP (Eq.trans (b:=(eqP9 i x y i x y == true)) rfl (by rw [eqP9_refl];rfl)) ?_
  conv=>whnf
  repeat (refine⟨⟨_,rfl⟩,?_⟩;conv=>whnf)
  refine bP (Eq.trans (b:=((s.toList == s.toList) == true)) rfl (by simp)) ?_
  conv=>whnf
  repeat (refine⟨⟨_,rfl⟩,?_⟩;conv=>whnf)
  refine aA (fun hq=> ?_) (fun hq=> ?_)
  rotate_left
  · have hns:¬ ns=0:=by simp at hq;omega
    conv=>whnf
    repeat (refine⟨⟨_,rfl⟩,?_⟩;conv=>whnf)
    exact .inr ⟨by unfold empP;simp [hns],rfl⟩
  have hns:ns=0:=by simp at hq;omega
  clear hq
  conv=>whnf
  repeat (refine⟨⟨_,rfl⟩,?_⟩;conv=>whnf)
  refine aA (fun hq=> ?_) (fun hq=> ?_)
  rotate_left
  · have hnc:¬ nc=0:=by simp at hq;omega
    conv=>whnf
    repeat (refine⟨⟨_,rfl⟩,?_⟩;conv=>whnf)
    exact .inr ⟨by unfold empP;simp [hnc],rfl⟩
  have hnc:nc=0:=by simp at hq;omega
  clear hq
  conv=>whnf
  repeat (refine⟨⟨_,rfl⟩,?_⟩;conv=>whnf)
  refine aA (fun hq=> ?_) (fun hq=> ?_)
  rotate_left
  · replace hq:((ag == 0) == true)=false:=Eq.trans rfl hq
    have hag:¬ ag=0:=by simpa using hq
    conv=>whnf
    repeat (refine⟨⟨_,rfl⟩,?_⟩;conv=>whnf)
    exact .inr ⟨by unfold empP;simp [hag],rfl⟩
  replace hq:((ag == 0) == true)=true:=Eq.trans rfl hq
  have hag:ag=0:=by simpa using hq
  clear hq
  conv=>whnf
  repeat (refine⟨⟨_,rfl⟩,?_⟩;conv=>whnf)
  have hE:=eqR8_iff hc hr (d:=0) (e:=0) (by decide) (by decide)
  cases hq:eqR8 c r 0 0 with
  | true =>
    obtain⟨q1,q2⟩:=hE.1 hq
    refine .inl ⟨by unfold empP;simp [*],?_⟩
    show AV.bool (eqR8 c r 0 0)=_
    rw [hq]
  | false =>
    have q2:¬ (c=0/\r=0):=fun h=>by rw [hE.2 h]at hq;cases hq
    refine .inr ⟨fun h=>by
      unfold empP at h
      rcases h.2.2.2.2.2 with h | h
      · exact absurd h (by decide)
      · exact q2 h,?_⟩
    show AV.bool (eqR8 c r 0 0)=_
    rw [hq]
theorem S_empty_2 (k:Int) (hk:k=2) (i:Bool) (x y:Nat) (s:ByteArray) (ns c1:Nat) (S:Nat->Nat->Int) (nc c2:Nat) (I:Nat->Bool) (X Y:Nat->Nat) (ag:Int) (c r:Nat) (hx:x<w256) (hy:y<w256) (hc:c<w256) (hr:r<w256):
    ACall Pg fF [actV k i x y s ns c1 S nc c2 I X Y ag c r] [] (fun v _=>(empP k i x y s ns nc ag c r/\v= .bool true)\/(¬ empP k i x y s ns nc ag c r/\v= .bool false)):=by
  subst hk
  refine kP ⟨rfl,?_⟩
  conv=>whnf
  repeat (refine⟨⟨_,rfl⟩,?_⟩;conv=>whnf)
  refine eN ⟨rfl,?_⟩
  conv=>whnf
  repeat (refine⟨⟨_,rfl⟩,?_⟩;conv=>whnf)
  refine kO ⟨rfl,?_⟩
  conv=>whnf
  repeat (refine⟨⟨_,rfl⟩,?_⟩;conv=>whnf)
  refine aA (fun hk=> ?_) (fun hk=> ?_)
  rotate_left
  · replace hk:(eqP9 i x y false 0 0 == true)=false:=Eq.trans rfl hk
    have hk2:¬ (i=false/\x=0/\y=0):=fun h=>by
      rw [(zF hx hy (by decide) (by decide)).2 h]at hk;cases hk
    conv=>whnf
    repeat (refine⟨⟨_,rfl⟩,?_⟩;conv=>whnf)
    exact .inr ⟨fun h=>by
      unfold empP at h
      rcases h.1 with h | h
      · exact absurd h (by decide)
      · exact hk2 h,rfl⟩
  replace hk:(eqP9 i x y false 0 0 == true)=true:=Eq.trans rfl hk
  have hk2:i=false/\x=0/\y=0:=(zF hx hy (by decide) (by decide)).1 (by simpa using hk)
  clear hk
  conv=>whnf
  repeat (refine⟨⟨_,rfl⟩,?_⟩;conv=>whnf)
  refine aA (fun hk=> ?_) (fun hk=> ?_)
  rotate_left
  · replace hk:((s.toList == nB.toList) == true)=false:=Eq.trans rfl hk
    have hl2:¬ (s.toList=nB.toList):=fun h=>by rw [h]at hk;simp at hk
    conv=>whnf
    repeat (refine⟨⟨_,rfl⟩,?_⟩;conv=>whnf)
    exact .inr ⟨fun h=>by
      unfold empP at h
      rcases h.2.1 with h | h
      · exact absurd h (by decide)
      · exact hl2 h,rfl⟩
  replace hk:((s.toList == nB.toList) == true)=true:=Eq.trans rfl hk
  have hl2:s.toList=nB.toList:=by simpa using hk
  clear hk
  conv=>whnf
  repeat (refine⟨⟨_,rfl⟩,?_⟩;conv=>whnf)
  refine bP (by simp) ?_
  conv=>whnf
  repeat (refine⟨⟨_,rfl⟩,?_⟩;conv=>whnf)
  refine bP (by simp) ?_
  conv=>whnf
  repeat (refine⟨⟨_,rfl⟩,?_⟩;conv=>whnf)
  refine aA (fun hq=> ?_) (fun hq=> ?_)
  rotate_left
  · replace hq:((ag == 0) == true)=false:=Eq.trans rfl hq
    have hag:¬ ag=0:=by simpa using hq
    conv=>whnf
    repeat (refine⟨⟨_,rfl⟩,?_⟩;conv=>whnf)
    exact .inr ⟨by unfold empP;simp [hag],rfl⟩
  replace hq:((ag == 0) == true)=true:=Eq.trans rfl hq
  have hag:ag=0:=by simpa using hq
  clear hq
  conv=>whnf
  repeat (refine⟨⟨_,rfl⟩,?_⟩;conv=>whnf)
  have hE:=eqR8_iff hc hr (d:=0) (e:=0) (by decide) (by decide)
  cases hq:eqR8 c r 0 0 with
  | true =>
    obtain⟨q1,q2⟩:=hE.1 hq
    refine .inl ⟨by unfold empP;simp [*],?_⟩
    show AV.bool (eqR8 c r 0 0)=_
    rw [hq]
  | false =>
    have q2:¬ (c=0/\r=0):=fun h=>by rw [hE.2 h]at hq;cases hq
    refine .inr ⟨fun h=>by
      unfold empP at h
      rcases h.2.2.2.2.2 with h | h
      · exact absurd h (by decide)
      · exact q2 h,?_⟩
    show AV.bool (eqR8 c r 0 0)=_
    rw [hq]
theorem S_empty_3 (k:Int) (hk:k=3) (i:Bool) (x y:Nat) (s:ByteArray) (ns c1:Nat) (S:Nat->Nat->Int) (nc c2:Nat) (I:Nat->Bool) (X Y:Nat->Nat) (ag:Int) (c r:Nat) (hx:x<w256) (hy:y<w256) (hc:c<w256) (hr:r<w256):
 ACall Pg fF [actV k i x y s ns c1 S nc c2 I X Y ag c r] [] (fun v _=>(empP k i x y s ns nc ag c r/\v= .bool true)\/(¬ empP k i x y s ns nc ag c r/\v= .bool false)):=by
 subst hk
 refine kP ⟨rfl,?_⟩
 conv=>whnf
 repeat (refine⟨⟨_,rfl⟩,?_⟩;conv=>whnf)
 refine eN ⟨rfl,?_⟩
 conv=>whnf
 repeat (refine⟨⟨_,rfl⟩,?_⟩;conv=>whnf)
 refine kO ⟨rfl,?_⟩
 conv=>whnf
 repeat (refine⟨⟨_,rfl⟩,?_⟩;conv=>whnf)
 refine bP (Eq.trans (b:=(eqP9 i x y i x y == true)) rfl (by rw [eqP9_refl];rfl)) ?_
 conv=>whnf
 repeat (refine⟨⟨_,rfl⟩,?_⟩;conv=>whnf)
 refine aA (fun hk=> ?_) (fun hk=> ?_)
 rotate_left
 · replace hk:((s.toList == nB.toList) == true)=false:=Eq.trans rfl hk
   have hl2:¬ (s.toList=nB.toList):=fun h=>by rw [h]at hk;simp at hk
   conv=>whnf
   repeat (refine⟨⟨_,rfl⟩,?_⟩;conv=>whnf)
   exact .inr ⟨fun h=>by
    unfold empP at h
    rcases h.2.1 with h | h
    · exact absurd h (by decide)
    · exact hl2 h,rfl⟩
 replace hk:((s.toList == nB.toList) == true)=true:=Eq.trans rfl hk
 have hl2:s.toList=nB.toList:=by simpa using hk
 clear hk
 conv=>whnf
 repeat (refine⟨⟨_,rfl⟩,?_⟩;conv=>whnf)
 refine aA (fun hq=> ?_) (fun hq=> ?_)
 rotate_left
 · have hns:¬ ns=0:=by simp at hq;omega
   conv=>whnf
   repeat (refine⟨⟨_,rfl⟩,?_⟩;conv=>whnf)
   exact .inr ⟨by unfold empP;simp [hns],rfl⟩
 have hns:ns=0:=by simp at hq;omega
 clear hq
 conv=>whnf
 repeat (refine⟨⟨_,rfl⟩,?_⟩;conv=>whnf)
 refine aA (fun hq=> ?_) (fun hq=> ?_)
 rotate_left
 · have hnc:¬ nc=0:=by simp at hq;omega
   conv=>whnf
   repeat (refine⟨⟨_,rfl⟩,?_⟩;conv=>whnf)
   exact .inr ⟨by unfold empP;simp [hnc],rfl⟩
 have hnc:nc=0:=by simp at hq;omega
 clear hq
 conv=>whnf
 repeat (refine⟨⟨_,rfl⟩,?_⟩;conv=>whnf)
 refine bP (Eq.trans (b:=((ag == ag) == true)) rfl (by simp)) ?_
 conv=>whnf
 repeat (refine⟨⟨_,rfl⟩,?_⟩;conv=>whnf)
 refine .inl ⟨by unfold empP;simp [*],?_⟩
 show AV.bool (eqR8 c r c r)=_
 rw [eqR8_refl]
theorem S_empty_4 (k:Int) (hk:k=4) (i:Bool) (x y:Nat) (s:ByteArray) (ns c1:Nat) (S:Nat->Nat->Int) (nc c2:Nat) (I:Nat->Bool) (X Y:Nat->Nat) (ag:Int) (c r:Nat) (hx:x<w256) (hy:y<w256) (hc:c<w256) (hr:r<w256):
 ACall Pg fF [actV k i x y s ns c1 S nc c2 I X Y ag c r] [] (fun v _=>(empP k i x y s ns nc ag c r/\v= .bool true)\/(¬ empP k i x y s ns nc ag c r/\v= .bool false)):=by
 subst hk
 refine kP ⟨rfl,?_⟩
 conv=>whnf
 repeat (refine⟨⟨_,rfl⟩,?_⟩;conv=>whnf)
 refine eN ⟨rfl,?_⟩
 conv=>whnf
 repeat (refine⟨⟨_,rfl⟩,?_⟩;conv=>whnf)
 refine kO ⟨rfl,?_⟩
 conv=>whnf
 repeat (refine⟨⟨_,rfl⟩,?_⟩;conv=>whnf)
 refine bP (Eq.trans (b:=(eqP9 i x y i x y == true)) rfl (by rw [eqP9_refl];rfl)) ?_
 conv=>whnf
 repeat (refine⟨⟨_,rfl⟩,?_⟩;conv=>whnf)
 refine aA (fun hk=> ?_) (fun hk=> ?_)
 rotate_left
 · replace hk:((s.toList == nB.toList) == true)=false:=Eq.trans rfl hk
   have hl2:¬ (s.toList=nB.toList):=fun h=>by rw [h]at hk;simp at hk
   conv=>whnf
   repeat (refine⟨⟨_,rfl⟩,?_⟩;conv=>whnf)
   exact .inr ⟨fun h=>by
    unfold empP at h
    rcases h.2.1 with h | h
    · exact absurd h (by decide)
    · exact hl2 h,rfl⟩
 replace hk:((s.toList == nB.toList) == true)=true:=Eq.trans rfl hk
 have hl2:s.toList=nB.toList:=by simpa using hk
 clear hk
 conv=>whnf
 repeat (refine⟨⟨_,rfl⟩,?_⟩;conv=>whnf)
 refine aA (fun hq=> ?_) (fun hq=> ?_)
 rotate_left
 · have hns:¬ ns=0:=by simp at hq;omega
   conv=>whnf
   repeat (refine⟨⟨_,rfl⟩,?_⟩;conv=>whnf)
   exact .inr ⟨by unfold empP;simp [hns],rfl⟩
 have hns:ns=0:=by simp at hq;omega
 clear hq
 conv=>whnf
 repeat (refine⟨⟨_,rfl⟩,?_⟩;conv=>whnf)
 refine aA (fun hq=> ?_) (fun hq=> ?_)
 rotate_left
 · have hnc:¬ nc=0:=by simp at hq;omega
   conv=>whnf
   repeat (refine⟨⟨_,rfl⟩,?_⟩;conv=>whnf)
   exact .inr ⟨by unfold empP;simp [hnc],rfl⟩
 have hnc:nc=0:=by simp at hq;omega
 clear hq
 conv=>whnf
 repeat (refine⟨⟨_,rfl⟩,?_⟩;conv=>whnf)
 refine aA (fun hq=> ?_) (fun hq=> ?_)
 rotate_left
 · replace hq:((ag == 0) == true)=false:=Eq.trans rfl hq
   have hag:¬ ag=0:=by simpa using hq
   conv=>whnf
   repeat (refine⟨⟨_,rfl⟩,?_⟩;conv=>whnf)
   exact .inr ⟨by unfold empP;simp [hag],rfl⟩
 replace hq:((ag == 0) == true)=true:=Eq.trans rfl hq
 have hag:ag=0:=by simpa using hq
 clear hq
 conv=>whnf
 repeat (refine⟨⟨_,rfl⟩,?_⟩;conv=>whnf)
 refine .inl ⟨by unfold empP;simp [*],?_⟩
 show AV.bool (eqR8 c r c r)=_
 rw [eqR8_refl]
theorem S_empty_5 (k:Int) (hk:k=5) (i:Bool) (x y:Nat) (s:ByteArray) (ns c1:Nat) (S:Nat->Nat->Int) (nc c2:Nat) (I:Nat->Bool) (X Y:Nat->Nat) (ag:Int) (c r:Nat) (hx:x<w256) (hy:y<w256) (hc:c<w256) (hr:r<w256):
    ACall Pg fF [actV k i x y s ns c1 S nc c2 I X Y ag c r] [] (fun v _=>(empP k i x y s ns nc ag c r/\v= .bool true)\/(¬ empP k i x y s ns nc ag c r/\v= .bool false)):=by
  subst hk
  refine kP ⟨rfl,?_⟩
  conv=>whnf
  repeat (refine⟨⟨_,rfl⟩,?_⟩;conv=>whnf)
  refine eN ⟨rfl,?_⟩
  conv=>whnf
  repeat (refine⟨⟨_,rfl⟩,?_⟩;conv=>whnf)
  refine kO ⟨rfl,?_⟩
  conv=>whnf
  repeat (refine⟨⟨_,rfl⟩,?_⟩;conv=>whnf)
  refine aA (fun hk=> ?_) (fun hk=> ?_)
  rotate_left
  · replace hk:(eqP9 i x y false 0 0 == true)=false:=Eq.trans rfl hk
    have hk2:¬ (i=false/\x=0/\y=0):=fun h=>by
      rw [(zF hx hy (by decide) (by decide)).2 h]at hk;cases hk
    conv=>whnf
    repeat (refine⟨⟨_,rfl⟩,?_⟩;conv=>whnf)
    exact .inr ⟨fun h=>by
      unfold empP at h
      rcases h.1 with h | h
      · exact absurd h (by decide)
      · exact hk2 h,rfl⟩
  replace hk:(eqP9 i x y false 0 0 == true)=true:=Eq.trans rfl hk
  have hk2:i=false/\x=0/\y=0:=(zF hx hy (by decide) (by decide)).1 (by simpa using hk)
  clear hk
  conv=>whnf
  repeat (refine⟨⟨_,rfl⟩,?_⟩;conv=>whnf)
  refine aA (fun hk=> ?_) (fun hk=> ?_)
  rotate_left
  · replace hk:((s.toList == nB.toList) == true)=false:=Eq.trans rfl hk
    have hl2:¬ (s.toList=nB.toList):=fun h=>by rw [h]at hk;simp at hk
    conv=>whnf
    repeat (refine⟨⟨_,rfl⟩,?_⟩;conv=>whnf)
    exact .inr ⟨fun h=>by
      unfold empP at h
      rcases h.2.1 with h | h
      · exact absurd h (by decide)
      · exact hl2 h,rfl⟩
  replace hk:((s.toList == nB.toList) == true)=true:=Eq.trans rfl hk
  have hl2:s.toList=nB.toList:=by simpa using hk
  clear hk
  conv=>whnf
  repeat (refine⟨⟨_,rfl⟩,?_⟩;conv=>whnf)
  refine aA (fun hq=> ?_) (fun hq=> ?_)
  rotate_left
  · have hns:¬ ns=0:=by simp at hq;omega
    conv=>whnf
    repeat (refine⟨⟨_,rfl⟩,?_⟩;conv=>whnf)
    exact .inr ⟨by unfold empP;simp [hns],rfl⟩
  have hns:ns=0:=by simp at hq;omega
  clear hq
  conv=>whnf
  repeat (refine⟨⟨_,rfl⟩,?_⟩;conv=>whnf)
  refine aA (fun hq=> ?_) (fun hq=> ?_)
  rotate_left
  · have hnc:¬ nc=0:=by simp at hq;omega
    conv=>whnf
    repeat (refine⟨⟨_,rfl⟩,?_⟩;conv=>whnf)
    exact .inr ⟨by unfold empP;simp [hnc],rfl⟩
  have hnc:nc=0:=by simp at hq;omega
  clear hq
  conv=>whnf
  repeat (refine⟨⟨_,rfl⟩,?_⟩;conv=>whnf)
  refine aA (fun hq=> ?_) (fun hq=> ?_)
  rotate_left
  · replace hq:((ag == 0) == true)=false:=Eq.trans rfl hq
    have hag:¬ ag=0:=by simpa using hq
    conv=>whnf
    repeat (refine⟨⟨_,rfl⟩,?_⟩;conv=>whnf)
    exact .inr ⟨by unfold empP;simp [hag],rfl⟩
  replace hq:((ag == 0) == true)=true:=Eq.trans rfl hq
  have hag:ag=0:=by simpa using hq
  clear hq
  conv=>whnf
  repeat (refine⟨⟨_,rfl⟩,?_⟩;conv=>whnf)
  have hE:=eqR8_iff hc hr (d:=0) (e:=0) (by decide) (by decide)
  cases hq:eqR8 c r 0 0 with
  | true =>
    obtain⟨q1,q2⟩:=hE.1 hq
    refine .inl ⟨by unfold empP;simp [*],?_⟩
    show AV.bool (eqR8 c r 0 0)=_
    rw [hq]
  | false =>
    have q2:¬ (c=0/\r=0):=fun h=>by rw [hE.2 h]at hq;cases hq
    refine .inr ⟨fun h=>by
      unfold empP at h
      rcases h.2.2.2.2.2 with h | h
      · exact absurd h (by decide)
      · exact q2 h,?_⟩
    show AV.bool (eqR8 c r 0 0)=_
    rw [hq]
end Go.Proofs.YtfolpdmbpbbimaaGreat
end

section
namespace Go.Proofs.YtfolpdmbpbbimaaGreat
open Go Go.Wit
end Go.Proofs.YtfolpdmbpbbimaaGreat
end

section
namespace Go.Proofs.YtfolpdmbpbbimaaGreat
open Go Go.Wit
def fulP (i:Bool) (x y:Nat):Prop:=i=false/\∃ P,On P/\rawA i x y=ptA P
def allP (nc:Nat) (I:Nat->Bool) (X Y:Nat->Nat):Prop:=I 0=false/\∀ j,j<nc->∃ P,On P/\rawA (I j) (X j) (Y j)=ptA P
open Classical in
noncomputable def subE (i:Bool) (x y c r:Nat):Int:=if fulP i x y then (if c<nN/\r<nN then 0 else 2)else 3
open Classical in
noncomputable def chkE (k:Int) (i:Bool) (x y:Nat) (s:ByteArray) (ns nc:Nat) (I:Nat->Bool) (X Y:Nat->Nat) (ag:Int) (c r:Nat):Int:=
 if 1<=k/\k<=5 then
  (if empP k i x y s ns nc ag c r then
   (if k=1 then (if fulP i x y then (if qL s=true then 0 else 8)else 3)
   else if k=2 then (if ns<=8/\1<=nc/\nc<=64 then (if allP nc I X Y then 0 else 3)else 4)
   else if k=3 then (if 1<=ag/\ag<=8 then subE i x y c r else 1)
   else if k=4 then subE i x y c r else 0)
  else 1)
 else 19
theorem S_apoint {m:Mem} {K:AV->Mem->Prop} {i:Bool} {x y:Nat} (hx:x<w256) (hy:y<w256) (h1:fulP i x y->K (.bool true) m) (h2:¬ fulP i x y->K (.bool false) m):ACall Pg jJ [rawA i x y] m K:=by
  have h0:ACall Pg jJ [rawA i x y] [] (fun v _=>((fulP i x y/\v= .bool true)\/(¬ fulP i x y/\v= .bool false))/\Flat true v):=by
    refine B_act_point ⟨rfl,?_⟩
    cases i with
    | true =>
      conv=>whnf
      repeat (refine⟨⟨_,rfl⟩,?_⟩;conv=>whnf)
      exact⟨.inr ⟨fun h=>(by cases h.1),rfl⟩,.bool _⟩
    | false =>
      conv=>whnf
      repeat (refine⟨⟨_,rfl⟩,?_⟩;conv=>whnf)
      refine S_Check (i:=false) hx hy (fun P oP eP=> ?_) (fun hb=> ?_)
      · conv=>whnf
        repeat (refine⟨⟨_,rfl⟩,?_⟩;conv=>whnf)
        exact⟨.inl ⟨⟨rfl,P,oP,eP⟩,rfl⟩,.bool _⟩
      · conv=>whnf
        repeat (refine⟨⟨_,rfl⟩,?_⟩;conv=>whnf)
        exact⟨.inr ⟨fun ⟨_,P,oP,eP⟩=>hb P oP eP,rfl⟩,.bool _⟩
  refine aC h0 (.cons _ _ _ _ (aK gR) .nil) ?_
  rintro v (⟨h,rfl⟩ | ⟨h,rfl⟩)
  · exact h1 h
  · exact h2 h
theorem S_aproof {m:Mem} {K:AV->Mem->Prop} {v:AV} {c r:Nat} (hv:v=prA c r) (hc:c<w256) (hr:r<w256) (h1:c<nN->r<nN->K (.bool true) m) (h2:¬ (c<nN/\r<nN)->K (.bool false) m):ACall Pg nC [v] m K:=by
 subst hv
 have h0:ACall Pg nC [prA c r] [] (fun v _=>((c<nN/\r<nN/\v= .bool true)\/(¬ (c<nN/\r<nN)/\v= .bool false))/\Flat true v):=by
  refine B_act_proof ⟨rfl,?_⟩
  conv=>whnf
  repeat (refine⟨⟨_,rfl⟩,?_⟩;conv=>whnf)
  refine S_Prime_1 (fun p hp=> ?_)
  conv=>whnf
  repeat (refine⟨⟨_,rfl⟩,?_⟩;conv=>whnf)
  refine S_LCmpE (a:=c) (b:=p) rfl rfl hc (by rw [hp];decide) (fun z1 hz1=> ?_)
  rcases rD hz1 with⟨g1,rfl⟩ | ⟨g1,rfl | rfl⟩
  · clear hz1
    conv=>whnf
    repeat (refine⟨⟨_,rfl⟩,?_⟩;conv=>whnf)
    refine S_LCmpE (a:=r) (b:=p) rfl rfl hr (by rw [hp];decide) (fun z2 hz2=> ?_)
    rcases rD hz2 with⟨g2,rfl⟩ | ⟨g2,rfl | rfl⟩
    · clear hz2
      conv=>whnf
      repeat (refine⟨⟨_,rfl⟩,?_⟩;conv=>whnf)
      exact⟨.inl ⟨by omega,by omega,rfl⟩,.bool _⟩
    · clear hz2
      conv=>whnf
      repeat (refine⟨⟨_,rfl⟩,?_⟩;conv=>whnf)
      exact⟨.inr ⟨by omega,rfl⟩,.bool _⟩
    · clear hz2
      conv=>whnf
      repeat (refine⟨⟨_,rfl⟩,?_⟩;conv=>whnf)
      exact⟨.inr ⟨by omega,rfl⟩,.bool _⟩
  · clear hz1
    conv=>whnf
    repeat (refine⟨⟨_,rfl⟩,?_⟩;conv=>whnf)
    exact⟨.inr ⟨by omega,rfl⟩,.bool _⟩
  · clear hz1
    conv=>whnf
    repeat (refine⟨⟨_,rfl⟩,?_⟩;conv=>whnf)
    exact⟨.inr ⟨by omega,rfl⟩,.bool _⟩
 refine aC h0 (.cons _ _ _ _ (aK sI) .nil) ?_
 rintro v (⟨g1,g2,rfl⟩ | ⟨g,rfl⟩)
 · exact h1 g1 g2
 · exact h2 g
def subA (i:Bool) (x y c r:Nat):AV:= .agg [.bool i,.int .u64 (lim x 0),.int .u64 (lim x 1),.int .u64 (lim x 2),.int .u64 (lim x 3),.int .u64 (lim y 0),.int .u64 (lim y 1),.int .u64 (lim y 2),.int .u64 (lim y 3),
 .int .u64 (lim c 0),.int .u64 (lim c 1),.int .u64 (lim c 2),.int .u64 (lim c 3),.int .u64 (lim r 0),.int .u64 (lim r 1),.int .u64 (lim r 2),.int .u64 (lim r 3)]
theorem flat_subA {nv:Bool} {i:Bool} {x y c r:Nat}:Flat nv (subA i x y c r):=by
 refine .agg _ (.cons _ _ (.bool _) ?_)
 repeat (first | exact .nil | refine .cons _ _ (.int _ _) ?_)
theorem S_apointE {m:Mem} {K:AV->Mem->Prop} {v:AV} {i:Bool} {x y:Nat} (hv:v=rawA i x y) (hx:x<w256) (hy:y<w256) (h1:fulP i x y->K (.bool true) m) (h2:¬ fulP i x y->K (.bool false) m):ACall Pg jJ [v] m K:=by
 subst hv;exact S_apoint hx hy h1 h2
theorem S_sub {m:Mem} {K:AV->Mem->Prop} {v:AV} {i:Bool} {x y c r:Nat} (hv:v=subA i x y c r) (hx:x<w256) (hy:y<w256) (hc:c<w256) (hr:r<w256) (h:∀ e,e=subE i x y c r->K (.int .i64 e) m):ACall Pg cQ [v] m K:=by
 subst hv
 have h0:ACall Pg cQ [subA i x y c r] [] (fun v _=>v= .int .i64 (subE i x y c r)/\Flat true v):=by
  refine pW ⟨rfl,?_⟩
  conv=>whnf
  repeat (refine⟨⟨_,rfl⟩,?_⟩;conv=>whnf)
  refine S_apointE (i:=i) (x:=x) (y:=y) rfl hx hy (fun hf=> ?_) (fun hf=> ?_)
  · conv=>whnf
    repeat (refine⟨⟨_,rfl⟩,?_⟩;conv=>whnf)
    refine S_aproof (c:=c) (r:=r) rfl hc hr (fun g1 g2=> ?_) (fun g=> ?_)
    · conv=>whnf
      repeat (refine⟨⟨_,rfl⟩,?_⟩;conv=>whnf)
      exact⟨by unfold subE;rw [if_pos hf,if_pos ⟨g1,g2⟩],.int _ _⟩
    · conv=>whnf
      repeat (refine⟨⟨_,rfl⟩,?_⟩;conv=>whnf)
      exact⟨by unfold subE;rw [if_pos hf,if_neg g],.int _ _⟩
  · conv=>whnf
    repeat (refine⟨⟨_,rfl⟩,?_⟩;conv=>whnf)
    exact⟨by unfold subE;rw [if_neg hf],.int _ _⟩
 refine aC h0 (.cons _ _ _ _ (aK flat_subA) .nil) ?_
 rintro v rfl
 exact h _ rfl
def postA (ns c1:Nat) (S:Nat->Nat->Int) (nc c2:Nat) (I:Nat->Bool) (X Y:Nat->Nat):AV:= .agg [.vsl 32 ns c1 (nX S),.vsl 9 nc c2 (kQ I X Y)]
theorem flat_postA {ns c1:Nat} {S:Nat->Nat->Int} {nc c2:Nat} {I:Nat->Bool} {X Y:Nat->Nat}:Flat false (postA ns c1 S nc c2 I X Y):= .agg _ (.cons _ _ jY (.cons _ _ pF .nil))
open Classical in
noncomputable def pstE (ns nc:Nat) (I:Nat->Bool) (X Y:Nat->Nat):Int:=if ns<=8/\1<=nc/\nc<=64 then (if allP nc I X Y then 0 else 3)else 4
theorem S_CheckE {m:Mem} {K:AV->Mem->Prop} {v:AV} {i:Bool} {x y:Nat} (hv:v=rawA i x y) (hx:x<w256) (hy:y<w256) (h1:∀ P,On P->rawA i x y=ptA P->K (.int .i64 0) m) (h2:Bad i x y->K (.int .i64 3) m):ACall Pg cP [v] m K:=by
 subst hv;exact S_Check hx hy h1 h2
theorem S_post0 (ns c1:Nat) (S:Nat->Nat->Int) (nc c2:Nat) (I:Nat->Bool) (X Y:Nat->Nat) (hX:∀ j,j<nc->X j<w256) (hY:∀ j,j<nc->Y j<w256):ACall Pg dZ [postA ns c1 S nc c2 I X Y] [] (fun v _=>v= .int .i64 (pstE ns nc I X Y)/\Flat true v):=by
 refine tN ⟨rfl,?_⟩
 conv=>whnf
 repeat (refine⟨⟨_,rfl⟩,?_⟩;conv=>whnf)
 refine aA (fun h1=> ?_) (fun h1=> ?_)
 rotate_left
 · have h1:=kE h1
   conv=>whnf
   repeat (refine⟨⟨_,rfl⟩,?_⟩;conv=>whnf)
   exact⟨by unfold pstE;rw [if_neg (by omega)],.int _ _⟩
 have h1:=lU h1
 conv=>whnf
 repeat (refine⟨⟨_,rfl⟩,?_⟩;conv=>whnf)
 refine aA (fun h2=> ?_) (fun h2=> ?_)
 rotate_left
 · have h2:=kE h2
   conv=>whnf
   repeat (refine⟨⟨_,rfl⟩,?_⟩;conv=>whnf)
   exact⟨by unfold pstE;rw [if_neg (by omega)],.int _ _⟩
 have h2:=lU h2
 conv=>whnf
 repeat (refine⟨⟨_,rfl⟩,?_⟩;conv=>whnf)
 refine aA (fun h3=> ?_) (fun h3=> ?_)
 · have h3:=of_decide_eq_true h3
   conv=>whnf
   repeat (refine⟨⟨_,rfl⟩,?_⟩;conv=>whnf)
   exact⟨by unfold pstE;rw [if_neg (by omega)],.int _ _⟩
 have h3:=of_decide_eq_false h3
 have hE1:allP nc I X Y->pstE ns nc I X Y=0:=fun h=>by unfold pstE;rw [if_pos (by omega),if_pos h]
 have hE2:¬ allP nc I X Y->pstE ns nc I X Y=3:=fun h=>by unfold pstE;rw [if_pos (by omega),if_neg h]
 conv=>whnf
 repeat (refine⟨⟨_,rfl⟩,?_⟩;conv=>whnf)
 refine bE aI (I:=fun q l m=>∃ (k:Nat),l= [(22,.vsl 9 nc c2 (kQ I X Y)),(23,.int .i64 nc),(24,.int .i64 k)] /\ m= [] /\ q+k=nc/\(0<k->I 0=false)/\∀ j,j<k->∃ P,On P/\rawA (I j) (X j) (Y j)=ptA P) nc
  (l0:= [(22,.vsl 9 nc c2 (kQ I X Y)),(23,.int .i64 nc),(24,.int .i64 (0:Nat))]) (m0:= []) [] ⟨0,rfl,rfl,rfl,fun h=>absurd h (by omega),fun j hj=>by omega⟩ ?_ ?_
 · exact .mk0 ⟨.eq _ _ rfl pF,Flat.i rfl,Flat.i rfl,trivial⟩ trivial rfl rfl
 · rintro q l m ⟨k,rfl,rfl,hq,hI,hA⟩
   conv=>whnf
   repeat (refine⟨⟨_,rfl⟩,?_⟩;conv=>whnf)
   refine aA (fun hb=> ?_) (fun hb=> ?_)
   · have hb:k<nc:=by simp at hb;omega
     conv=>whnf
     repeat (refine⟨⟨_,rfl⟩,?_⟩;conv=>whnf)
     refine aE (by simp;omega) ?_
     conv=>whnf
     repeat (refine⟨⟨_,rfl⟩,?_⟩;conv=>whnf)
     refine S_CheckE (i:=I k) (x:=X k) (y:=Y k) rfl (hX k hb) (hY k hb) (fun P oP eP=> ?_) (fun hbad=> ?_)
     · conv=>whnf
       repeat (refine⟨⟨_,rfl⟩,?_⟩;conv=>whnf)
       have e5:IntKind.i64.wrap ((k:Int)+1)=((k+1:Nat):Int):=by rw [w64 (by omega) (by omega)];omega
       have hA':∀ j,j<k+1->∃ P,On P/\rawA (I j) (X j) (Y j)=ptA P:=fun j hj=>by
        by_cases h:j=k
        · subst h;exact⟨P,oP,eP⟩
        · exact hA j (by omega)
       refine aA (fun h0=> ?_) (fun h0=> ?_)
       · have h0:k=0:=by simp at h0;omega
         conv=>whnf
         repeat (refine⟨⟨_,rfl⟩,?_⟩;conv=>whnf)
         refine aA (fun h4=> ?_) (fun h4=> ?_)
         · replace h4:I k=true:=h4
           conv=>whnf
           repeat (refine⟨⟨_,rfl⟩,?_⟩;conv=>whnf)
           exact⟨by rw [hE2 fun h=>by rw [h0,h.1]at h4;cases h4],.int _ _⟩
         · replace h4:I k=false:=h4
           conv=>whnf
           repeat (refine⟨⟨_,rfl⟩,?_⟩;conv=>whnf)
           refine⟨q - 1,[(22,.vsl 9 nc c2 (kQ I X Y)),(23,.int .i64 nc),(24,.int .i64 ((k+1:Nat):Int))],[],[],by omega,⟨k+1,rfl,rfl,by omega,fun _=>by rw [<- h0];exact h4,hA'⟩,?_⟩
           exact .mk0 ⟨.eq _ _ rfl pF,Flat.i rfl,Flat.i e5,trivial⟩ trivial rfl rfl
       · have h0:¬ k=0:=by simp at h0;omega
         conv=>whnf
         repeat (refine⟨⟨_,rfl⟩,?_⟩;conv=>whnf)
         refine⟨q - 1,[(22,.vsl 9 nc c2 (kQ I X Y)),(23,.int .i64 nc),(24,.int .i64 ((k+1:Nat):Int))],[],[],by omega,⟨k+1,rfl,rfl,by omega,fun _=>hI (by omega),hA'⟩,?_⟩
         exact .mk0 ⟨.eq _ _ rfl pF,Flat.i rfl,Flat.i e5,trivial⟩ trivial rfl rfl
     · conv=>whnf
       repeat (refine⟨⟨_,rfl⟩,?_⟩;conv=>whnf)
       exact⟨by rw [hE2 fun h=>(h.2 k hb).elim fun P hP=>hbad P hP.1 hP.2],.int _ _⟩
   · have hb:k=nc:=by simp at hb;omega
     subst hb
     conv=>whnf
     repeat (refine⟨⟨_,rfl⟩,?_⟩;conv=>whnf)
     exact⟨by rw [hE1 ⟨hI (by omega),hA⟩],.int _ _⟩
theorem S_post {m:Mem} {K:AV->Mem->Prop} {ns c1:Nat} {S:Nat->Nat->Int} {nc c2:Nat} {I:Nat->Bool} {X Y:Nat->Nat} (hX:∀ j,j<nc->X j<w256) (hY:∀ j,j<nc->Y j<w256) (h:K (.int .i64 (pstE ns nc I X Y)) m):ACall Pg dZ [postA ns c1 S nc c2 I X Y] m K:=by
 refine aC (S_post0 ns c1 S nc c2 I X Y hX hY) (.cons _ _ _ _ (aK flat_postA) .nil) ?_
 rintro v rfl
 exact h
def regA (i:Bool) (x y:Nat) (s:ByteArray):AV:= .agg [.bool i,.int .u64 (lim x 0),.int .u64 (lim x 1),.int .u64 (lim x 2),.int .u64 (lim x 3),.int .u64 (lim y 0),.int .u64 (lim y 1),.int .u64 (lim y 2),.int .u64 (lim y 3),.str s]
def dspA (ag:Int) (i:Bool) (x y c r:Nat):AV:= .agg [.int .i64 ag,.bool i,.int .u64 (lim x 0),.int .u64 (lim x 1),.int .u64 (lim x 2),.int .u64 (lim x 3),.int .u64 (lim y 0),.int .u64 (lim y 1),.int .u64 (lim y 2),.int .u64 (lim y 3),
 .int .u64 (lim c 0),.int .u64 (lim c 1),.int .u64 (lim c 2),.int .u64 (lim c 3),.int .u64 (lim r 0),.int .u64 (lim r 1),.int .u64 (lim r 2),.int .u64 (lim r 3)]
theorem ACall.weak {P:Program} {f:FuncId} {args:List AV} {m:Mem} {K K2:AV->Mem->Prop} (h:ACall P f args m K) (hk:∀ v m',K v m'->K2 v m'):ACall P f args m K2:=
 ⟨h.callable,fun C w L cargs hR hv=>(h.run C w L cargs hR hv).mono fun en w' ⟨v,m',r,L',e,hK,rest⟩=>⟨v,m',r,L',e,hk v m' hK,rest⟩⟩
theorem S_empty {k:Int} {i:Bool} {x y:Nat} {s:ByteArray} {ns c1:Nat} {S:Nat->Nat->Int} {nc c2:Nat} {I:Nat->Bool} {X Y:Nat->Nat} {ag:Int} {c r:Nat} {m:Mem} {K:AV->Mem->Prop} (hk:1<=k/\k<=5) (hx:x<w256) (hy:y<w256) (hc:c<w256) (hr:r<w256)
 (h1:empP k i x y s ns nc ag c r->K (.bool true) m) (h2:¬ empP k i x y s ns nc ag c r->K (.bool false) m):ACall Pg fF [actV k i x y s ns c1 S nc c2 I X Y ag c r] m K:=by
 have h0:ACall Pg fF [actV k i x y s ns c1 S nc c2 I X Y ag c r] [] (fun v _=>((empP k i x y s ns nc ag c r/\v= .bool true)\/(¬ empP k i x y s ns nc ag c r/\v= .bool false))/\Flat true v):=by
  rcases(show k=1\/k=2\/k=3\/k=4\/k=5 by omega)with h | h | h | h | h
  · exact ACall.weak (S_empty_1 k h i x y s ns c1 S nc c2 I X Y ag c r hx hy hc hr) fun v m' hv=>⟨hv,by rcases hv with⟨_,rfl⟩ | ⟨_,rfl⟩ <;> exact .bool _⟩
  · exact ACall.weak (S_empty_2 k h i x y s ns c1 S nc c2 I X Y ag c r hx hy hc hr) fun v m' hv=>⟨hv,by rcases hv with⟨_,rfl⟩ | ⟨_,rfl⟩ <;> exact .bool _⟩
  · exact ACall.weak (S_empty_3 k h i x y s ns c1 S nc c2 I X Y ag c r hx hy hc hr) fun v m' hv=>⟨hv,by rcases hv with⟨_,rfl⟩ | ⟨_,rfl⟩ <;> exact .bool _⟩
  · exact ACall.weak (S_empty_4 k h i x y s ns c1 S nc c2 I X Y ag c r hx hy hc hr) fun v m' hv=>⟨hv,by rcases hv with⟨_,rfl⟩ | ⟨_,rfl⟩ <;> exact .bool _⟩
  · exact ACall.weak (S_empty_5 k h i x y s ns c1 S nc c2 I X Y ag c r hx hy hc hr) fun v m' hv=>⟨hv,by rcases hv with⟨_,rfl⟩ | ⟨_,rfl⟩ <;> exact .bool _⟩
 refine aC h0 (.cons _ _ _ _ (aK (mA jY pF)) .nil) ?_
 rintro v (⟨h,rfl⟩ | ⟨h,rfl⟩)
 · exact h1 h
 · exact h2 h
open Classical in
noncomputable def regE (i:Bool) (x y:Nat) (s:ByteArray):Int:=if fulP i x y then (if qL s=true then 0 else 8)else 3
open Classical in
noncomputable def dspE (ag:Int) (i:Bool) (x y c r:Nat):Int:=if 1<=ag/\ag<=8 then subE i x y c r else 1
theorem flat_regA {nv:Bool} {i:Bool} {x y:Nat} {s:ByteArray}:Flat nv (regA i x y s):=by
 refine .agg _ (.cons _ _ (.bool _) ?_)
 repeat (first | exact .nil | refine .cons _ _ (.int _ _) ?_ | refine .cons _ _ (.str _) ?_)
theorem flat_dspA {nv:Bool} {ag:Int} {i:Bool} {x y c r:Nat}:Flat nv (dspA ag i x y c r):=by
 refine .agg _ (.cons _ _ (.int _ _) (.cons _ _ (.bool _) ?_))
 repeat (first | exact .nil | refine .cons _ _ (.int _ _) ?_)
theorem S_reg {m:Mem} {K:AV->Mem->Prop} {v:AV} {i:Bool} {x y:Nat} {s:ByteArray} (hv:v=regA i x y s) (hx:x<w256) (hy:y<w256) (hs:s.size<=1000000000) (h:∀ e,e=regE i x y s->K (.int .i64 e) m):ACall Pg dJ [v] m K:=by
 subst hv
 have h0:ACall Pg dJ [regA i x y s] [] (fun v _=>v= .int .i64 (regE i x y s)/\Flat true v):=by
  refine nP ⟨rfl,?_⟩
  conv=>whnf
  repeat (refine⟨⟨_,rfl⟩,?_⟩;conv=>whnf)
  refine S_apointE (i:=i) (x:=x) (y:=y) rfl hx hy (fun hf=> ?_) (fun hf=> ?_)
  · conv=>whnf
    repeat (refine⟨⟨_,rfl⟩,?_⟩;conv=>whnf)
    refine S_label hs ?_
    conv=>whnf
    repeat (refine⟨⟨_,rfl⟩,?_⟩;conv=>whnf)
    exact⟨by unfold regE;rw [if_pos hf],.int _ _⟩
  · conv=>whnf
    repeat (refine⟨⟨_,rfl⟩,?_⟩;conv=>whnf)
    exact⟨by unfold regE;rw [if_neg hf],.int _ _⟩
 refine aC h0 (.cons _ _ _ _ (aK flat_regA) .nil) ?_
 rintro v rfl
 exact h _ rfl
theorem S_dsp {m:Mem} {K:AV->Mem->Prop} {v:AV} {ag:Int} {i:Bool} {x y c r:Nat} (hv:v=dspA ag i x y c r) (hx:x<w256) (hy:y<w256) (hc:c<w256) (hr:r<w256) (h:∀ e,e=dspE ag i x y c r->K (.int .i64 e) m):ACall Pg eA [v] m K:=by
 subst hv
 have h0:ACall Pg eA [dspA ag i x y c r] [] (fun v _=>v= .int .i64 (dspE ag i x y c r)/\Flat true v):=by
  refine qM ⟨rfl,?_⟩
  conv=>whnf
  repeat (refine⟨⟨_,rfl⟩,?_⟩;conv=>whnf)
  refine aA (fun h1=> ?_) (fun h1=> ?_)
  · have h1:=lU h1
    conv=>whnf
    repeat (refine⟨⟨_,rfl⟩,?_⟩;conv=>whnf)
    refine aA (fun h2=> ?_) (fun h2=> ?_)
    · have h2:=of_decide_eq_true h2
      conv=>whnf
      repeat (refine⟨⟨_,rfl⟩,?_⟩;conv=>whnf)
      exact⟨by unfold dspE;rw [if_neg (by omega)],.int _ _⟩
    · have h2:=of_decide_eq_false h2
      conv=>whnf
      repeat (refine⟨⟨_,rfl⟩,?_⟩;conv=>whnf)
      refine S_sub (i:=i) (x:=x) (y:=y) (c:=c) (r:=r) rfl hx hy hc hr (fun e he=> ?_)
      conv=>whnf
      repeat (refine⟨⟨_,rfl⟩,?_⟩;conv=>whnf)
      exact⟨by unfold dspE;rw [if_pos (by omega),he],.int _ _⟩
  · have h1:=kE h1
    conv=>whnf
    repeat (refine⟨⟨_,rfl⟩,?_⟩;conv=>whnf)
    exact⟨by unfold dspE;rw [if_neg (by omega)],.int _ _⟩
 refine aC h0 (.cons _ _ _ _ (aK flat_dspA) .nil) ?_
 rintro v rfl
 exact h _ rfl
theorem S_postE {m:Mem} {K:AV->Mem->Prop} {v:AV} {ns c1:Nat} {S:Nat->Nat->Int} {nc c2:Nat} {I:Nat->Bool} {X Y:Nat->Nat} (hv:v=postA ns c1 S nc c2 I X Y) (hX:∀ j,j<nc->X j<w256) (hY:∀ j,j<nc->Y j<w256) (h:∀ e,e=pstE ns nc I X Y->K (.int .i64 e) m):ACall Pg dZ [v] m K:=by
 subst hv;exact S_post hX hY (h _ rfl)
theorem S_aCheck0 (k:Int) (i:Bool) (x y:Nat) (s:ByteArray) (ns c1:Nat) (S:Nat->Nat->Int) (nc c2:Nat) (I:Nat->Bool) (X Y:Nat->Nat) (ag:Int) (c r:Nat) (hx:x<w256) (hy:y<w256) (hc:c<w256) (hr:r<w256) (hs:s.size<=1000000000) (hX:∀ j,j<nc->X j<w256) (hY:∀ j,j<nc->Y j<w256):
 ACall Pg kN [actV k i x y s ns c1 S nc c2 I X Y ag c r] [] (fun v _=>v= .int .i64 (chkE k i x y s ns nc I X Y ag c r)/\Flat true v):=by
 refine B_act_Check ⟨rfl,?_⟩
 conv=>whnf
 repeat (refine⟨⟨_,rfl⟩,?_⟩;conv=>whnf)
 rcases(show k=1\/k=2\/k=3\/k=4\/k=5\/¬ (1<=k/\k<=5) by omega)with h | h | h | h | h | h
 · subst h
   refine eN ⟨rfl,?_⟩
   conv=>whnf
   repeat (refine⟨⟨_,rfl⟩,?_⟩;conv=>whnf)
   refine S_empty (by decide) hx hy hc hr (fun he=> ?_) (fun he=> ?_)
   · conv=>whnf
     repeat (refine⟨⟨_,rfl⟩,?_⟩;conv=>whnf)
     refine S_reg (i:=i) (x:=x) (y:=y) (s:=s) rfl hx hy hs (fun e hE=> ?_)
     conv=>whnf
     repeat (refine⟨⟨_,rfl⟩,?_⟩;conv=>whnf)
     exact⟨by unfold chkE;rw [if_pos (by decide),if_pos he,if_pos rfl,hE];rfl,.int _ _⟩
   · conv=>whnf
     repeat (refine⟨⟨_,rfl⟩,?_⟩;conv=>whnf)
     exact⟨by unfold chkE;rw [if_pos (by decide),if_neg he],.int _ _⟩
 · subst h
   refine eN ⟨rfl,?_⟩
   conv=>whnf
   repeat (refine⟨⟨_,rfl⟩,?_⟩;conv=>whnf)
   refine S_empty (by decide) hx hy hc hr (fun he=> ?_) (fun he=> ?_)
   · conv=>whnf
     repeat (refine⟨⟨_,rfl⟩,?_⟩;conv=>whnf)
     refine S_postE (ns:=ns) (c1:=c1) (S:=S) (nc:=nc) (c2:=c2) (I:=I) (X:=X) (Y:=Y) rfl hX hY (fun e hE=> ?_)
     conv=>whnf
     repeat (refine⟨⟨_,rfl⟩,?_⟩;conv=>whnf)
     exact⟨by unfold chkE;rw [if_pos (by decide),if_pos he,if_neg (by decide),if_pos rfl,hE];rfl,.int _ _⟩
   · conv=>whnf
     repeat (refine⟨⟨_,rfl⟩,?_⟩;conv=>whnf)
     exact⟨by unfold chkE;rw [if_pos (by decide),if_neg he],.int _ _⟩
 · subst h
   refine eN ⟨rfl,?_⟩
   conv=>whnf
   repeat (refine⟨⟨_,rfl⟩,?_⟩;conv=>whnf)
   refine S_empty (by decide) hx hy hc hr (fun he=> ?_) (fun he=> ?_)
   · conv=>whnf
     repeat (refine⟨⟨_,rfl⟩,?_⟩;conv=>whnf)
     refine S_dsp (ag:=ag) (i:=i) (x:=x) (y:=y) (c:=c) (r:=r) rfl hx hy hc hr (fun e hE=> ?_)
     conv=>whnf
     repeat (refine⟨⟨_,rfl⟩,?_⟩;conv=>whnf)
     exact⟨by unfold chkE;rw [if_pos (by decide),if_pos he,if_neg (by decide),if_neg (by decide),if_pos rfl,hE];rfl,.int _ _⟩
   · conv=>whnf
     repeat (refine⟨⟨_,rfl⟩,?_⟩;conv=>whnf)
     exact⟨by unfold chkE;rw [if_pos (by decide),if_neg he],.int _ _⟩
 · subst h
   refine eN ⟨rfl,?_⟩
   conv=>whnf
   repeat (refine⟨⟨_,rfl⟩,?_⟩;conv=>whnf)
   refine S_empty (by decide) hx hy hc hr (fun he=> ?_) (fun he=> ?_)
   · conv=>whnf
     repeat (refine⟨⟨_,rfl⟩,?_⟩;conv=>whnf)
     refine S_sub (i:=i) (x:=x) (y:=y) (c:=c) (r:=r) rfl hx hy hc hr (fun e hE=> ?_)
     conv=>whnf
     repeat (refine⟨⟨_,rfl⟩,?_⟩;conv=>whnf)
     exact⟨by unfold chkE;rw [if_pos (by decide),if_pos he,if_neg (by decide),if_neg (by decide),if_neg (by decide),if_pos rfl,hE],.int _ _⟩
   · conv=>whnf
     repeat (refine⟨⟨_,rfl⟩,?_⟩;conv=>whnf)
     exact⟨by unfold chkE;rw [if_pos (by decide),if_neg he],.int _ _⟩
 · subst h
   refine eN ⟨rfl,?_⟩
   conv=>whnf
   repeat (refine⟨⟨_,rfl⟩,?_⟩;conv=>whnf)
   refine S_empty (by decide) hx hy hc hr (fun he=> ?_) (fun he=> ?_)
   · conv=>whnf
     repeat (refine⟨⟨_,rfl⟩,?_⟩;conv=>whnf)
     exact⟨by unfold chkE;rw [if_pos (by decide),if_pos he,if_neg (by decide),if_neg (by decide),if_neg (by decide),if_neg (by decide)],.int _ _⟩
   · conv=>whnf
     repeat (refine⟨⟨_,rfl⟩,?_⟩;conv=>whnf)
     exact⟨by unfold chkE;rw [if_pos (by decide),if_neg he],.int _ _⟩
 · refine eN ⟨rfl,?_⟩
   conv=>whnf
   repeat (refine⟨⟨_,rfl⟩,?_⟩;conv=>whnf)
   refine gU (by simp;omega) ?_
   conv=>whnf
   repeat (refine⟨⟨_,rfl⟩,?_⟩;conv=>whnf)
   refine gU (by simp;omega) ?_
   conv=>whnf
   repeat (refine⟨⟨_,rfl⟩,?_⟩;conv=>whnf)
   refine gU (by simp;omega) ?_
   conv=>whnf
   repeat (refine⟨⟨_,rfl⟩,?_⟩;conv=>whnf)
   refine gU (by simp;omega) ?_
   conv=>whnf
   repeat (refine⟨⟨_,rfl⟩,?_⟩;conv=>whnf)
   refine gU (by simp;omega) ?_
   conv=>whnf
   repeat (refine⟨⟨_,rfl⟩,?_⟩;conv=>whnf)
   exact⟨by unfold chkE;rw [if_neg h],.int _ _⟩
end Go.Proofs.YtfolpdmbpbbimaaGreat
end

section
namespace Go.Proofs.YtfolpdmbpbbimaaGreat
open Go Go.Wit
theorem newW_congr {b w w':Nat->Int} {k:Nat} (h:∀ i,i<k->w i=w' i):newW b k w=newW b k w':=by
 unfold newW
 by_cases hk:k<16
 · rw [if_pos hk,if_pos hk]
 · rw [if_neg hk,if_neg hk,h (k - 16) (by omega),h (k - 15) (by omega),h (k - 7) (by omega),h (k - 2) (by omega)]
theorem Wn_eval {b w:Nat->Int} (h:∀ k,k<64->newW b k w=w k):∀ k,k<=64->∀ i,i<k->Wn b k i=w i
  | 0,_,i,hi=>absurd hi (Nat.not_lt_zero _)
  | k + 1, hk, i, hi => by
    by_cases e:i=k
    · rw [show Wn b (k+1) i=newW b k (Wn b k)from if_pos e,newW_congr (Wn_eval h k (by omega)),h k (by omega),e]
    · rw [show Wn b (k+1) i=Wn b k i from if_neg e]
      exact Wn_eval h k (by omega) i (by omega)
theorem rnd_congr {v v':Nat->Int} {a b:Int} (h:∀ i,i<8->v i=v' i):∀ i,i<8->rnd v a b i=rnd v' a b i:=by
 intro i hi
 have:i=0\/i=1\/i=2\/i=3\/i=4\/i=5\/i=6\/i=7:=by omega
 rcases this with rfl | rfl | rfl | rfl | rfl | rfl | rfl | rfl <;> simp only [rnd,oneU,twoU,h 0 (by omega),h 1 (by omega),h 2 (by omega),h 3 (by omega),h 4 (by omega),h 5 (by omega),h 6 (by omega),h 7 (by omega)]
theorem Rn_eval {h w:Nat->Int} {w':Nat->Int} {r:Nat->Nat->Int} (h0:∀ i,i<8->h i=r 0 i) (hw:∀ i,i<64->w i=w' i) (hs:∀ k,k<64->∀ i,i<8->rnd (r k) (kTab k) (w' k) i=r (k+1) i):∀ k,k<=64->∀ i,i<8->Rn h w k i=r k i
  | 0,_,i,hi=>h0 i hi
  | k + 1, hk, i, hi => by
    rw [show Rn h w (k+1) i=rnd (Rn h w k) (kTab k) (w k) i from rfl,rnd_congr (Rn_eval h0 hw hs k (by omega)) i hi,hw k (by omega)]
    exact hs k (by omega) i hi
def lsF (l:List Int) (i:Nat):Int:=l.getD i 0
def stR (a e:List Int) (k i:Nat):Int:=if i<4 then lsF a (k+3 - i)else lsF e (k+7 - i)
def hashB (b:Nat->Int) (w a e:List Int):Bool:=
 (List.range 64).all (fun k=>newW b k (lsF w) == lsF w k) && (List.range 64).all fun k=>(List.range 8).all fun i=>rnd (stR a e k) (kTab k) (lsF w k) i == stR a e (k+1) i
def hashOk (n:Nat) (m:List Int) (W A E:List (List Int)) (o:List Int):Bool:=
 (List.range 8).all (fun i=>hTab i == stR (A.getD 0 []) (E.getD 0 []) 0 i) &&
 ((List.range (padN n / 64)).all (fun q=>hashB (blkB (padF n (lsF m)) q) (W.getD q []) (A.getD q []) (E.getD q [])) &&
 ((List.range (padN n / 64)).all (fun q=>(List.range 8).all fun i=>q+1 == padN n / 64 || addU (stR (A.getD q []) (E.getD q []) 0 i) (stR (A.getD q []) (E.getD q []) 64 i) == stR (A.getD (q+1) []) (E.getD (q+1) []) 0 i) &&
 (decide (1<=padN n / 64) &&
 (List.range 32).all fun i=>lsF o i == IntKind.u8.wrap ((addU (stR (A.getD (padN n / 64 - 1) []) (E.getD (padN n / 64 - 1) []) 0 (i / 4)) (stR (A.getD (padN n / 64 - 1) []) (E.getD (padN n / 64 - 1) []) 64 (i / 4))).fdiv (2 ^ (24 - 8*(i % 4)))))))
theorem iR {n:Nat} {p:Nat->Bool} (h:(List.range n).all p=true) (i:Nat) (hi:i<n):p i=true:=by
 rw [List.all_eq_true]at h
 exact h i (List.mem_range.2 hi)
theorem block_eval {b h:Nat->Int} {w a e:List Int} (hb:hashB b w a e=true) (h0:∀ i,i<8->h i=stR a e 0 i) (i:Nat) (hi:i<8):nextH h (Wn b 64) i=addU (stR a e 0 i) (stR a e 64 i):=by
 unfold hashB at hb
 rw [Bool.and_eq_true]at hb
 have h1:∀ k,k<64->newW b k (lsF w)=lsF w k:=fun k hk=>by simpa using iR hb.1 k hk
 have h2:∀ k,k<64->∀ i,i<8->rnd (stR a e k) (kTab k) (lsF w k) i=stR a e (k+1) i:=fun k hk i hi=>by simpa using iR (iR hb.2 k hk) i hi
 unfold nextH
 rw [h0 i hi,Rn_eval (w':=lsF w) (r:=stR a e) h0 (Wn_eval h1 64 (Nat.le_refl _)) h2 64 (Nat.le_refl _) i hi]
theorem sum_eval {n:Nat} {m:List Int} {W A E:List (List Int)} {o:List Int} (h:hashOk n m W A E o=true):∀ i,i<32->sumB n (lsF m) i=lsF o i:=by
  unfold hashOk at h
  rw [Bool.and_eq_true,Bool.and_eq_true,Bool.and_eq_true,Bool.and_eq_true]at h
  obtain⟨h1,h2,h3,h4,h5⟩:=h
  have h4:=of_decide_eq_true h4
  have key:∀ q,q<padN n / 64->∀ i,i<8->Hn (padF n (lsF m)) q i=stR (A.getD q []) (E.getD q []) 0 i:=by
    intro q
    induction q with
    | zero=>exact fun _ i hi=>eq_of_beq (iR h1 i hi)
    | succ q ih =>
      intro hq i hi
      show nextH (Hn (padF n (lsF m)) q) (Wn (blkB (padF n (lsF m)) q) 64) i=_
      rw [block_eval (iR h2 q (by omega)) (ih (by omega)) i hi]
      have:=iR (iR h3 q (by omega)) i hi
      have hne:(q+1 == padN n / 64)=false:=by simp;omega
      rw [hne,Bool.false_or]at this
      simpa using this
  intro i hi
  have e:padN n / 64=(padN n / 64 - 1)+1:=by omega
  have e2:Hn (padF n (lsF m)) (padN n / 64) (i / 4)=addU (stR (A.getD (padN n / 64 - 1) []) (E.getD (padN n / 64 - 1) []) 0 (i / 4)) (stR (A.getD (padN n / 64 - 1) []) (E.getD (padN n / 64 - 1) []) 64 (i / 4)):=by
    rw [e]
    show nextH (Hn (padF n (lsF m)) (padN n / 64 - 1)) (Wn (blkB (padF n (lsF m)) (padN n / 64 - 1)) 64) (i / 4)=_
    exact block_eval (iR h2 _ (by omega)) (key _ (by omega)) _ (by omega)
  rw [sumB,e2]
  have:=iR h5 i hi
  simp only [beq_iff_eq]at this
  exact this.symm
theorem sumB_congr {n:Nat} {f g:Nat->Int} (h:∀ i,i<n->f i=g i):sumB n f=sumB n g:=by
 have e:padF n f=padF n g:=by
  funext i
  unfold padF
  by_cases hi:i<n
  · rw [if_pos hi,if_pos hi,h i hi]
  · rw [if_neg hi,if_neg hi]
 funext i
 rw [sumB,sumB,e]
end Go.Proofs.YtfolpdmbpbbimaaGreat
end

section
namespace Go.Proofs.YtfolpdmbpbbimaaGreat
open Go Go.Wit
def hH_m:List Int:= [0,0,0,5,119,105,116,97,110,0,0,0,0,0,0,0,0]
def hH_W:List (List Int):= [[5,2003399777,1845493760,0,8388608,0,0,0,0,0,0,0,0,0,0,136,2434507203,2228916193,318635078,373212277,1110406238,3132204649,1421107991,2029185066,1121385909,1007438883,3082518787,4056575730,1799219763,3478107998,3512336317,3988787997,4256135347,970460431,2989504125,4068138340,3709225020,4264055156,294145496,1996484250,4277391817,3935909831,2642362411,2638184925,4215208125,808530028,242644178,1364051396,4148497327,308496743,3573685994,2876087458,1011437140,737328964,3009036107,4007086231,1227850410,2711488494,3270110102,2003472343,2184709045,847159712,4074042404,592683001]]
def hH_A:List (List Int):= [[2773480762,1013904242,3144134277,1779033703,4228417618,2655676781,377761233,1016638797,3384978533,2648456691,726808131,3329297848,2172511823,2582772454,2442353963,198255020,541384394,84351529,3625578032,74621922,1344473271,716371570,3945447640,2726755886,2581550807,1590202699,3617769461,958046927,3884986242,885864665,3164892542,3885407174,4266009471,3593981802,333430288,3255220598,2550530096,2963004066,682221528,1297640456,4028284709,55707373,1525199334,3544120640,1515108697,4134629980,3604058692,3552379444,2448578234,1170529240,3658895961,2512283952,3241977861,2385438713,4205255062,2322422142,2341972743,1253929968,2467217769,3702892553,3934191490,1784329708,4277943529,2067945919,2625578609,3779370708,611922450,1877822952]]
def hH_E:List (List Int):= [[1541459225,528734635,2600822924,1359893119,2563236519,16459000,3464959358,3439030100,1598557190,62294000,736200389,1227006710,595837122,2393032213,2228255023,211807,3168707742,804035152,3691439629,4026888003,399587813,3254110068,3492670325,2781369938,4248000478,2958846903,2823861009,981265777,1865459208,381019486,2677374492,381946925,4086601544,261838766,3364271844,1219916940,1650589405,3041357696,2519272706,54458548,1289916377,1543449003,43070571,317542156,3518143663,4170753727,4102598157,4006513618,1141829524,2404535173,35067934,3668112704,3897077118,1072965344,1738953741,1736757346,3868850674,1775213185,2316670796,2264436678,3113558083,492984597,3362386627,91612352,4065736310,2769693619,1302450674,1231767931]]
def hH_o:List Int:= [217,247,52,79,223,224,224,151,29,179,146,70,65,207,27,171,154,121,155,250,232,167,58,126,196,154,5,94,78,55,3,143]
theorem hH_out:∀ i,i<32->sumB 17 (lsF hH_m) i=lsF hH_o i:=sum_eval (by decide +kernel:hashOk 17 hH_m hH_W hH_A hH_E hH_o=true)
end Go.Proofs.YtfolpdmbpbbimaaGreat
end

section
namespace Go.Proofs.YtfolpdmbpbbimaaGreat
open Go Go.Wit
theorem rowAtE {s:Nat->Int} {g:Nat->Nat->AV} {i p:Nat} {A:AV} (hi:i<32) (hp:p=i) (hA:A=updG ⟨1,32,g⟩ 0 0 32 ((List.range 32).map fun i=> .int .u8 (s i)) p 0):A= .int .u8 (s i):=by
 subst hp hA
 rw [yR (by omega) hi,List.getD_eq_getElem?_getD,List.getElem?_map,List.getElem?_range hi]
 rfl
end Go.Proofs.YtfolpdmbpbbimaaGreat
end

section
namespace Go.Proofs.YtfolpdmbpbbimaaGreat
open Go Go.Wit
noncomputable def tryP (n:Nat) (f:Nat->Int) (c:Nat):Except Int (Pt Fp):=rd 33 (catB 1 (fun _=>2) (sumB (n+4) (catB n f (beF c 4))))
def PtRes (n:Nat) (f:Nat->Int) (v:AV):Prop:=
 (∃ c P,c<256/\(∀ d,d<c->∃ e,tryP n f d= .error e)/\tryP n f c= .ok P/\On P/\v= .tup [ptA P,.int .i64 ((c+1:Nat):Int),.int .i64 0])\/
 ((∀ d,d<256->∃ e,tryP n f d= .error e)/\v= .tup [noPt,.int .i64 0,.int .i64 5])
theorem PtRes.same {n:Nat} {f:Nat->Int} {v w:AV} (h1:PtRes n f v) (h2:PtRes n f w):v=w:=by
 rcases h1 with⟨c,P,hc,hd,hP,_,rfl⟩ | ⟨hd,rfl⟩
 · rcases h2 with⟨c2,P2,hc2,hd2,hP2,_,rfl⟩ | ⟨hd2,rfl⟩
   · obtain rfl:c=c2:=by
      rcases Nat.lt_trichotomy c c2 with h | h | h
      · obtain⟨e,he⟩:=hd2 c h;rw [hP]at he;cases he
      · exact h
      · obtain⟨e,he⟩:=hd c2 h;rw [hP2]at he;cases he
     rw [hP]at hP2
     obtain rfl:P=P2:=by injection hP2
     rfl
   · obtain⟨e,he⟩:=hd2 c hc;rw [hP]at he;cases he
 · rcases h2 with⟨c2,P2,hc2,hd2,hP2,_,rfl⟩ | ⟨hd2,rfl⟩
   · obtain⟨e,he⟩:=hd c2 hc2;rw [hP2]at he;cases he
   · rfl
theorem two_row {s:Nat->Int} {g h:Nat->Nat->AV} {i:Nat} (hi:i<33) (h0:g 0 0= .int .u8 2) (hh:∀ j,j<32->h j 0= .int .u8 (s j)):catG 1 g h i 0= .int .u8 (catB 1 (fun _=>2) s i):=by
 by_cases hl:i<1
 · obtain rfl:i=0:=by omega
   rw [iE hl,catB_lt hl,h0]
 · rw [dA (by omega),catB_ge (by omega),hh _ (by omega)]
theorem two_in {s:Nat->Int} (hs:∀ i,0<=s i/\s i<=255) (i:Nat) (hi:i<33):0<=catB 1 (fun _=>2) s i/\catB 1 (fun _=>2) s i<=255:=pM (n:=1) (m:=32) (fun _ _=>by decide) (fun i _=>hs i) hi
theorem flat_pt3 {P:Pt Fp} {a b:Int}:Flat true (.tup [ptA P,.int .i64 a,.int .i64 b]):= .tup _ (.cons _ _ cG (.cons _ _ (.int _ _) (.cons _ _ (.int _ _) .nil)))
def pz:Nat->Nat->AV:=fun _ j=> [AV.bool false,AV.int .u64 0,AV.int .u64 0,AV.int .u64 0,AV.int .u64 0,AV.int .u64 0,AV.int .u64 0,AV.int .u64 0,AV.int .u64 0].getD j .un
theorem flat_pz {nv:Bool} {i j:Nat}:Flat nv (pz i j):=by
 unfold pz
 match j with
 | 0=>exact .bool _
 | 1=>exact .int _ _
 | 2=>exact .int _ _
 | 3=>exact .int _ _
 | 4=>exact .int _ _
 | 5=>exact .int _ _
 | 6=>exact .int _ _
 | 7=>exact .int _ _
 | 8=>exact .int _ _
 | k+9=>simp;exact .un
theorem S_DPoint0 (s:ByteArray) (k c1:Nat) (g:Nat->Int) (hs:s.size<=900000) (hk:k<=900000) (hg:∀ i,i<k->0<=g i/\g i<=255):
 ACall Pg lC [.str s,.vsl 1 k c1 (aD g)] [] (fun v _=>((nT s.size (fun _=>k) 1<=65536/\PtRes (nT s.size (fun _=>k) 1) (cT s.size (strF s) (fun _=>k) (fun _=>g) 1) v)\/(65536<nT s.size (fun _=>k) 1/\v= .tup [noPt,.int .i64 0,.int .i64 4]))/\Flat true v):=by
 refine B_draw_Point ⟨rfl,?_⟩
 conv=>whnf
 repeat (refine⟨⟨[],rfl⟩,?_⟩;conv=>whnf)
 refine S_joined (r:=1) (N:=fun _=>k) (F:=fun _=>g) (eC.sl rfl (Nat.le_refl 1) (fun i hi=> ?_)) (by omega) (by decide) (fun _ _=>by omega) (fun h n f cap1 hn hf=> ?_) (fun h f cap1=> ?_)
 · obtain rfl:i=0:=by omega
   exact aO.vsl
 · rw [<- hn,<- hf]
   rw [<- hn]at h
   have hf1:∀ i,i<n->0<=f i/\f i<=255:=fun i hi=>by rw [hf];exact cT_in (fun _ _=>strF_lt) (fun _ _ j hj=>hg j hj) i (by omega)
   clear hf hn
   conv=>whnf
   repeat (refine⟨⟨[],rfl⟩,?_⟩;conv=>whnf)
   refine bE aI (I:=fun q l m=>∃ (c:Nat),l= [(4,.ptr 0 0 0),(7,.sl 1 0 n cap1),(23,.int .i64 c)] /\ m= [some ⟨9,1,pz⟩,some ⟨1,n,aD f⟩] /\ q+c=256/\∀ d,d<c->∃ e,tryP n f d= .error e) 256
    (l0:= [(4,.ptr 0 0 0),(7,.sl 1 0 n cap1),(23,.int .i64 (0:Nat))]) (m0:= [some ⟨9,1,pz⟩,some ⟨1,n,aD f⟩]) [some 0,some 2] ⟨0,rfl,rfl,rfl,fun d hd=>by omega⟩ ?_ ?_
   · exact .mk0 ⟨.ptr _ _ _ _ rfl,.sl _ _ _ _ _ rfl,Flat.i rfl,trivial⟩ ⟨.old 0 0 _ _ rfl rfl ⟨rfl,Nat.le_refl _,fun i j hi hj=>RV.of rfl (by dsimp only;exact flat_pz)⟩,.old 1 2 _ _ rfl rfl ⟨rfl,Nat.le_refl _,fun i j hi hj=>RV.of rfl (.int _ _)⟩,trivial⟩ rfl rfl
   · rintro q l m ⟨c,rfl,rfl,hq,hd⟩
     conv=>whnf
     repeat (refine⟨⟨[],rfl⟩,?_⟩;conv=>whnf)
     refine aA (fun hb=> ?_) (fun hb=> ?_)
     · have hb:c<256:=by simp at hb;omega
       have e6:IntKind.u64.wrap (c:Int)=(c:Int):=by rw [wu64];omega
       conv=>whnf
       repeat (refine⟨⟨[],rfl⟩,?_⟩;conv=>whnf)
       refine S_number (s:=4) (x:=IntKind.u64.wrap (c:Int)) (by rw [e6];omega) (by decide) (fun cap2=> ?_)
       rw [e6]
       conv=>whnf
       repeat (refine⟨⟨[],rfl⟩,?_⟩;conv=>whnf)
       refine S_with (k:=4) (f:=f) (g:=beF c 4) (aO.sl rfl (Nat.le_of_eq (Nat.zero_add _)) fun i hi=>by rw [Nat.zero_add]) (aO.sl rfl (Nat.le_refl 4) fun i hi=>by rw [Nat.zero_add]) (by omega) (by decide) (fun cap3 h0 hh0=> ?_)
       conv=>whnf
       repeat (refine⟨⟨[],rfl⟩,?_⟩;conv=>whnf)
       refine S_SumR (f:=h0) (aO.sl rfl (Nat.le_of_eq (Nat.zero_add _)) fun i hi=>by rw [Nat.zero_add]) (by omega) (fun i hi=>by rw [hh0];exact pM hf1 (fun _ _=>beF_lt) hi) (fun s0 hs0 hb0=> ?_)
       have ht:tryP n f c=rd 33 (catB 1 (fun _=>2) s0):=by rw [hs0,hh0];rfl
       rw [rowL]
       conv=>whnf
       repeat (refine⟨⟨[],rfl⟩,?_⟩;conv=>whnf)
       intro cap4 hcap4
       conv=>whnf
       repeat (refine⟨⟨[],rfl⟩,?_⟩;conv=>whnf)
       refine S_Read (n:=33) (f:=catB 1 (fun _=>2) s0) (aO.any rfl (Nat.le_refl 33) fun i hi=> ?_) (fun i hi=>two_in hb0 i hi) (fun P oP hP=> ?_) (fun e he hP=> ?_)
       · rw [show 0+i=i from Nat.zero_add i]
         dsimp only
         refine two_row hi ?_ fun j hj=> ?_
         · rfl
         · refine rowAtE hj ?_ rfl
           omega
       · have e5:IntKind.i64.wrap ((c:Int)+1)=((c+1:Nat):Int):=by rw [w64 (by omega) (by omega)];omega
         conv=>whnf
         repeat (refine⟨⟨[],rfl⟩,?_⟩;conv=>whnf)
         rw [e5]
         exact⟨.inl ⟨h,.inl ⟨c,P,hb,hd,ht.trans hP,oP,rfl⟩⟩,flat_pt3⟩
       · conv=>whnf
         repeat (refine⟨⟨[],rfl⟩,?_⟩;conv=>whnf)
         refine gU (by simpa using he) ?_
         conv=>whnf
         repeat (refine⟨⟨[],rfl⟩,?_⟩;conv=>whnf)
         have e5:IntKind.i64.wrap ((c:Int)+1)=((c+1:Nat):Int):=by rw [w64 (by omega) (by omega)];omega
         refine⟨q - 1,[(4,.ptr 0 0 0),(7,.sl 1 0 n cap1),(23,.int .i64 ((c+1:Nat):Int))],[some ⟨9,1,pz⟩,some ⟨1,n,aD f⟩],[some 0,some 1],by omega,⟨c+1,rfl,rfl,by omega,fun d hd2=> ?_⟩,?_⟩
         · by_cases hdc:d=c
           · subst hdc;exact⟨e,ht.trans hP⟩
           · exact hd d (by omega)
         · exact .mk0 ⟨.ptr _ _ _ _ rfl,.sl _ _ _ _ _ rfl,Flat.i e5,trivial⟩ ⟨.old 0 0 _ _ rfl rfl ⟨rfl,Nat.le_refl _,fun i j hi hj=>RV.of rfl (by dsimp only;exact flat_pz)⟩,.old 1 1 _ _ rfl rfl ⟨rfl,Nat.le_refl _,fun i j hi hj=>RV.of rfl (.int _ _)⟩,trivial⟩ rfl rfl
     · conv=>whnf
       repeat (refine⟨⟨[],rfl⟩,?_⟩;conv=>whnf)
       refine⟨.inl ⟨h,.inr ⟨fun d hd2=>hd d (by simp at hb;omega),rfl⟩⟩,?_⟩
       show Flat true (.tup [noPt,.int .i64 0,.int .i64 5])
       exact .tup _ (.cons _ _ (uQ true) (.cons _ _ (.int _ _) (.cons _ _ (.int _ _) .nil)))
 · conv=>whnf
   repeat (refine⟨⟨[],rfl⟩,?_⟩;conv=>whnf)
   refine⟨.inr ⟨h,rfl⟩,?_⟩
   show Flat true (.tup [noPt,.int .i64 0,.int .i64 4])
   exact .tup _ (.cons _ _ (uQ true) (.cons _ _ (.int _ _) (.cons _ _ (.int _ _) .nil)))
theorem S_DPoint {m:Mem} {x:AV} {K:AV->Mem->Prop} {s:ByteArray} {k:Nat} {g:Nat->Int} (hx:aO m x k g) (hs:s.size<=900000) (hk:k<=900000) (hg:∀ i,i<k->0<=g i/\g i<=255)
 (h1:nT s.size (fun _=>k) 1<=65536->∀ v,PtRes (nT s.size (fun _=>k) 1) (cT s.size (strF s) (fun _=>k) (fun _=>g) 1) v->K v m)
 (h2:65536<nT s.size (fun _=>k) 1->K (.tup [noPt,.int .i64 0,.int .i64 4]) m):ACall Pg lC [.str s,x] m K:=by
 obtain⟨cap,hl⟩:=hx
 refine aC (S_DPoint0 s k cap g hs hk hg) (.cons _ _ _ _ (aK (.str _)) (.cons _ _ _ _ hl .nil)) ?_
 rintro v (⟨h,hv⟩ | ⟨h,rfl⟩)
 · exact h1 h v hv
 · exact h2 h
theorem S_RPoint0 (s:ByteArray) (k c1:Nat) (g:Nat->Int) (hs:s.size<=900000) (hk:k<=900000) (hg:∀ i,i<k->0<=g i/\g i<=255):
 ACall Pg fP [.str s,.vsl 1 k c1 (aD g)] [] (fun v _=>((nT s.size (fun _=>k) 1<=65536/\PtRes (nT s.size (fun _=>k) 1) (cT s.size (strF s) (fun _=>k) (fun _=>g) 1) v)\/(65536<nT s.size (fun _=>k) 1/\v= .tup [noPt,.int .i64 0,.int .i64 4]))/\Flat true v):=by
 refine tE ⟨rfl,?_⟩
 conv=>whnf
 repeat (refine⟨⟨[],rfl⟩,?_⟩;conv=>whnf)
 refine S_Joined (r:=1) (N:=fun _=>k) (F:=fun _=>g) (eC.sl rfl (Nat.le_refl 1) (fun i hi=> ?_)) (by omega) (by decide) (fun _ _=>by omega) (fun h n f cap1 hn hf=> ?_) (fun h f cap1=> ?_)
 · obtain rfl:i=0:=by omega
   exact aO.vsl
 · rw [<- hn,<- hf]
   rw [<- hn]at h
   have hf1:∀ i,i<n->0<=f i/\f i<=255:=fun i hi=>by rw [hf];exact cT_in (fun _ _=>strF_lt) (fun _ _ j hj=>hg j hj) i (by omega)
   clear hf hn
   conv=>whnf
   repeat (refine⟨⟨[],rfl⟩,?_⟩;conv=>whnf)
   refine bE aI (I:=fun q l m=>∃ (c:Nat),l= [(4,.ptr 0 0 0),(7,.sl 1 0 n cap1),(9,.int .i64 c)] /\ m= [some ⟨9,1,pz⟩,some ⟨1,n,aD f⟩] /\ q+c=256/\∀ d,d<c->∃ e,tryP n f d= .error e) 256
    (l0:= [(4,.ptr 0 0 0),(7,.sl 1 0 n cap1),(9,.int .i64 (0:Nat))]) (m0:= [some ⟨9,1,pz⟩,some ⟨1,n,aD f⟩]) [some 0,some 2] ⟨0,rfl,rfl,rfl,fun d hd=>by omega⟩ ?_ ?_
   · exact .mk0 ⟨.ptr _ _ _ _ rfl,.sl _ _ _ _ _ rfl,Flat.i rfl,trivial⟩ ⟨.old 0 0 _ _ rfl rfl ⟨rfl,Nat.le_refl _,fun i j hi hj=>RV.of rfl (by dsimp only;exact flat_pz)⟩,.old 1 2 _ _ rfl rfl ⟨rfl,Nat.le_refl _,fun i j hi hj=>RV.of rfl (.int _ _)⟩,trivial⟩ rfl rfl
   · rintro q l m ⟨c,rfl,rfl,hq,hd⟩
     conv=>whnf
     repeat (refine⟨⟨[],rfl⟩,?_⟩;conv=>whnf)
     refine aA (fun hb=> ?_) (fun hb=> ?_)
     · have hb:c<256:=by simp at hb;omega
       have e6:IntKind.u64.wrap (c:Int)=(c:Int):=by rw [wu64];omega
       conv=>whnf
       repeat (refine⟨⟨[],rfl⟩,?_⟩;conv=>whnf)
       refine S_be (s:=4) (x:=IntKind.u64.wrap (c:Int)) (by rw [e6];omega) (by decide) (fun cap2=> ?_)
       rw [e6]
       conv=>whnf
       repeat (refine⟨⟨[],rfl⟩,?_⟩;conv=>whnf)
       refine S_join2 (n:=n) (k:=4) (f:=f) (g:=beF c 4) (eC.sl rfl (Nat.le_refl 2) (fun i hi=> ?_)) (by omega) (by decide) (fun cap3 h0 hh0=> ?_)
       · have:i=0\/i=1:=by omega
         rcases this with rfl | rfl
         · exact aO.sl rfl (Nat.le_of_eq (Nat.zero_add _)) fun i hi=>by rw [Nat.zero_add];rfl
         · exact aO.sl rfl (Nat.le_refl 4) fun i hi=>by rw [Nat.zero_add];rfl
       conv=>whnf
       repeat (refine⟨⟨[],rfl⟩,?_⟩;conv=>whnf)
       refine S_Sum256R (f:=h0) (aO.sl rfl (Nat.le_of_eq (Nat.zero_add _)) fun i hi=>by rw [Nat.zero_add]) (by omega) (fun i hi=>by rw [hh0];exact pM hf1 (fun _ _=>beF_lt) hi) (fun s0 hs0 hb0=> ?_)
       have ht:tryP n f c=rd 33 (catB 1 (fun _=>2) s0):=by rw [hs0,hh0];rfl
       rw [rowL]
       conv=>whnf
       repeat (refine⟨⟨[],rfl⟩,?_⟩;conv=>whnf)
       refine S_join2 (n:=1) (k:=32) (f:=fun _=>2) (g:=s0) (eC.sl rfl (Nat.le_refl 2) (fun i hi=> ?_)) (by decide) (by decide) (fun cap4 h1 hh1=> ?_)
       · have:i=0\/i=1:=by omega
         rcases this with rfl | rfl
         · exact aO.any rfl (Nat.le_refl _) fun i hi=>(by
            obtain rfl:i=0:=by omega
            rfl)
         · refine aO.any rfl (Nat.le_refl _) fun i hi=> ?_
           refine rowAtE hi ?_ rfl
           omega
       conv=>whnf
       repeat (refine⟨⟨[],rfl⟩,?_⟩;conv=>whnf)
       refine S_RdPoint (n:=33) (f:=catB 1 (fun _=>2) s0) (aO.sl rfl (Nat.le_refl 33) fun i hi=>by rw [Nat.zero_add,hh1]) (fun i hi=>two_in hb0 i hi) (fun P oP hP=> ?_) (fun e he hP=> ?_)
       · have e5:IntKind.i64.wrap ((c:Int)+1)=((c+1:Nat):Int):=by rw [w64 (by omega) (by omega)];omega
         conv=>whnf
         repeat (refine⟨⟨[],rfl⟩,?_⟩;conv=>whnf)
         rw [e5]
         exact⟨.inl ⟨h,.inl ⟨c,P,hb,hd,ht.trans hP,oP,rfl⟩⟩,flat_pt3⟩
       · conv=>whnf
         repeat (refine⟨⟨[],rfl⟩,?_⟩;conv=>whnf)
         refine gU (by simpa using he) ?_
         conv=>whnf
         repeat (refine⟨⟨[],rfl⟩,?_⟩;conv=>whnf)
         have e5:IntKind.i64.wrap ((c:Int)+1)=((c+1:Nat):Int):=by rw [w64 (by omega) (by omega)];omega
         refine⟨q - 1,[(4,.ptr 0 0 0),(7,.sl 1 0 n cap1),(9,.int .i64 ((c+1:Nat):Int))],[some ⟨9,1,pz⟩,some ⟨1,n,aD f⟩],[some 0,some 1],by omega,⟨c+1,rfl,rfl,by omega,fun d hd2=> ?_⟩,?_⟩
         · by_cases hdc:d=c
           · subst hdc;exact⟨e,ht.trans hP⟩
           · exact hd d (by omega)
         · exact .mk0 ⟨.ptr _ _ _ _ rfl,.sl _ _ _ _ _ rfl,Flat.i e5,trivial⟩ ⟨.old 0 0 _ _ rfl rfl ⟨rfl,Nat.le_refl _,fun i j hi hj=>RV.of rfl (by dsimp only;exact flat_pz)⟩,.old 1 1 _ _ rfl rfl ⟨rfl,Nat.le_refl _,fun i j hi hj=>RV.of rfl (.int _ _)⟩,trivial⟩ rfl rfl
     · conv=>whnf
       repeat (refine⟨⟨[],rfl⟩,?_⟩;conv=>whnf)
       refine⟨.inl ⟨h,.inr ⟨fun d hd2=>hd d (by simp at hb;omega),rfl⟩⟩,?_⟩
       show Flat true (.tup [noPt,.int .i64 0,.int .i64 5])
       exact .tup _ (.cons _ _ (uQ true) (.cons _ _ (.int _ _) (.cons _ _ (.int _ _) .nil)))
 · conv=>whnf
   repeat (refine⟨⟨[],rfl⟩,?_⟩;conv=>whnf)
   refine⟨.inr ⟨h,rfl⟩,?_⟩
   show Flat true (.tup [noPt,.int .i64 0,.int .i64 4])
   exact .tup _ (.cons _ _ (uQ true) (.cons _ _ (.int _ _) (.cons _ _ (.int _ _) .nil)))
theorem S_RPoint {m:Mem} {x:AV} {K:AV->Mem->Prop} {s:ByteArray} {k:Nat} {g:Nat->Int} (hx:aO m x k g) (hs:s.size<=900000) (hk:k<=900000) (hg:∀ i,i<k->0<=g i/\g i<=255)
 (h1:nT s.size (fun _=>k) 1<=65536->∀ v,PtRes (nT s.size (fun _=>k) 1) (cT s.size (strF s) (fun _=>k) (fun _=>g) 1) v->K v m)
 (h2:65536<nT s.size (fun _=>k) 1->K (.tup [noPt,.int .i64 0,.int .i64 4]) m):ACall Pg fP [.str s,x] m K:=by
 obtain⟨cap,hl⟩:=hx
 refine aC (S_RPoint0 s k cap g hs hk hg) (.cons _ _ _ _ (aK (.str _)) (.cons _ _ _ _ hl .nil)) ?_
 rintro v (⟨h,hv⟩ | ⟨h,rfl⟩)
 · exact h1 h v hv
 · exact h2 h
end Go.Proofs.YtfolpdmbpbbimaaGreat
end

section
namespace Go.Proofs.YtfolpdmbpbbimaaGreat
open Go Go.Wit
abbrev wiB:ByteArray:=⟨#[119,105,116,97,110]⟩
abbrev hhX:Fp:=⟨98588660411792037220626701311751279850583544932078971810975624332045586989967,by decide +kernel⟩
abbrev hhY:Fp:=⟨78406619623170427787268516794670313409178490032693861438053881465315453111934,by decide +kernel⟩
abbrev hhP:Pt Fp:= .aff hhX hhY
theorem h_on:On hhP:=by
 show hhY*hhY=hhX*hhX*hhX+7
 decide +kernel
theorem h_bytes:∀ i:Fin 17,catB 13 (cT 5 (strF wiB) (fun _=>0) (fun _ _=>0) 1) (beF ((0:Nat):Int) 4) i.val=lsF hH_m i.val:=by decide +kernel
theorem h_try:tryP 13 (cT 5 (strF wiB) (fun _=>0) (fun _ _=>0) 1) 0= .ok hhP:=by
 unfold tryP
 rw [sumB_congr (n:=13+4) (g:=lsF hH_m) fun i hi=>h_bytes ⟨i,hi⟩]
 refine rd_pb h_on (f:=catB 1 (fun _=>2) (sumB (13+4) (lsF hH_m))) fun i hi=> ?_
 have hi:i<33:=hi
 have k:∀ i:Fin 33,catB 1 (fun _=>2) (lsF hH_o) i.val=pbF hhP i.val:=by decide +kernel
 rw [<- k ⟨i,hi⟩]
 unfold catB
 split
 · rfl
 · exact hH_out _ (by omega)
theorem S_cBase {m:Mem} {K:AV->Mem->Prop} (h:∀ H,H=hhP->On H->K (ptA H) m):ACall Pg iX [] m K:=by
 have h0:ACall Pg iX [] [] (fun v _=>v=ptA hhP/\Flat true v):=by
  obtain⟨H,hH⟩ :∃ H,H=hhP:=⟨_,rfl⟩
  rw [<- hH]
  refine B_contract_Base ⟨rfl,?_⟩
  conv=>whnf
  repeat (refine⟨⟨_,rfl⟩,?_⟩;conv=>whnf)
  refine S_DPoint (s:=wiB) (k:=0) (g:=fun _=>0) aO.nils (by decide) (by decide) (fun i hi=>absurd hi (by omega)) (fun _ v hv=> ?_) (fun h=>absurd h (by decide))
  have he:v= .tup [ptA H,.int .i64 1,.int .i64 0] :=
   hv.same (.inl ⟨0,hhP,by decide,fun d hd=>absurd hd (by omega),h_try,h_on,by rw [hH];rfl⟩)
  rw [he]
  clear hv he
  conv=>whnf
  repeat (refine⟨⟨_,rfl⟩,?_⟩;conv=>whnf)
  exact⟨rfl,cG⟩
 refine aC h0 .nil ?_
 rintro v rfl
 exact h _ rfl h_on
end Go.Proofs.YtfolpdmbpbbimaaGreat
end

section
namespace Go.Proofs.YtfolpdmbpbbimaaGreat
open Go Go.Wit
theorem lend_act {m:Mem} {B:List Nat} {k:Int} {i:Bool} {x y:Nat} {s:ByteArray} {sl co sl' co':AV} {ag:Int} {c r:Nat} (h1:Lend (fun _=>none) B m sl sl') (h2:Lend (fun _=>none) B m co co'):
 Lend (fun _=>none) B m (actA k i x y s sl co ag c r) (actA k i x y s sl' co' ag c r):=by
 refine .aggR _ _ rfl (fun j hj=> ?_)
 have hj:j<22:=hj
 have:j=0\/j=1\/j=2\/j=3\/j=4\/j=5\/j=6\/j=7\/j=8\/j=9\/j=10\/j=11\/j=12\/j=13\/j=14\/j=15\/j=16\/j=17\/j=18\/j=19\/j=20\/j=21:=by omega
 rcases this with rfl | rfl | rfl | rfl | rfl | rfl | rfl | rfl | rfl | rfl | rfl | rfl | rfl | rfl | rfl | rfl | rfl | rfl | rfl | rfl | rfl | rfl
 all_goals first
  | exact h1
  | exact h2
  | exact .rv _ _ (.eq _ _ rfl (.int _ _))
  | exact .rv _ _ (.eq _ _ rfl (.bool _))
  | exact .rv _ _ (.eq _ _ rfl (.str _))
theorem zH {m:Mem} {K:AV->Mem->Prop} {v:AV} {k:Int} {i:Bool} {x y:Nat} {s:ByteArray} {sl co:AV} {ns:Nat} {S:Nat->Nat->Int} {nc:Nat} {I:Nat->Bool} {X Y:Nat->Nat} {ag:Int} {c r:Nat} (hv:v=actA k i x y s sl co ag c r) (h1:aU m sl 32 ns (nX S)) (h2:aU m co 9 nc (kQ I X Y))
 (hx:x<w256) (hy:y<w256) (hc:c<w256) (hr:r<w256) (hs:s.size<=1000000000) (hX:∀ j,j<nc->X j<w256) (hY:∀ j,j<nc->Y j<w256) (h:∀ e,e=chkE k i x y s ns nc I X Y ag c r->K (.int .i64 e) m):ACall Pg kN [v] m K:=by
 subst hv
 obtain⟨c1,g1⟩:=h1
 obtain⟨c2,g2⟩:=h2
 refine aC (S_aCheck0 k i x y s ns c1 S nc c2 I X Y ag c r hx hy hc hr hs hX hY) (.cons _ _ _ _ (lend_act g1 g2) .nil) ?_
 rintro v rfl
 exact h _ rfl
theorem wP {c:Nat->Nat} {n e i k:Nat} (h:e=i):AV.agg (List.map (cellG ⟨4,n,fun i j=>fl0 k (gQ c i j)⟩ e 0) (List.range 4))=numA (c i):=by subst h;rfl
theorem T_TimesE {m:Mem} {K:AV->Mem->Prop} {v w:AV} {n:Nat} {P:Pt Fp} (hv:v=numA n) (hw:w=ptA P) (hn:n<w256) (oP:On P) (h:∀ R,On R->R=nmul n P->K (.tup [ptA R,.int .i64 0]) m):ACall Pg dY [v,w] m K:=by
 subst hv hw;exact T_Times hn oP h
theorem S_ProveE {m:Mem} {K:AV->Mem->Prop} {v w u:AV} {s k:Nat} {b:Pt Fp} (hv:v=numA s) (hw:w=numA k) (hu:u=ptA b) (hs:s<w256) (hk:k<w256) (ob:On b) (h:∀ c r,c=prfC s k b->r=prfR s k c->c<nN->r<nN->K (.tup [prA c r,.int .i64 0]) m):ACall Pg jP [v,w,u] m K:=by
 subst hv hw hu;exact S_Prove hs hk ob h
theorem S_Submit0 (n cap:Nat) (f:Nat->Int) (hn:n<=1000000) (hf:∀ i,i<n->0<=f i/\f i<=255):ACall Pg jW [.vsl 1 n cap (aD f)] []
 (fun v _=>((n<=16384/\∃ P c r,On P/\P=nmul (coN n f 0) hhP/\c=prfC (coN n f 0) (drwN noB n f 0) hhP/\r=prfR (coN n f 0) (drwN noB n f 0) c/\c<nN/\r<nN/\v= .tup [actA 4 (isI P) (xN P) (yN P) nB .nils .nils 0 c r,.int .i64 0])\/(16384<n/\v= .tup [act0,.int .i64 4]))/\Flat true v):=by
 refine B_deal_Submit ⟨rfl,?_⟩
 conv=>whnf
 repeat (refine⟨⟨_,rfl⟩,?_⟩;conv=>whnf)
 by_cases h:n<=16384
 · refine S_Poly (n:=n) (t:=0) (f:=f) aO.vsl h (by decide) hf (fun a c1 ha ha1 ha0=> ?_)
   conv=>whnf
   repeat (refine⟨⟨_,rfl⟩,?_⟩;conv=>whnf)
   refine S_scalar (t:=noB) (by decide) (n:=n) (i:=0) (f:=f) aO.vsl h hf (by decide) (fun b hb hb1=> ?_)
   conv=>whnf
   repeat (refine⟨⟨_,rfl⟩,?_⟩;conv=>whnf)
   refine S_cBase (fun H hH oH=> ?_)
   conv=>whnf
   repeat (refine⟨⟨_,rfl⟩,?_⟩;conv=>whnf)
   refine T_TimesE (n:=a 0) (P:=H) (wP rfl) rfl (Nat.lt_trans (ha1 0) (by decide)) oH (fun P oP hP=> ?_)
   conv=>whnf
   repeat (refine⟨⟨_,rfl⟩,?_⟩;conv=>whnf)
   refine S_ProveE (s:=a 0) (k:=b) (b:=H) (wP rfl) rfl rfl (Nat.lt_trans (ha1 0) (by decide)) (Nat.lt_trans hb1 (by decide)) oH (fun c r hc hr hc1 hr1=> ?_)
   conv=>whnf
   repeat (refine⟨⟨_,rfl⟩,?_⟩;conv=>whnf)
   refine⟨.inl ⟨h,P,c,r,oP,by rw [hP,ha,hH],by rw [hc,ha,hb,hH],by rw [hr,ha,hb],hc1,hr1,rfl⟩,?_⟩
   show Flat true (.tup [actA 4 (isI P) (xN P) (yN P) nB .nils .nils 0 c r,.int .i64 0])
   exact pH
 · refine S_Poly_long (n:=n) (f:=f) aO.vsl (by omega) (fun cap g=> ?_)
   conv=>whnf
   repeat (refine⟨⟨_,rfl⟩,?_⟩;conv=>whnf)
   refine⟨.inr ⟨by omega,rfl⟩,?_⟩
   show Flat true (.tup [act0,.int .i64 4])
   exact pH
theorem zI {m:Mem} {x:AV} {K:AV->Mem->Prop} {n:Nat} {f:Nat->Int} (hx:aO m x n f) (hn:n<=1000000) (hf:∀ i,i<n->0<=f i/\f i<=255)
 (h1:n<=16384->∀ P c r,On P->P=nmul (coN n f 0) hhP->c=prfC (coN n f 0) (drwN noB n f 0) hhP->r=prfR (coN n f 0) (drwN noB n f 0) c->c<nN->r<nN->K (.tup [actA 4 (isI P) (xN P) (yN P) nB .nils .nils 0 c r,.int .i64 0]) m)
 (h2:16384<n->K (.tup [act0,.int .i64 4]) m):ACall Pg jW [x] m K:=by
 obtain⟨cap,hl⟩:=hx
 refine aC (S_Submit0 n cap f hn hf) (.cons _ _ _ _ hl .nil) ?_
 rintro v (⟨h,P,c,r,g1,g2,g3,g4,g5,g6,rfl⟩ | ⟨h,rfl⟩)
 · exact h1 h P c r g1 g2 g3 g4 g5 g6
 · exact h2 h
theorem nmul_fin {a:Nat} {P:Pt Fp} (oP:On P) (hP:isI P=false) (h0:a ≠ 0) (h1:a<nN):isI (nmul a P)=false:=by
  cases h:isI (nmul a P)with
  | false=>rfl
  | true =>
    exfalso
    obtain⟨j,rfl⟩:=all_G oP
    rw [<- yV crvP on_G]at h
    have hd:=uJ (isI_inf h)
    rcases prmN.dvd_mul hd with hd | hd
    · have:=Nat.le_of_dvd (by omega) hd
      omega
    · have:nmul j gG= .inf:=by
        rw [<- nmul_mod j,Nat.mod_eq_zero_of_dvd hd];rfl
      rw [this]at hP;cases hP
end Go.Proofs.YtfolpdmbpbbimaaGreat
end

section
namespace Go.Proofs.YtfolpdmbpbbimaaGreat
open Go Go.Wit
theorem S_be40 (i:Nat) (hi:i<4294967296):ACall Pg fG [.int .i64 i] [] (fun v m'=>∃ n' f',(n'=4/\f'=beF (i:Nat) 4)/\RetB n' f' v m'):=by
 refine xB ⟨rfl,?_⟩
 conv=>whnf
 repeat (refine⟨⟨_,rfl⟩,?_⟩;conv=>whnf)
 refine⟨4,_,⟨rfl,rfl⟩,.inr ⟨0,_,4,_,rfl,rfl,Nat.le_refl _,fun j hj=> ?_⟩⟩
 rcases(show j=0\/j=1\/j=2\/j=3 by omega)with rfl | rfl | rfl | rfl
 · exact congrArg (AV.int .u8) (wu8 (i:Nat) (k:=0) (s:=4) (i:=0) (by omega) rfl)
 · exact congrArg (AV.int .u8) (wu8 (i:Nat) (k:=0) (s:=4) (i:=1) (by omega) rfl)
 · exact congrArg (AV.int .u8) (wu8 (i:Nat) (k:=0) (s:=4) (i:=2) (by omega) rfl)
 · refine congrArg (AV.int .u8) (Eq.trans ?_ (wu8 (i:Nat) (k:=0) (s:=4) (i:=3) (e:=0) (by omega) rfl))
   rw [show ((2:Int) ^ 0)=1 from rfl,Int.fdiv_one]
theorem S_be4 {m:Mem} {K:AV->Mem->Prop} {i:Nat} (hi:i<4294967296) (hK:∀ cap,memK (m++ [some ⟨1,4,aD (beF (i:Nat) 4)⟩]) (K (.sl m.length 0 4 cap))):ACall Pg fG [.int .i64 i] m K:=by
 simp only [dL]at hK
 refine gA (S_be40 i hi) (.cons _ _ _ _ aQ .nil) ?_
 rintro n' f' cap ⟨rfl,rfl⟩
 exact hK cap
theorem S_RSecret0 (n cap:Nat) (f:Nat->Int) (hn:n<=16384) (hf:∀ i,i<n->0<=f i/\f i<=255):ACall Pg dC [.vsl 1 n cap (aD f)] [] (fun v _=>v=numA (secN n f)/\Flat true v):=by
 refine rG ⟨rfl,?_⟩
 conv=>whnf
 repeat (refine⟨⟨_,rfl⟩,?_⟩;conv=>whnf)
 refine sT (s:=seB) (r:=1) (N:=fun _=>n) (F:=fun _=>f) (eC.sl rfl (Nat.le_of_eq (Nat.zero_add _)) fun j hj=> ?_) (by decide) (by decide) (fun j hj=>by omega) (fun j hj k hk=>hf k hk) (fun _ a ha ha1=> ?_) (fun h2=> ?_)
 · obtain rfl:j=0:=by omega
   exact aO.vsl
 · conv=>whnf
   repeat (refine⟨⟨_,rfl⟩,?_⟩;conv=>whnf)
   refine S_rone (Nat.lt_trans ha1 (by decide)) ?_
   obtain rfl:=ha
   conv=>whnf
   repeat (refine⟨⟨_,rfl⟩,?_⟩;conv=>whnf)
   exact⟨rfl,aJ⟩
 · exfalso;rw [nT1]at h2;change 65536<4+6+(4+n)at h2;omega
theorem pO {m:Mem} {x:AV} {K:AV->Mem->Prop} {n:Nat} {f:Nat->Int} (hx:aO m x n f) (hn:n<=16384) (hf:∀ i,i<n->0<=f i/\f i<=255) (h:∀ s,s=secN n f->s<nN->s ≠ 0->K (numA s) m):ACall Pg dC [x] m K:=by
 obtain⟨cap,hl⟩:=hx
 refine aC (S_RSecret0 n cap f hn hf) (.cons _ _ _ _ hl .nil) ?_
 rintro v rfl
 exact h _ rfl secN_lt secN_ne
theorem S_nonce0 (n cap i:Nat) (f:Nat->Int) (hn:n<=16384) (hf:∀ i,i<n->0<=f i/\f i<=255) (hi:i<4294967296):ACall Pg fM [.vsl 1 n cap (aD f),.int .i64 i] [] (fun v _=>v=numA (drwN noB n f i)/\Flat true v):=by
 refine sW ⟨rfl,?_⟩
 conv=>whnf
 repeat (refine⟨⟨_,rfl⟩,?_⟩;conv=>whnf)
 refine S_be4 (i:=i) hi (fun c2=> ?_)
 conv=>whnf
 repeat (refine⟨⟨_,rfl⟩,?_⟩;conv=>whnf)
 refine sT (s:=noB) (r:=2) (N:=pr2 n 4) (F:=pr2 f (beF (i:Nat) 4)) (eC.sl rfl (Nat.le_of_eq (Nat.zero_add _)) fun j hj=> ?_) (by decide) (by decide) (fun j hj=> ?_) (fun j hj k hk=> ?_) (fun _ a ha ha1=> ?_) (fun h=> ?_)
 · rcases(show j=0\/j=1 by omega)with rfl | rfl
   · exact aO.vsl
   · exact aO.slG rfl (Nat.le_of_eq (Nat.zero_add _)) (fun j hj=>by rw [Nat.zero_add];rfl)
 · rcases(show j=0\/j=1 by omega)with rfl | rfl
   · show n<=1000000;omega
   · show 4<=1000000;omega
 · rcases(show j=0\/j=1 by omega)with rfl | rfl
   · exact hf k hk
   · exact beF_lt
 rotate_left
 · exfalso
   have hsz:ByteArray.size noB<=10:=by decide
   rw [nT2]at h
   omega
 obtain rfl:a=drwN noB n f i:=ha
 conv=>whnf
 repeat (refine⟨⟨_,rfl⟩,?_⟩;conv=>whnf)
 exact⟨rfl,aJ⟩
theorem S_nonce {m:Mem} {x:AV} {K:AV->Mem->Prop} {n i:Nat} {f:Nat->Int} (hx:aO m x n f) (hn:n<=16384) (hf:∀ i,i<n->0<=f i/\f i<=255) (hi:i<4294967296) (h:∀ a,a=drwN noB n f i->a<nN->K (numA a) m):ACall Pg fM [x,.int .i64 i] m K:=by
 obtain⟨cap,hl⟩:=hx
 refine aC (S_nonce0 n cap i f hn hf hi) (.cons _ _ _ _ hl (.cons _ _ _ _ aQ .nil)) ?_
 rintro v rfl
 exact h _ rfl drwN_lt
theorem S_roneV {m:Mem} {K:AV->Mem->Prop} {a:Nat} (ha:a<w256) (h:∀ b,b=lQ a->K (numA b) m):ACall Pg dP [numA a] m K:=S_rone ha (h _ rfl)
theorem S_RPoly0 (n cap t:Nat) (f:Nat->Int) (hn:n<=16384) (ht:t<64) (hf:∀ i,i<n->0<=f i/\f i<=255):ACall Pg eD [.vsl 1 n cap (aD f),.int .i64 t] []
 (fun v m'=>∃ n' G,(n'=t+1/\G=gQ (coN n f))/\RetG 4 n' G v m'):=by
 obtain⟨c,hc⟩ :∃ c:Nat->Nat,c=coN n f:=⟨_,rfl⟩
 rw [<- hc]
 refine uW ⟨rfl,?_⟩
 conv=>whnf
 repeat (refine⟨⟨_,rfl⟩,?_⟩;conv=>whnf)
 refine bE aI (I:=fun q l m=>∃ (k c':Nat),l= [(0,.vsl 1 n cap (aD f)),(1,.int .i64 t),(5,.sl 0 0 k c'),(6,.int .i64 k)] /\ m= [some ⟨4,k,gQ c⟩] /\ q+k=t+1) (t+1)
  (l0:= [(0,.vsl 1 n cap (aD f)),(1,.int .i64 t),(5,.sl 0 0 0 0),(6,.int .i64 (0:Nat))]) (m0:= [some ⟨4,0,gQ c⟩]) [none] ⟨0,0,rfl,rfl,by omega⟩ ?_ ?_
 · exact .mk0 ⟨.eq _ _ rfl iC,Flat.i rfl,.nils _ _,Flat.i rfl,trivial⟩ ⟨.ph _ _ _ rfl,trivial⟩ rfl rfl
 · rintro q l m ⟨k,c',rfl,rfl,hq⟩
   conv=>whnf
   repeat (refine⟨⟨_,rfl⟩,?_⟩;conv=>whnf)
   refine aA (fun hb=> ?_) (fun hb=> ?_)
   · have hb:k<t+1:=by simp at hb;omega
     have e5:IntKind.i64.wrap ((k:Int)+1)=((k+1:Nat):Int):=by rw [w64 (by omega) (by omega)];omega
     conv=>whnf
     repeat (refine⟨⟨_,rfl⟩,?_⟩;conv=>whnf)
     refine S_be4 (i:=k) (by omega) (fun c2=> ?_)
     conv=>whnf
     repeat (refine⟨⟨_,rfl⟩,?_⟩;conv=>whnf)
     refine sT (s:=plB) (r:=2) (N:=pr2 n 4) (F:=pr2 f (beF (k:Nat) 4)) (eC.sl rfl (Nat.le_of_eq (Nat.zero_add _)) fun j hj=> ?_) (by decide) (by decide) (fun j hj=> ?_) (fun j hj k hk=> ?_) (fun _ a ha ha1=> ?_) (fun h=> ?_)
     · rcases(show j=0\/j=1 by omega)with rfl | rfl
       · exact aO.vsl
       · exact aO.slG rfl (Nat.le_of_eq (Nat.zero_add _)) (fun j hj=>by rw [Nat.zero_add];rfl)
     · rcases(show j=0\/j=1 by omega)with rfl | rfl
       · show n<=1000000;omega
       · show 4<=1000000;omega
     · rcases(show j=0\/j=1 by omega)with rfl | rfl
       · exact hf k hk
       · exact beF_lt
     rotate_left
     · exfalso
       have hsz:ByteArray.size plB<=10:=by decide
       rw [nT2]at h
       omega
     conv=>whnf
     repeat (refine⟨⟨_,rfl⟩,?_⟩;conv=>whnf)
     refine aA (fun h0=> ?_) (fun h0=> ?_)
     · have h0:k=0:=by simp at h0;omega
       conv=>whnf
       repeat (refine⟨⟨_,rfl⟩,?_⟩;conv=>whnf)
       refine S_roneV (a:=a) (Nat.lt_trans ha1 (by decide)) (fun b hb'=> ?_)
       have hco:b=c k:=by rw [hb',hc,ha,h0];unfold coN;rw [if_pos rfl];rfl
       conv=>whnf
       repeat (refine⟨⟨_,rfl⟩,?_⟩;conv=>whnf)
       refine aE (eQ (by first | rfl | simp) rfl rfl (by omega) (by omega)) (fun cap' hcap=> ?_)
       conv=>whnf
       repeat (refine⟨⟨_,rfl⟩,?_⟩;conv=>whnf)
       refine⟨q - 1,[(0,.vsl 1 n cap (aD f)),(1,.int .i64 t),(5,.sl 0 0 (k+1) cap'),(6,.int .i64 ((k+1:Nat):Int))],[some ⟨4,k+1,gQ c⟩],[some 5],by omega,⟨k+1,cap',rfl,rfl,by omega⟩,?_⟩
       refine .mk0 ⟨.eq _ _ rfl iC,Flat.i rfl,.sl _ _ _ _ _ rfl,Flat.i e5,trivial⟩ ⟨.old 0 5 _ _ rfl rfl ⟨rfl,Nat.le_refl _,fun i j hi hj=> ?_⟩,trivial⟩ rfl rfl
       dsimp only at hi hj ⊢
       refine num_row hi hj hco rfl (fun j hj=> ?_)
       rcases(show j=0\/j=1\/j=2\/j=3 by omega)with rfl | rfl | rfl | rfl <;> rfl
     · have h0:¬ k=0:=by simp at h0;omega
       have hco:a=c k:=by rw [hc,ha];unfold coN;rw [if_neg h0];rfl
       conv=>whnf
       repeat (refine⟨⟨_,rfl⟩,?_⟩;conv=>whnf)
       refine aE (eQ (by first | rfl | simp) rfl rfl (by omega) (by omega)) (fun cap' hcap=> ?_)
       conv=>whnf
       repeat (refine⟨⟨_,rfl⟩,?_⟩;conv=>whnf)
       refine⟨q - 1,[(0,.vsl 1 n cap (aD f)),(1,.int .i64 t),(5,.sl 0 0 (k+1) cap'),(6,.int .i64 ((k+1:Nat):Int))],[some ⟨4,k+1,gQ c⟩],[some 5],by omega,⟨k+1,cap',rfl,rfl,by omega⟩,?_⟩
       refine .mk0 ⟨.eq _ _ rfl iC,Flat.i rfl,.sl _ _ _ _ _ rfl,Flat.i e5,trivial⟩ ⟨.old 0 5 _ _ rfl rfl ⟨rfl,Nat.le_refl _,fun i j hi hj=> ?_⟩,trivial⟩ rfl rfl
       dsimp only at hi hj ⊢
       refine num_row hi hj hco rfl (fun j hj=> ?_)
       rcases(show j=0\/j=1\/j=2\/j=3 by omega)with rfl | rfl | rfl | rfl <;> rfl
   · have hb:k=t+1:=by simp at hb;omega
     subst hb
     conv=>whnf
     repeat (refine⟨⟨_,rfl⟩,?_⟩;conv=>whnf)
     exact⟨t+1,gQ c,⟨rfl,rfl⟩,.inr ⟨0,c',t+1,_,rfl,rfl,Nat.le_refl _,fun _ _ _ _=>rfl⟩⟩
theorem S_RPoly {m:Mem} {x:AV} {K:AV->Mem->Prop} {n t:Nat} {f:Nat->Int} (hx:aO m x n f) (hn:n<=16384) (ht:t<64) (hf:∀ i,i<n->0<=f i/\f i<=255)
 (h:∀ c cap,c=coN n f->(∀ i,c i<nN)->c 0 ≠ 0->memK (m++ [some ⟨4,t+1,gQ c⟩]) (K (.sl m.length 0 (t+1) cap))):ACall Pg eD [x,.int .i64 t] m K:=by
 simp only [dL]at h
 obtain⟨cap,hl⟩:=hx
 refine lift_G (S_RPoly0 n cap t f hn ht hf) (fun n' G hR i j _ _=>by rw [hR.2];exact cW) (.cons _ _ _ _ hl (.cons _ _ _ _ aQ .nil)) ?_
 rintro n' G cap' ⟨rfl,rfl⟩
 exact h _ cap' rfl (fun i=>coN_lt) coN_ne
theorem S_RRegister {m:Mem} {x:AV} {K:AV->Mem->Prop} {n:Nat} {f:Nat->Int} {s:ByteArray} (hx:aO m x n f) (hn:n<=16384) (hf:∀ i,i<n->0<=f i/\f i<=255)
 (h:∀ P t,t=s->On P->P=nmul (secN n f) gG->K (actA 1 (isI P) (xN P) (yN P) t .nils .nils 0 0 0) m):ACall Pg dU [x,.str s] m K:=by
 have h0:∀ cap,ACall Pg dU [.vsl 1 n cap (aD f),.str s] [] (fun v _=>v=actA 1 (isI (nmul (secN n f) gG)) (xN (nmul (secN n f) gG)) (yN (nmul (secN n f) gG)) s .nils .nils 0 0 0/\Flat true v):=fun cap=>by
  refine pT ⟨rfl,?_⟩
  conv=>whnf
  repeat (refine⟨⟨_,rfl⟩,?_⟩;conv=>whnf)
  refine pO (n:=n) (f:=f) aO.vsl hn hf (fun a ha ha1 ha0=> ?_)
  conv=>whnf
  repeat (refine⟨⟨_,rfl⟩,?_⟩;conv=>whnf)
  refine T_RBase (n:=a) (Nat.lt_trans ha1 (by decide)) (fun P oP hP=> ?_)
  rw [<- ha,<- hP]
  conv=>whnf
  repeat (refine⟨⟨_,rfl⟩,?_⟩;conv=>whnf)
  refine⟨rfl,?_⟩
  show Flat true (actA 1 (isI P) (xN P) (yN P) s .nils .nils 0 0 0)
  exact mA .nils .nils
 obtain⟨cap,hl⟩:=hx
 refine aC (h0 cap) (.cons _ _ _ _ hl (.cons _ _ _ _ (aK (.str _)) .nil)) ?_
 rintro v rfl
 exact h _ _ rfl (on_G.nmul crvP _) rfl
theorem S_rcBase {m:Mem} {K:AV->Mem->Prop} (h:∀ H,H=hhP->On H->K (ptA H) m):ACall Pg gC [] m K:=by
 have h0:ACall Pg gC [] [] (fun v _=>v=ptA hhP/\Flat true v):=by
  obtain⟨H,hH⟩ :∃ H,H=hhP:=⟨_,rfl⟩
  rw [<- hH]
  refine vA ⟨rfl,?_⟩
  conv=>whnf
  repeat (refine⟨⟨_,rfl⟩,?_⟩;conv=>whnf)
  refine S_RPoint (s:=wiB) (k:=0) (g:=fun _=>0) aO.nils (by decide) (by decide) (fun i hi=>absurd hi (by omega)) (fun _ v hv=> ?_) (fun h=>absurd h (by decide))
  have he:v= .tup [ptA H,.int .i64 1,.int .i64 0] :=
   hv.same (.inl ⟨0,hhP,by decide,fun d hd=>absurd hd (by omega),h_try,h_on,by rw [hH];rfl⟩)
  rw [he]
  clear hv he
  conv=>whnf
  repeat (refine⟨⟨_,rfl⟩,?_⟩;conv=>whnf)
  exact⟨rfl,cG⟩
 refine aC h0 .nil ?_
 rintro v rfl
 exact h _ rfl h_on
theorem T_rTimesE {m:Mem} {K:AV->Mem->Prop} {v w:AV} {n:Nat} {P:Pt Fp} (hv:v=numA n) (hw:w=ptA P) (hn:n<w256) (oP:On P) (h:∀ Q,On Q->Q=nmul n P->K (ptA Q) m):ACall Pg bJ [v,w] m K:=by
 subst hv hw;exact T_rTimes2 hn oP h
theorem S_RProveE {m:Mem} {K:AV->Mem->Prop} {v w u:AV} {s k:Nat} {b:Pt Fp} (hv:v=numA s) (hw:w=numA k) (hu:u=ptA b) (hs:s<w256) (hk:k<w256) (ob:On b) (h:∀ c r,c=prfC s k b->r=prfR s k c->c<nN->r<nN->K (prA c r) m):ACall Pg dV [v,w,u] m K:=by
 subst hv hw hu;exact S_RProve hs hk ob h
end Go.Proofs.YtfolpdmbpbbimaaGreat
end

section
namespace Go.Proofs.YtfolpdmbpbbimaaGreat
open Go Go.Wit
end Go.Proofs.YtfolpdmbpbbimaaGreat
end

section
namespace Go.Proofs.YtfolpdmbpbbimaaGreat
open Go Go.Wit
theorem S_kNums0 (n c1 c2:Nat) (c:Nat->Nat) (hc:∀ i,i<n->c i<w256) (hn:n<=140737488355328):ACall Pg hU [.vsl 4 n c1 (gQ c),.vsl 4 n c2 (gQ c)] [] (fun v _=>v= .bool true/\Flat true v):=by
 refine xS ⟨rfl,?_⟩
 conv=>whnf
 repeat (refine⟨⟨[],rfl⟩,?_⟩;conv=>whnf)
 refine aA (fun h=>by exfalso;simp at h) (fun h=> ?_)
 conv=>whnf
 repeat (refine⟨⟨[],rfl⟩,?_⟩;conv=>whnf)
 refine bE aI (I:=fun q l m=>∃ (k:Nat),l= [(0,.vsl 4 n c1 (gQ c)),(1,.vsl 4 n c2 (gQ c)),(5,.int .i64 k)] /\ m= [] /\ q+k=n) n
  (l0:= [(0,.vsl 4 n c1 (gQ c)),(1,.vsl 4 n c2 (gQ c)),(5,.int .i64 (0:Nat))]) (m0:= []) [] ⟨0,rfl,rfl,rfl⟩ ?_ ?_
 · exact .mk0 ⟨.eq _ _ rfl (.vsl _ _ _ _ rfl (fun _ _ _ _=>cW)),.eq _ _ rfl (.vsl _ _ _ _ rfl (fun _ _ _ _=>cW)),Flat.i rfl,trivial⟩ trivial rfl rfl
 · rintro q l m ⟨k,rfl,rfl,hq⟩
   conv=>whnf
   repeat (refine⟨⟨[],rfl⟩,?_⟩;conv=>whnf)
   refine aA (fun hb=> ?_) (fun hb=> ?_)
   · have hb:k<n:=by simp at hb;omega
     conv=>whnf
     repeat (refine⟨⟨[],rfl⟩,?_⟩;conv=>whnf)
     refine aE (by simp;omega) ?_
     conv=>whnf
     repeat (refine⟨⟨[],rfl⟩,?_⟩;conv=>whnf)
     refine aE (by simp;omega) ?_
     conv=>whnf
     repeat (refine⟨⟨[],rfl⟩,?_⟩;conv=>whnf)
     refine c_ne (a:=c k) (b:=c k) (hc k hb) (hc k hb) (fun h=>absurd rfl h) (fun _=> ?_)
     conv=>whnf
     repeat (refine⟨⟨[],rfl⟩,?_⟩;conv=>whnf)
     have e5:IntKind.i64.wrap ((k:Int)+1)=((k+1:Nat):Int):=by rw [w64 (by omega) (by omega)];omega
     refine⟨q - 1,[(0,.vsl 4 n c1 (gQ c)),(1,.vsl 4 n c2 (gQ c)),(5,.int .i64 ((k+1:Nat):Int))],[],[],by omega,⟨k+1,rfl,rfl,by omega⟩,?_⟩
     exact .mk0 ⟨.eq _ _ rfl (.vsl _ _ _ _ rfl (fun _ _ _ _=>cW)),.eq _ _ rfl (.vsl _ _ _ _ rfl (fun _ _ _ _=>cW)),Flat.i e5,trivial⟩ trivial rfl rfl
   · conv=>whnf
     repeat (refine⟨⟨[],rfl⟩,?_⟩;conv=>whnf)
     exact⟨rfl,.bool _⟩
theorem S_kNums {m:Mem} {x y:AV} {K:AV->Mem->Prop} {n:Nat} {c:Nat->Nat} (hx:aU m x 4 n (gQ c)) (hy:aU m y 4 n (gQ c)) (hc:∀ i,i<n->c i<w256) (hn:n<=140737488355328) (h:K (.bool true) m):ACall Pg hU [x,y] m K:=by
 obtain⟨c1,hl⟩:=hx
 obtain⟨c2,hl2⟩:=hy
 refine aC (S_kNums0 n c1 c2 c hc hn) (.cons _ _ _ _ hl (.cons _ _ _ _ hl2 .nil)) ?_
 rintro v rfl
 exact h
theorem S_kPoints0 (n c1 c2:Nat) (I:Nat->Bool) (X Y:Nat->Nat) (hX:∀ i,i<n->X i<w256) (hY:∀ i,i<n->Y i<w256) (hn:n<=140737488355328):ACall Pg fS [.vsl 9 n c1 (kQ I X Y),.vsl 9 n c2 (kQ I X Y)] [] (fun v _=>v= .bool true/\Flat true v):=by
 refine tK ⟨rfl,?_⟩
 conv=>whnf
 repeat (refine⟨⟨[],rfl⟩,?_⟩;conv=>whnf)
 refine aA (fun h=>by exfalso;simp at h) (fun h=> ?_)
 conv=>whnf
 repeat (refine⟨⟨[],rfl⟩,?_⟩;conv=>whnf)
 refine bE aI (I:=fun q l m=>∃ (k:Nat),l= [(0,.vsl 9 n c1 (kQ I X Y)),(1,.vsl 9 n c2 (kQ I X Y)),(5,.int .i64 k)] /\ m= [] /\ q+k=n) n
  (l0:= [(0,.vsl 9 n c1 (kQ I X Y)),(1,.vsl 9 n c2 (kQ I X Y)),(5,.int .i64 (0:Nat))]) (m0:= []) [] ⟨0,rfl,rfl,rfl⟩ ?_ ?_
 · exact .mk0 ⟨.eq _ _ rfl (.vsl _ _ _ _ rfl (fun _ _ _ _=>jE)),.eq _ _ rfl (.vsl _ _ _ _ rfl (fun _ _ _ _=>jE)),Flat.i rfl,trivial⟩ trivial rfl rfl
 · rintro q l m ⟨k,rfl,rfl,hq⟩
   conv=>whnf
   repeat (refine⟨⟨[],rfl⟩,?_⟩;conv=>whnf)
   refine aA (fun hb=> ?_) (fun hb=> ?_)
   · have hb:k<n:=by simp at hb;omega
     conv=>whnf
     repeat (refine⟨⟨[],rfl⟩,?_⟩;conv=>whnf)
     refine aE (by simp;omega) ?_
     conv=>whnf
     repeat (refine⟨⟨[],rfl⟩,?_⟩;conv=>whnf)
     refine aE (by simp;omega) ?_
     conv=>whnf
     repeat (refine⟨⟨[],rfl⟩,?_⟩;conv=>whnf)
     refine S_kPoint_eq (i:=I k) (x:=X k) (y:=Y k) (hX k hb) (hY k hb) ?_
     conv=>whnf
     repeat (refine⟨⟨[],rfl⟩,?_⟩;conv=>whnf)
     have e5:IntKind.i64.wrap ((k:Int)+1)=((k+1:Nat):Int):=by rw [w64 (by omega) (by omega)];omega
     refine⟨q - 1,[(0,.vsl 9 n c1 (kQ I X Y)),(1,.vsl 9 n c2 (kQ I X Y)),(5,.int .i64 ((k+1:Nat):Int))],[],[],by omega,⟨k+1,rfl,rfl,by omega⟩,?_⟩
     exact .mk0 ⟨.eq _ _ rfl (.vsl _ _ _ _ rfl (fun _ _ _ _=>jE)),.eq _ _ rfl (.vsl _ _ _ _ rfl (fun _ _ _ _=>jE)),Flat.i e5,trivial⟩ trivial rfl rfl
   · conv=>whnf
     repeat (refine⟨⟨[],rfl⟩,?_⟩;conv=>whnf)
     exact⟨rfl,.bool _⟩
theorem S_kPoints {m:Mem} {x y:AV} {K:AV->Mem->Prop} {n:Nat} {I:Nat->Bool} {X Y:Nat->Nat} (hx:aU m x 9 n (kQ I X Y)) (hy:aU m y 9 n (kQ I X Y)) (hX:∀ i,i<n->X i<w256) (hY:∀ i,i<n->Y i<w256) (hn:n<=140737488355328) (h:K (.bool true) m):ACall Pg fS [x,y] m K:=by
 obtain⟨c1,hl⟩:=hx
 obtain⟨c2,hl2⟩:=hy
 refine aC (S_kPoints0 n c1 c2 I X Y hX hY hn) (.cons _ _ _ _ hl (.cons _ _ _ _ hl2 .nil)) ?_
 rintro v rfl
 exact h
end Go.Proofs.YtfolpdmbpbbimaaGreat
end

section
namespace Go.Proofs.YtfolpdmbpbbimaaGreat
open Go Go.Wit
def eqR (f g:Nat->Int):Bool:=(f 0 == g 0 && (f 1 == g 1 && (f 2 == g 2 && (f 3 == g 3 && (f 4 == g 4 && (f 5 == g 5 && (f 6 == g 6 && (f 7 == g 7 && (f 8 == g 8 && (f 9 == g 9 && (f 10 == g 10 && (f 11 == g 11 && (f 12 == g 12 && (f 13 == g 13 && (f 14 == g 14 && (f 15 == g 15 && (f 16 == g 16 && (f 17 == g 17 && (f 18 == g 18 && (f 19 == g 19 && (f 20 == g 20 && (f 21 == g 21 && (f 22 == g 22 && (f 23 == g 23 && (f 24 == g 24 && (f 25 == g 25 && (f 26 == g 26 && (f 27 == g 27 && (f 28 == g 28 && (f 29 == g 29 && (f 30 == g 30 && (f 31 == g 31 && true))))))))))))))))))))))))))))))))
theorem eqR_iff {f g:Nat->Int}:eqR f g=true ↔ ∀ i,i<32->f i=g i:=by
 constructor
 · intro h
   simp only [eqR,Bool.and_eq_true,beq_iff_eq,and_true]at h
   intro i hi
   have:i=0\/i=1\/i=2\/i=3\/i=4\/i=5\/i=6\/i=7\/i=8\/i=9\/i=10\/i=11\/i=12\/i=13\/i=14\/i=15\/i=16\/i=17\/i=18\/i=19\/i=20\/i=21\/i=22\/i=23\/i=24\/i=25\/i=26\/i=27\/i=28\/i=29\/i=30\/i=31:=by omega
   rcases this with rfl | rfl | rfl | rfl | rfl | rfl | rfl | rfl | rfl | rfl | rfl | rfl | rfl | rfl | rfl | rfl | rfl | rfl | rfl | rfl | rfl | rfl | rfl | rfl | rfl | rfl | rfl | rfl | rfl | rfl | rfl | rfl
   all_goals simp [h]
 · intro h
   unfold eqR
   rw [h 0 (by decide),h 1 (by decide),h 2 (by decide),h 3 (by decide),h 4 (by decide),h 5 (by decide),h 6 (by decide),h 7 (by decide),h 8 (by decide),h 9 (by decide),h 10 (by decide),h 11 (by decide),h 12 (by decide),h 13 (by decide),h 14 (by decide),h 15 (by decide),h 16 (by decide),h 17 (by decide),h 18 (by decide),h 19 (by decide),h 20 (by decide),h 21 (by decide),h 22 (by decide),h 23 (by decide),h 24 (by decide),h 25 (by decide),h 26 (by decide),h 27 (by decide),h 28 (by decide),h 29 (by decide),h 30 (by decide),h 31 (by decide)]
   simp
def t32:Ty:= .arr 32 (.int .u8)
end Go.Proofs.YtfolpdmbpbbimaaGreat
end

section
namespace Go.Proofs.YtfolpdmbpbbimaaGreat
open Go Go.Wit
theorem S_kSeals0 (n c1 k c2:Nat) (S T:Nat->Nat->Int) (hn:n<=1000000) (hk:k<=1000000):ACall Pg gI [.vsl 32 n c1 (nX S),.vsl 32 k c2 (nX T)] []
 (fun v _=>(((n=k/\∀ i,i<n->∀ j,j<32->S i j=T i j)/\v= .bool true)\/(¬ (n=k/\∀ i,i<n->∀ j,j<32->S i j=T i j)/\v= .bool false))/\Flat true v):=by
 refine vI ⟨rfl,?_⟩
 conv=>whnf
 repeat (refine⟨⟨_,rfl⟩,?_⟩;conv=>whnf)
 refine aA (fun h1=> ?_) (fun h1=> ?_)
 · have h1:¬ n=k:=by simp at h1;omega
   conv=>whnf
   repeat (refine⟨⟨_,rfl⟩,?_⟩;conv=>whnf)
   exact⟨.inr ⟨fun h=>h1 h.1,rfl⟩,.bool _⟩
 have h1:n=k:=by simp at h1;omega
 subst h1
 conv=>whnf
 repeat (refine⟨⟨_,rfl⟩,?_⟩;conv=>whnf)
 refine bE aI (I:=fun q l m=>∃ (i:Nat),l= [(0,.vsl 32 n c1 (nX S)),(1,.vsl 32 n c2 (nX T)),(5,.int .i64 i)] /\ m= [] /\ q+i=n/\∀ u,u<i->∀ j,j<32->S u j=T u j) n
  (l0:= [(0,.vsl 32 n c1 (nX S)),(1,.vsl 32 n c2 (nX T)),(5,.int .i64 (0:Nat))]) (m0:= []) [] ⟨0,rfl,rfl,rfl,fun u hu=>by omega⟩ ?_ ?_
 · exact .mk0 ⟨.eq _ _ rfl jY,.eq _ _ rfl jY,Flat.i rfl,trivial⟩ trivial rfl rfl
 · rintro q l m ⟨i,rfl,rfl,hq,hS⟩
   conv=>whnf
   repeat (refine⟨⟨_,rfl⟩,?_⟩;conv=>whnf)
   refine aA (fun hb=> ?_) (fun hb=> ?_)
   · have hb:i<n:=by simp at hb;omega
     conv=>whnf
     repeat (refine⟨⟨_,rfl⟩,?_⟩;conv=>whnf)
     refine aE (by simp;omega) ?_
     conv=>whnf
     repeat (refine⟨⟨_,rfl⟩,?_⟩;conv=>whnf)
     refine aE (by simp;omega) ?_
     conv=>whnf
     repeat (refine⟨⟨_,rfl⟩,?_⟩;conv=>whnf)
     refine aA (fun h2=> ?_) (fun h2=> ?_)
     · replace h2:(!(eqR (S i) (T i)))=true:=Eq.trans rfl h2
       conv=>whnf
       repeat (refine⟨⟨_,rfl⟩,?_⟩;conv=>whnf)
       exact⟨.inr ⟨fun h=>(by rw [eqR_iff.2 (h.2 i hb)]at h2;cases h2),rfl⟩,.bool _⟩
     · replace h2:(!(eqR (S i) (T i)))=false:=Eq.trans rfl h2
       have h3:=eqR_iff.1 (show eqR (S i) (T i)=true by simpa using h2)
       clear h2
       conv=>whnf
       repeat (refine⟨⟨_,rfl⟩,?_⟩;conv=>whnf)
       have e5:IntKind.i64.wrap ((i:Int)+1)=((i+1:Nat):Int):=by rw [w64 (by omega) (by omega)];omega
       refine⟨q - 1,[(0,.vsl 32 n c1 (nX S)),(1,.vsl 32 n c2 (nX T)),(5,.int .i64 ((i+1:Nat):Int))],[],[],by omega,⟨i+1,rfl,rfl,by omega,fun u hu=> ?_⟩,?_⟩
       · by_cases h:u=i
         · subst h;exact h3
         · exact hS u (by omega)
       · exact .mk0 ⟨.eq _ _ rfl jY,.eq _ _ rfl jY,Flat.i e5,trivial⟩ trivial rfl rfl
   · have hb:i=n:=by simp at hb;omega
     subst hb
     conv=>whnf
     repeat (refine⟨⟨_,rfl⟩,?_⟩;conv=>whnf)
     exact⟨.inl ⟨⟨rfl,hS⟩,rfl⟩,.bool _⟩
theorem S_kSeals {m:Mem} {x y:AV} {K:AV->Mem->Prop} {n k:Nat} {S T:Nat->Nat->Int} (hx:aU m x 32 n (nX S)) (hy:aU m y 32 k (nX T)) (hn:n<=1000000) (hk:k<=1000000)
 (h1:n=k->(∀ i,i<n->∀ j,j<32->S i j=T i j)->K (.bool true) m) (h2:¬ (n=k/\∀ i,i<n->∀ j,j<32->S i j=T i j)->K (.bool false) m):ACall Pg gI [x,y] m K:=by
 obtain⟨c1,g1⟩:=hx
 obtain⟨c2,g2⟩:=hy
 refine aC (S_kSeals0 n c1 k c2 S T hn hk) (.cons _ _ _ _ g1 (.cons _ _ _ _ g2 .nil)) ?_
 rintro v (⟨h,rfl⟩ | ⟨h,rfl⟩)
 · exact h1 h.1 h.2
 · exact h2 h
end Go.Proofs.YtfolpdmbpbbimaaGreat
end

section
namespace Go.Proofs.YtfolpdmbpbbimaaGreat
open Go Go.Wit
theorem S_kPoint_eqE {m:Mem} {K:AV->Mem->Prop} {v w:AV} {i:Bool} {x y:Nat} (hv:v=rawA i x y) (hw:w=rawA i x y) (hx:x<w256) (hy:y<w256) (h:K (.bool true) m):ACall Pg cM [v,w] m K:=by
 subst hv hw;exact S_kPoint_eq hx hy h
theorem S_kActE0 (k:Int) (i:Bool) (x y:Nat) (s:ByteArray) (ns c1 d1:Nat) (S:Nat->Nat->Int) (nc c2 d2:Nat) (I:Nat->Bool) (X Y:Nat->Nat) (ag:Int) (c r:Nat) (hx:x<w256) (hy:y<w256) (hns:ns<=1000000) (hnc:nc<=1000000) (hX:∀ j,j<nc->X j<w256) (hY:∀ j,j<nc->Y j<w256):
 ACall Pg eH [actV k i x y s ns c1 S nc c2 I X Y ag c r,actV k i x y s ns d1 S nc d2 I X Y ag c r] [] (fun v _=>v= .bool true/\Flat true v):=by
 refine B_witankeep_Act ⟨rfl,?_⟩
 conv=>whnf
 repeat (refine⟨⟨_,rfl⟩,?_⟩;conv=>whnf)
 refine bP (by simp) ?_
 conv=>whnf
 repeat (refine⟨⟨_,rfl⟩,?_⟩;conv=>whnf)
 refine S_kPoint_eqE (i:=i) (x:=x) (y:=y) rfl rfl hx hy ?_
 conv=>whnf
 repeat (refine⟨⟨_,rfl⟩,?_⟩;conv=>whnf)
 refine bP (Eq.trans (b:=((s.toList == s.toList) == true)) rfl (by simp)) ?_
 conv=>whnf
 repeat (refine⟨⟨_,rfl⟩,?_⟩;conv=>whnf)
 refine S_kSeals (n:=ns) (k:=ns) (S:=S) (T:=S) (aU.vsl fun i j _ _=>uP) (aU.vsl fun i j _ _=>uP) hns hns (fun _ _=> ?_) (fun h=>absurd ⟨rfl,fun _ _ _ _=>rfl⟩ h)
 conv=>whnf
 repeat (refine⟨⟨_,rfl⟩,?_⟩;conv=>whnf)
 refine S_kPoints (n:=nc) (I:=I) (X:=X) (Y:=Y) (aU.vsl fun i j _ _=>jE) (aU.vsl fun i j _ _=>jE) hX hY (by omega) ?_
 conv=>whnf
 repeat (refine⟨⟨_,rfl⟩,?_⟩;conv=>whnf)
 refine bP (by simp) ?_
 conv=>whnf
 repeat (refine⟨⟨_,rfl⟩,?_⟩;conv=>whnf)
 refine S_kProof (c:=c) (r:=r) rfl rfl ?_
 conv=>whnf
 repeat (refine⟨⟨_,rfl⟩,?_⟩;conv=>whnf)
 exact⟨rfl,.bool _⟩
theorem pN {m:Mem} {K:AV->Mem->Prop} {v w:AV} {k:Int} {i:Bool} {x y:Nat} {s:ByteArray} {sl co sl' co':AV} {ns:Nat} {S:Nat->Nat->Int} {nc:Nat} {I:Nat->Bool} {X Y:Nat->Nat} {ag:Int} {c r:Nat} (hv:v=actA k i x y s sl co ag c r) (hw:w=actA k i x y s sl' co' ag c r) (h1:aU m sl 32 ns (nX S)) (h2:aU m co 9 nc (kQ I X Y)) (h3:aU m sl' 32 ns (nX S)) (h4:aU m co' 9 nc (kQ I X Y))
 (hx:x<w256) (hy:y<w256) (hns:ns<=1000000) (hnc:nc<=1000000) (hX:∀ j,j<nc->X j<w256) (hY:∀ j,j<nc->Y j<w256) (h:K (.bool true) m):ACall Pg eH [v,w] m K:=by
 subst hv hw
 obtain⟨c1,g1⟩:=h1
 obtain⟨c2,g2⟩:=h2
 obtain⟨d1,g3⟩:=h3
 obtain⟨d2,g4⟩:=h4
 refine aC (S_kActE0 k i x y s ns c1 d1 S nc c2 d2 I X Y ag c r hx hy hns hnc hX hY) (.cons _ _ _ _ (lend_act g1 g2) (.cons _ _ _ _ (lend_act g3 g4) .nil)) ?_
 rintro v rfl
 exact h
end Go.Proofs.YtfolpdmbpbbimaaGreat
end

section
namespace Go.Proofs.YtfolpdmbpbbimaaGreat
open Go Go.Wit
theorem sS {m:Mem} {x:AV} {K:AV->Mem->Prop} {n:Nat} {f:Nat->Int} (hx:aO m x n f) (hn:n<=16384) (hf:∀ i,i<n->0<=f i/\f i<=255)
 (h1:∀ P c r,On P->P=nmul (coN n f 0) hhP->c=prfC (coN n f 0) (drwN noB n f 0) hhP->r=prfR (coN n f 0) (drwN noB n f 0) c->c<nN->r<nN->K (actA 4 (isI P) (xN P) (yN P) nB .nils .nils 0 c r) m):ACall Pg fB [x] m K:=by
 have h0:∀ cap,ACall Pg fB [.vsl 1 n cap (aD f)] [] (fun v _=>(∃ P c r,On P/\P=nmul (coN n f 0) hhP/\c=prfC (coN n f 0) (drwN noB n f 0) hhP/\r=prfR (coN n f 0) (drwN noB n f 0) c/\c<nN/\r<nN/\v=actA 4 (isI P) (xN P) (yN P) nB .nils .nils 0 c r)/\Flat true v):=fun cap=>by
  refine rF ⟨rfl,?_⟩
  conv=>whnf
  repeat (refine⟨⟨_,rfl⟩,?_⟩;conv=>whnf)
  refine S_RPoly (n:=n) (t:=0) (f:=f) aO.vsl hn (by decide) hf (fun a c1 ha ha1 ha0=> ?_)
  conv=>whnf
  repeat (refine⟨⟨_,rfl⟩,?_⟩;conv=>whnf)
  refine⟨?_,?_⟩
  · conv=>whnf
    repeat (refine⟨⟨_,rfl⟩,?_⟩;conv=>whnf)
    refine⟨?_,?_⟩
    · conv=>whnf
      repeat (refine⟨⟨_,rfl⟩,?_⟩;conv=>whnf)
      refine S_rcBase (fun H hH oH=> ?_)
      conv=>whnf
      repeat (refine⟨⟨_,rfl⟩,?_⟩;conv=>whnf)
      refine T_rTimesE (n:=a 0) (P:=H) (wP (n:=0+1) rfl) rfl (Nat.lt_trans (ha1 0) (by decide)) oH (fun P oP hP=> ?_)
      conv=>whnf
      repeat (refine⟨⟨_,rfl⟩,?_⟩;conv=>whnf)
      refine S_nonce (n:=n) (i:=0) (f:=f) aO.vsl hn hf (by decide) (fun b hb hb1=> ?_)
      conv=>whnf
      repeat (refine⟨⟨_,rfl⟩,?_⟩;conv=>whnf)
      refine S_RProveE (s:=a 0) (k:=b) (b:=H) (wP (n:=0+1) rfl) rfl rfl (Nat.lt_trans (ha1 0) (by decide)) (Nat.lt_trans hb1 (by decide)) oH (fun c r hc hr hc1 hr1=> ?_)
      conv=>whnf
      repeat (refine⟨⟨_,rfl⟩,?_⟩;conv=>whnf)
      refine⟨⟨P,c,r,oP,by rw [hP,ha,hH],by rw [hc,ha,hb,hH],by rw [hr,ha,hb],hc1,hr1,rfl⟩,?_⟩
      show Flat true (actA 4 (isI P) (xN P) (yN P) nB .nils .nils 0 c r)
      exact mA .nils .nils
    · refine S_rcBase (fun H hH oH=> ?_)
      conv=>whnf
      repeat (refine⟨⟨_,rfl⟩,?_⟩;conv=>whnf)
      conv=>whnf
      repeat (refine⟨⟨_,rfl⟩,?_⟩;conv=>whnf)
      refine T_rTimesE (n:=a 0) (P:=H) (wP (n:=0+1) rfl) rfl (Nat.lt_trans (ha1 0) (by decide)) oH (fun P oP hP=> ?_)
      conv=>whnf
      repeat (refine⟨⟨_,rfl⟩,?_⟩;conv=>whnf)
      refine S_nonce (n:=n) (i:=0) (f:=f) aO.vsl hn hf (by decide) (fun b hb hb1=> ?_)
      conv=>whnf
      repeat (refine⟨⟨_,rfl⟩,?_⟩;conv=>whnf)
      refine S_RProveE (s:=a 0) (k:=b) (b:=H) (wP (n:=0+1) rfl) rfl rfl (Nat.lt_trans (ha1 0) (by decide)) (Nat.lt_trans hb1 (by decide)) oH (fun c r hc hr hc1 hr1=> ?_)
      conv=>whnf
      repeat (refine⟨⟨_,rfl⟩,?_⟩;conv=>whnf)
      refine⟨⟨P,c,r,oP,by rw [hP,ha,hH],by rw [hc,ha,hb,hH],by rw [hr,ha,hb],hc1,hr1,rfl⟩,?_⟩
      show Flat true (actA 4 (isI P) (xN P) (yN P) nB .nils .nils 0 c r)
      exact mA .nils .nils
  · refine S_rcBase (fun H hH oH=> ?_)
    conv=>whnf
    repeat (refine⟨⟨_,rfl⟩,?_⟩;conv=>whnf)
    conv=>whnf
    repeat (refine⟨⟨_,rfl⟩,?_⟩;conv=>whnf)
    refine T_rTimesE (n:=a 0) (P:=H) (wP (n:=0+1) rfl) rfl (Nat.lt_trans (ha1 0) (by decide)) oH (fun P oP hP=> ?_)
    conv=>whnf
    repeat (refine⟨⟨_,rfl⟩,?_⟩;conv=>whnf)
    refine S_nonce (n:=n) (i:=0) (f:=f) aO.vsl hn hf (by decide) (fun b hb hb1=> ?_)
    conv=>whnf
    repeat (refine⟨⟨_,rfl⟩,?_⟩;conv=>whnf)
    refine S_RProveE (s:=a 0) (k:=b) (b:=H) (wP (n:=0+1) rfl) rfl rfl (Nat.lt_trans (ha1 0) (by decide)) (Nat.lt_trans hb1 (by decide)) oH (fun c r hc hr hc1 hr1=> ?_)
    conv=>whnf
    repeat (refine⟨⟨_,rfl⟩,?_⟩;conv=>whnf)
    refine⟨⟨P,c,r,oP,by rw [hP,ha,hH],by rw [hc,ha,hb,hH],by rw [hr,ha,hb],hc1,hr1,rfl⟩,?_⟩
    show Flat true (actA 4 (isI P) (xN P) (yN P) nB .nils .nils 0 c r)
    exact mA .nils .nils
 obtain⟨cap,hl⟩:=hx
 refine aC (h0 cap) (.cons _ _ _ _ hl .nil) ?_
 rintro v ⟨P,c,r,g1,g2,g3,g4,g5,g6,rfl⟩
 exact h1 P c r g1 g2 g3 g4 g5 g6
end Go.Proofs.YtfolpdmbpbbimaaGreat
end

