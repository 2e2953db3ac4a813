/- Texts of a proof, one behind the other; the last of these: Seals; no condition. -/
import Derived.Test.YtfolpdmbpbbimaaGreatZ7
import Derived.Laws.RangeString
import Derived.Test.YtfolpdmbpbbimaaGreatProg
import Derived.Tactics
import Derived.Tactics2
import Derived.StillTactics
import Derived.Laws.AppendOwn
import Derived.Laws.Runes
import Derived.Laws.CopyRow
import Derived.Laws.Shifts
import Derived.Laws.Rows
import Derived.Laws.BitsLemmas
import Derived.Laws.Tables
import Derived.Laws.NewBlocks
import Derived.Laws.Unary
import Derived.Laws.Strings
import Derived.Laws.ShiftsVarLaws
import Derived.Laws.Bits
import Derived.Laws.Strings2
import Derived.Laws.Wrap64
import Derived.Laws.RangeAny
import Derived.Laws.Entries
import Derived.Laws.World
import Derived.Laws.Strings3
import Derived.Laws.Sem
import Derived.Laws.Small
import Derived.Scope
import Derived.FnLit
import Derived.LoopTactic
import Derived.Handy
set_option linter.unusedVariables false
set_option linter.unusedSimpArgs false
set_option maxRecDepth 100000
section
namespace Go.Proofs.YtfolpdmbpbbimaaGreat
open Go Go.Wit
theorem updU {nv:Bool} {σ:Nat->Option Nat} {w w':Nat->Int} {N k x y:Nat} {v:Int} {A:AV} (hy:y<1) (hA:A=updG ⟨1,N,u32G w⟩ k 0 1 [.int .u32 v] x y) (h1:v=w' k) (h2:∀ i,i ≠ k->w' i=w i):RV nv σ A (u32G w' x y):=by
 subst hA
 obtain rfl:y=0:=by omega
 have:updG ⟨1,N,u32G w⟩ k 0 1 [.int .u32 v] x 0=u32G w' x 0:=by
  rw [pG]
  by_cases h:x=k
  · rw [if_pos h,h,h1];rfl
  · rw [if_neg h];simp only [u32G,h2 x h]
 rw [this];exact .eq _ _ rfl (.int _ _)
theorem addSwap (a c s t:Int):addU (addU (addU a c) s) t=addU (addU (addU a s) c) t:=by
 simp only [addU,wu32]
 omega
theorem or_byte32 {a b:Int} (ha:0<=a/\a<16777216) (hb:0<=b/\b<=255):eE .or .u32 (a*256) b=a*256+b:=by
 obtain⟨A,rfl⟩ :∃ A:Nat,a=A:=⟨a.toNat,by omega⟩
 obtain⟨B,rfl⟩ :∃ B:Nat,b=B:=⟨b.toNat,by omega⟩
 have h1:BitVec.ofInt 32 ((A:Int)*256)=BitVec.ofNat 32 (256*A):=by
  rw [show ((A:Int)*256)=((256*A:Nat):Int) by omega,BitVec.ofInt_natCast]
 have h2:BitVec.ofInt 32 (B:Int)=BitVec.ofNat 32 B:=BitVec.ofInt_natCast _ _
 show IntKind.u32.wrap ((BitVec.ofInt 32 ((A:Int)*256) ||| BitVec.ofInt 32 (B:Int)).toNat)=_
 rw [h1,h2,BitVec.toNat_or,BitVec.toNat_ofNat,BitVec.toNat_ofNat,Nat.mod_eq_of_lt (by omega),Nat.mod_eq_of_lt (by omega)]
 have h3:=Nat.two_pow_add_eq_or_of_lt (i:=8) (b:=B) (by omega) A
 rw [show (256:Nat)=2 ^ 8 from rfl,<- h3,wu32]
 omega
theorem gatherV {B:Nat->Int} {p i:Nat} (hB:∀ i,0<=B i/\B i<=255) (hi:i<4):eE .or .u32 (IntKind.u32.wrap (getV B p i*2 ^ 8)) (IntKind.u32.wrap (B (p+i)))=getV B p (i+1):=by
 obtain⟨g1,g2⟩:=getV_lt (f:=B) (p:=p) (k:=i) (fun i _=>hB _)
 have g3:(256:Int) ^ i<=256 ^ 3:=by
  have:256 ^ i<=256 ^ 3:=Nat.pow_le_pow_right (by omega) (by omega)
  exact_mod_cast this
 have g4:=hB (p+i)
 rw [show IntKind.u32.wrap (B (p+i))=B (p+i) by rw [wu32];omega,show IntKind.u32.wrap (getV B p i*2 ^ 8)=getV B p i*256 by rw [wu32];omega,or_byte32 (by omega) g4,getV]
set_option maxHeartbeats 4000000 in
theorem S_Sum2560 (n cap:Nat) (f:Nat->Int) (hn:n<=1000000) (hf:∀ i,i<n->0<=f i/\f i<=255):ACall Pg cB [.vsl 1 n cap (aB f)] [] (fun v _=>v= .agg (sumL n f)/\Flat true v):=by
 obtain⟨p1,p2,p3⟩:=padN_ge n
 refine tG ⟨rfl,?_⟩
 conv=>whnf
 refine S_k256R ?_
 generalize hkt:kTab=kt
 conv=>whnf
 refine S_refPaddedC (f:=f) bA.vsl hn (fun capp hcapp=> ?_)
 conv=>whnf
 have hb:=padF_lt hf
 generalize hB:padF n f=b at*
 refine aR aH (I:=fun q l m=>∃ (j:Nat),l= [(2,.ptr 0 0 0),(3,.ptr 1 0 0),(4,.ptr 2 0 0),(5,.sl 3 0 (padN n) (capp+1)),(6,.int .i64 ((64*j:Nat):Int))] /\ m= [some ⟨1,32,fun _ _=> .int .u8 0⟩,some ⟨1,64,u32G kt⟩,some ⟨1,8,u32G (Hn b j)⟩,some ⟨1,padN n,aB b⟩] /\ q+j=padN n / 64) (padN n / 64)
  (l0:= [(2,.ptr 0 0 0),(3,.ptr 1 0 0),(4,.ptr 2 0 0),(5,.sl 3 0 (padN n) (capp+1)),(6,.int .i64 ((64*0:Nat):Int))]) (m0:= [some ⟨1,32,fun _ _=> .int .u8 0⟩,some ⟨1,64,u32G kt⟩,some ⟨1,8,u32G hTab⟩,some ⟨1,padN n,aB b⟩]) [some 0,some 1,some 2,some 3] ⟨0,rfl,rfl,by omega⟩ ?_ ?_
 · refine .mk0 ⟨.ptr _ _ _ _ rfl,.ptr _ _ _ _ rfl,.ptr _ _ _ _ rfl,.sl _ _ _ _ _ rfl,Flat.i rfl,trivial⟩ ⟨.old 0 0 _ _ rfl rfl ⟨rfl,Nat.le_refl _,fun i j hi hj=>oneU0 hj rfl⟩,.old 1 1 _ _ rfl rfl ⟨rfl,Nat.le_refl _,fun i j hi hj=>kRow hi hj rfl⟩,
    .old 2 2 _ _ rfl rfl ⟨rfl,Nat.le_refl _,fun i j hi hj=> ?_⟩,.old 3 3 _ _ rfl rfl ⟨rfl,Nat.le_refl _,fun i j hi hj=> .eq _ _ rfl (.int _ _)⟩,trivial⟩ rfl rfl
   exact eight hi hj rfl rfl rfl rfl rfl rfl rfl rfl
 · rintro q l m ⟨j,rfl,rfl,hq⟩
   conv=>whnf
   refine aE (fun hc=> ?_) (fun hc=> ?_)
   · have hc:64*j<padN n:=by simp at hc;omega
     conv=>whnf
     have hj:j<padN n / 64:=by omega
     generalize hH:Hn b j=h
     refine aR aH (I:=fun q' l m=>∃ (k:Nat),l= [(2,.ptr 0 0 0),(3,.ptr 1 0 0),(4,.ptr 2 0 0),(5,.sl 3 0 (padN n) (capp+1)),(6,.int .i64 ((64*j:Nat):Int)),(7,.ptr 4 0 0),(8,.int .i64 k)] /\
      m= [some ⟨1,32,fun _ _=> .int .u8 0⟩,some ⟨1,64,u32G kt⟩,some ⟨1,8,u32G h⟩,some ⟨1,padN n,aB b⟩,some ⟨1,64,u32G (Wn (blkB b j) k)⟩] /\ q'+k=64) 64
      (l0:= [(2,.ptr 0 0 0),(3,.ptr 1 0 0),(4,.ptr 2 0 0),(5,.sl 3 0 (padN n) (capp+1)),(6,.int .i64 ((64*j:Nat):Int)),(7,.ptr 4 0 0),(8,.int .i64 (0:Nat))])
      (m0:= [some ⟨1,32,fun _ _=> .int .u8 0⟩,some ⟨1,64,u32G kt⟩,some ⟨1,8,u32G h⟩,some ⟨1,padN n,aB b⟩,some ⟨1,64,u32G (Wn (blkB b j) 0)⟩]) [some 0,some 1,some 2,some 3,some 4] ⟨0,rfl,rfl,rfl⟩ ?_ ?_
     · refine .mk0 ⟨.ptr _ _ _ _ rfl,.ptr _ _ _ _ rfl,.ptr _ _ _ _ rfl,.sl _ _ _ _ _ rfl,Flat.i rfl,.ptr _ _ _ _ rfl,Flat.i rfl,trivial⟩ ⟨.old 0 0 _ _ rfl rfl ⟨rfl,Nat.le_refl _,fun i j hi hj=> .eq _ _ rfl (.int _ _)⟩,.old 1 1 _ _ rfl rfl ⟨rfl,Nat.le_refl _,fun i j hi hj=> .eq _ _ rfl (.int _ _)⟩,.old 2 2 _ _ rfl rfl ⟨rfl,Nat.le_refl _,fun i j hi hj=> .eq _ _ rfl (.int _ _)⟩,.old 3 3 _ _ rfl rfl ⟨rfl,Nat.le_refl _,fun i j hi hj=> .eq _ _ rfl (.int _ _)⟩,.old 4 4 _ _ rfl rfl ⟨rfl,Nat.le_refl _,fun i j hi hj=> ?_⟩,trivial⟩ rfl rfl
       have hj:j<1:=hj
       obtain rfl:j=0:=by omega
       exact .eq _ _ rfl (.int _ _)
     · rintro q' l m ⟨k,rfl,rfl,hk⟩
       conv=>whnf
       refine aE (fun hc=> ?_) (fun hc=> ?_)
       · have hc:k<64:=by simp at hc;omega
         conv=>whnf
         refine aE (fun hd=> ?_) (fun hd=> ?_)
         · have hd:k<16:=by simp at hd;omega
           conv=>whnf
           refine aR aH (I:=fun q2 l m=>∃ (i:Nat),l= [(2,.ptr 0 0 0),(3,.ptr 1 0 0),(4,.ptr 2 0 0),(5,.sl 3 0 (padN n) (capp+1)),(6,.int .i64 ((64*j:Nat):Int)),(7,.ptr 4 0 0),(8,.int .i64 k),(9,.int .i64 i)] /\
            m= [some ⟨1,32,fun _ _=> .int .u8 0⟩,some ⟨1,64,u32G kt⟩,some ⟨1,8,u32G h⟩,some ⟨1,padN n,aB b⟩,some ⟨1,64,u32G (fun x=>if x=k then getV (blkB b j) (4*k) i else Wn (blkB b j) k x)⟩] /\ q2+i=4) 4
            (l0:= [(2,.ptr 0 0 0),(3,.ptr 1 0 0),(4,.ptr 2 0 0),(5,.sl 3 0 (padN n) (capp+1)),(6,.int .i64 ((64*j:Nat):Int)),(7,.ptr 4 0 0),(8,.int .i64 k),(9,.int .i64 (0:Nat))])
            (m0:= [some ⟨1,32,fun _ _=> .int .u8 0⟩,some ⟨1,64,u32G kt⟩,some ⟨1,8,u32G h⟩,some ⟨1,padN n,aB b⟩,some ⟨1,64,u32G (fun x=>if x=k then getV (blkB b j) (4*k) 0 else Wn (blkB b j) k x)⟩]) [some 0,some 1,some 2,some 3,some 4] ⟨0,rfl,rfl,rfl⟩ ?_ ?_
           · refine .mk0 ⟨.ptr _ _ _ _ rfl,.ptr _ _ _ _ rfl,.ptr _ _ _ _ rfl,.sl _ _ _ _ _ rfl,Flat.i rfl,.ptr _ _ _ _ rfl,Flat.i rfl,Flat.i rfl,trivial⟩ ⟨.old 0 0 _ _ rfl rfl ⟨rfl,Nat.le_refl _,fun i j hi hj=> .eq _ _ rfl (.int _ _)⟩,.old 1 1 _ _ rfl rfl ⟨rfl,Nat.le_refl _,fun i j hi hj=> .eq _ _ rfl (.int _ _)⟩,.old 2 2 _ _ rfl rfl ⟨rfl,Nat.le_refl _,fun i j hi hj=> .eq _ _ rfl (.int _ _)⟩,.old 3 3 _ _ rfl rfl ⟨rfl,Nat.le_refl _,fun i j hi hj=> .eq _ _ rfl (.int _ _)⟩,.old 4 4 _ _ rfl rfl ⟨rfl,Nat.le_refl _,fun x y hx hy=> ?_⟩,trivial⟩ rfl rfl
             have e:Wn (blkB b j) k k=0:=Wn_ge _ k k (Nat.le_refl _)
             refine .eq _ _ ?_ (.int _ _)
             simp only [u32G]
             by_cases hx:x=k
             · rw [if_pos hx,hx,e];rfl
             · rw [if_neg hx]
           · rintro q2 l m ⟨i,rfl,rfl,hi⟩
             conv=>whnf
             refine aE (fun he=> ?_) (fun he=> ?_)
             · have he:i<4:=by simp at he;omega
               conv=>whnf
               have e1:IntKind.i64.wrap (4*(k:Int))=((4*k:Nat):Int):=by rw [w64 (by omega) (by omega)];omega
               have e2:IntKind.i64.wrap (((64*j:Nat):Int)+((4*k:Nat):Int))=((64*j+4*k:Nat):Int):=by rw [w64 (by omega) (by omega)];omega
               have e3:IntKind.i64.wrap (((64*j+4*k:Nat):Int)+(i:Int))=((64*j+4*k+i:Nat):Int):=by rw [w64 (by omega) (by omega)];omega
               refine aA (by simp;omega) ?_
               conv=>whnf
               simp only [Int.toNat_natCast,Nat.zero_add]
               refine aA (by simp [bI,Nat.ble_eq];omega) ?_
               conv=>whnf
               simp only [e1,e2,e3]
               refine aA (by simp;omega) ?_
               conv=>whnf
               simp only [Int.toNat_natCast,Nat.zero_add]
               refine aA (by simp [bI,Nat.ble_eq];omega) ?_
               conv=>whnf
               refine aA (by simp;omega) ?_
               conv=>whnf
               simp only [Int.toNat_natCast,Nat.zero_add]
               refine aA (by simp [bI,Nat.ble_eq];omega) ?_
               conv=>whnf
               have e5:IntKind.i64.wrap ((i:Int)+1)=((i+1:Nat):Int):=by rw [w64 (by omega) (by omega)];omega
               refine⟨q2 - 1,[(2,.ptr 0 0 0),(3,.ptr 1 0 0),(4,.ptr 2 0 0),(5,.sl 3 0 (padN n) (capp+1)),(6,.int .i64 ((64*j:Nat):Int)),(7,.ptr 4 0 0),(8,.int .i64 k),(9,.int .i64 ((i+1:Nat):Int))],
                [some ⟨1,32,fun _ _=> .int .u8 0⟩,some ⟨1,64,u32G kt⟩,some ⟨1,8,u32G h⟩,some ⟨1,padN n,aB b⟩,some ⟨1,64,u32G (fun x=>if x=k then getV (blkB b j) (4*k) (i+1)else Wn (blkB b j) k x)⟩],[some 0,some 1,some 2,some 3,some 4],by omega,⟨i+1,rfl,rfl,by omega⟩,?_⟩
               refine .mk0 ⟨.ptr _ _ _ _ rfl,.ptr _ _ _ _ rfl,.ptr _ _ _ _ rfl,.sl _ _ _ _ _ rfl,Flat.i rfl,.ptr _ _ _ _ rfl,Flat.i rfl,Flat.i e5,trivial⟩ ⟨.old 0 0 _ _ rfl rfl ⟨rfl,Nat.le_refl _,fun i j hi hj=> .eq _ _ rfl (.int _ _)⟩,.old 1 1 _ _ rfl rfl ⟨rfl,Nat.le_refl _,fun i j hi hj=> .eq _ _ rfl (.int _ _)⟩,.old 2 2 _ _ rfl rfl ⟨rfl,Nat.le_refl _,fun i j hi hj=> .eq _ _ rfl (.int _ _)⟩,.old 3 3 _ _ rfl rfl ⟨rfl,Nat.le_refl _,fun i j hi hj=> .eq _ _ rfl (.int _ _)⟩,.old 4 4 _ _ rfl rfl ⟨rfl,Nat.le_refl _,fun x y hx hy=> ?_⟩,trivial⟩ rfl rfl
               refine updU (w:=fun x=>if x=k then getV (blkB b j) (4*k) i else Wn (blkB b j) k x) (w':=fun x=>if x=k then getV (blkB b j) (4*k) (i+1)else Wn (blkB b j) k x) hy rfl ?_ (fun x hx=>by simp only [if_neg hx])
               have:=gatherV (B:=blkB b j) (p:=4*k) (i:=i) (fun _=>hb _) he
               simp only [if_true]
               rw [<- this]
               simp only [blkB,Nat.add_assoc]
               rfl
             · have he:i=4:=by simp at he;omega
               subst he
               conv=>whnf
               have e4:IntKind.i64.wrap ((k:Int)+1)=((k+1:Nat):Int):=by rw [w64 (by omega) (by omega)];omega
               refine⟨q' - 1,[(2,.ptr 0 0 0),(3,.ptr 1 0 0),(4,.ptr 2 0 0),(5,.sl 3 0 (padN n) (capp+1)),(6,.int .i64 ((64*j:Nat):Int)),(7,.ptr 4 0 0),(8,.int .i64 ((k+1:Nat):Int))],
                [some ⟨1,32,fun _ _=> .int .u8 0⟩,some ⟨1,64,u32G kt⟩,some ⟨1,8,u32G h⟩,some ⟨1,padN n,aB b⟩,some ⟨1,64,u32G (Wn (blkB b j) (k+1))⟩],[some 0,some 1,some 2,some 3,some 4],by omega,⟨k+1,rfl,rfl,by omega⟩,?_⟩
               refine .mk0 ⟨.ptr _ _ _ _ rfl,.ptr _ _ _ _ rfl,.ptr _ _ _ _ rfl,.sl _ _ _ _ _ rfl,Flat.i rfl,.ptr _ _ _ _ rfl,Flat.i e4,trivial⟩ ⟨.old 0 0 _ _ rfl rfl ⟨rfl,Nat.le_refl _,fun i j hi hj=> .eq _ _ rfl (.int _ _)⟩,.old 1 1 _ _ rfl rfl ⟨rfl,Nat.le_refl _,fun i j hi hj=> .eq _ _ rfl (.int _ _)⟩,.old 2 2 _ _ rfl rfl ⟨rfl,Nat.le_refl _,fun i j hi hj=> .eq _ _ rfl (.int _ _)⟩,.old 3 3 _ _ rfl rfl ⟨rfl,Nat.le_refl _,fun i j hi hj=> .eq _ _ rfl (.int _ _)⟩,.old 4 4 _ _ rfl rfl ⟨rfl,Nat.le_refl _,fun x y hx hy=> ?_⟩,trivial⟩ rfl rfl
               refine .eq _ _ ?_ (.int _ _)
               simp only [u32G]
               by_cases hx:x=k
               · rw [if_pos hx,show Wn (blkB b j) (k+1) x=newW (blkB b j) k (Wn (blkB b j) k)from if_pos hx,newW,if_pos hd]
               · rw [if_neg hx,show Wn (blkB b j) (k+1) x=Wn (blkB b j) k x from if_neg hx]
         · have hd:¬ k<16:=by simp at hd;omega
           conv=>whnf
           have e1:IntKind.i64.wrap ((k:Int) - 15)=((k - 15:Nat):Int):=by rw [w64 (by omega) (by omega)];omega
           have e2:IntKind.i64.wrap ((k:Int) - 2)=((k - 2:Nat):Int):=by rw [w64 (by omega) (by omega)];omega
           have e3:IntKind.i64.wrap ((k:Int) - 16)=((k - 16:Nat):Int):=by rw [w64 (by omega) (by omega)];omega
           have e4:IntKind.i64.wrap ((k:Int) - 7)=((k - 7:Nat):Int):=by rw [w64 (by omega) (by omega)];omega
           simp only [e1]
           refine aA (by simp;omega) ?_
           conv=>whnf
           simp only [Int.toNat_natCast,Nat.zero_add]
           refine aA (by simp [bI,Nat.ble_eq];omega) ?_
           conv=>whnf
           simp only [e2]
           refine aA (by simp;omega) ?_
           conv=>whnf
           simp only [Int.toNat_natCast,Nat.zero_add]
           refine aA (by simp [bI,Nat.ble_eq];omega) ?_
           conv=>whnf
           simp only [e3]
           refine aA (by simp;omega) ?_
           conv=>whnf
           simp only [Int.toNat_natCast,Nat.zero_add]
           refine aA (by simp [bI,Nat.ble_eq];omega) ?_
           conv=>whnf
           simp only [e4]
           refine aA (by simp;omega) ?_
           conv=>whnf
           simp only [Int.toNat_natCast,Nat.zero_add]
           refine aA (by simp [bI,Nat.ble_eq];omega) ?_
           conv=>whnf
           refine nL _ _ ?_
           conv=>whnf
           refine⟨⟨[],rfl⟩,?_⟩
           conv=>whnf
           refine nL _ _ ?_
           conv=>whnf
           refine⟨⟨[],rfl⟩,?_⟩
           conv=>whnf
           refine nL _ _ ?_
           conv=>whnf
           refine⟨⟨[],rfl⟩,?_⟩
           conv=>whnf
           refine nL _ _ ?_
           conv=>whnf
           refine⟨⟨[],rfl⟩,?_⟩
           conv=>whnf
           refine aA (by simp;omega) ?_
           conv=>whnf
           simp only [Int.toNat_natCast,Nat.zero_add]
           refine aA (by simp [bI,Nat.ble_eq];omega) ?_
           conv=>whnf
           have e5:IntKind.i64.wrap ((k:Int)+1)=((k+1:Nat):Int):=by rw [w64 (by omega) (by omega)];omega
           have eW:Wn (blkB b j) (k+1) k=addU (addU (addU (Wn (blkB b j) k (k - 16)) (sigA (Wn (blkB b j) k (k - 15)))) (Wn (blkB b j) k (k - 7))) (sigB (Wn (blkB b j) k (k - 2))):=by
            rw [show Wn (blkB b j) (k+1) k=newW (blkB b j) k (Wn (blkB b j) k)from if_pos rfl,newW,if_neg hd]
           refine⟨q' - 1,[(2,.ptr 0 0 0),(3,.ptr 1 0 0),(4,.ptr 2 0 0),(5,.sl 3 0 (padN n) (capp+1)),(6,.int .i64 ((64*j:Nat):Int)),(7,.ptr 4 0 0),(8,.int .i64 ((k+1:Nat):Int))],
            [some ⟨1,32,fun _ _=> .int .u8 0⟩,some ⟨1,64,u32G kt⟩,some ⟨1,8,u32G h⟩,some ⟨1,padN n,aB b⟩,some ⟨1,64,u32G (Wn (blkB b j) (k+1))⟩],[some 0,some 1,some 2,some 3,some 4],by omega,⟨k+1,rfl,rfl,by omega⟩,?_⟩
           refine .mk0 ⟨.ptr _ _ _ _ rfl,.ptr _ _ _ _ rfl,.ptr _ _ _ _ rfl,.sl _ _ _ _ _ rfl,Flat.i rfl,.ptr _ _ _ _ rfl,Flat.i e5,trivial⟩ ⟨.old 0 0 _ _ rfl rfl ⟨rfl,Nat.le_refl _,fun i j hi hj=> .eq _ _ rfl (.int _ _)⟩,.old 1 1 _ _ rfl rfl ⟨rfl,Nat.le_refl _,fun i j hi hj=> .eq _ _ rfl (.int _ _)⟩,.old 2 2 _ _ rfl rfl ⟨rfl,Nat.le_refl _,fun i j hi hj=> .eq _ _ rfl (.int _ _)⟩,.old 3 3 _ _ rfl rfl ⟨rfl,Nat.le_refl _,fun i j hi hj=> .eq _ _ rfl (.int _ _)⟩,.old 4 4 _ _ rfl rfl ⟨rfl,Nat.le_refl _,fun x y hx hy=> ?_⟩,trivial⟩ rfl rfl
           refine updU (w:=Wn (blkB b j) k) (w':=Wn (blkB b j) (k+1)) hy rfl ?_ (fun x hx=>if_neg hx)
           rw [eW]
           exact addSwap (Wn (blkB b j) k (k - 16)) (Wn (blkB b j) k (k - 7)) (sigA (Wn (blkB b j) k (k - 15))) (sigB (Wn (blkB b j) k (k - 2)))
       · have hc:k=64:=by simp at hc;omega
         subst hc
         conv=>whnf
         generalize hW:Wn (blkB b j) 64=w
         refine aR aH (I:=fun q' l m=>∃ (k:Nat),l= [(2,.ptr 0 0 0),(3,.ptr 1 0 0),(4,.ptr 2 0 0),(5,.sl 3 0 (padN n) (capp+1)),(6,.int .i64 ((64*j:Nat):Int)),(7,.ptr 4 0 0),(12,.ptr 5 0 0),(13,.int .i64 k)] /\
          m= [some ⟨1,32,fun _ _=> .int .u8 0⟩,some ⟨1,64,u32G kt⟩,some ⟨1,8,u32G h⟩,some ⟨1,padN n,aB b⟩,some ⟨1,64,u32G w⟩,some ⟨1,8,u32G (Rn h w k)⟩] /\ q'+k=64) 64
          (l0:= [(2,.ptr 0 0 0),(3,.ptr 1 0 0),(4,.ptr 2 0 0),(5,.sl 3 0 (padN n) (capp+1)),(6,.int .i64 ((64*j:Nat):Int)),(7,.ptr 4 0 0),(12,.ptr 5 0 0),(13,.int .i64 (0:Nat))])
          (m0:= [some ⟨1,32,fun _ _=> .int .u8 0⟩,some ⟨1,64,u32G kt⟩,some ⟨1,8,u32G h⟩,some ⟨1,padN n,aB b⟩,some ⟨1,64,u32G w⟩,some ⟨1,8,u32G (Rn h w 0)⟩]) [some 0,some 1,some 2,some 3,some 4,some 5] ⟨0,rfl,rfl,rfl⟩ ?_ ?_
         · refine .mk0 ⟨.ptr _ _ _ _ rfl,.ptr _ _ _ _ rfl,.ptr _ _ _ _ rfl,.sl _ _ _ _ _ rfl,Flat.i rfl,.ptr _ _ _ _ rfl,.ptr _ _ _ _ rfl,Flat.i rfl,trivial⟩ ⟨.old 0 0 _ _ rfl rfl ⟨rfl,Nat.le_refl _,fun i j hi hj=> .eq _ _ rfl (.int _ _)⟩,.old 1 1 _ _ rfl rfl ⟨rfl,Nat.le_refl _,fun i j hi hj=> .eq _ _ rfl (.int _ _)⟩,.old 2 2 _ _ rfl rfl ⟨rfl,Nat.le_refl _,fun i j hi hj=> .eq _ _ rfl (.int _ _)⟩,.old 3 3 _ _ rfl rfl ⟨rfl,Nat.le_refl _,fun i j hi hj=> .eq _ _ rfl (.int _ _)⟩,.old 4 4 _ _ rfl rfl ⟨rfl,Nat.le_refl _,fun i j hi hj=> .eq _ _ rfl (.int _ _)⟩,.old 5 5 _ _ rfl rfl ⟨rfl,Nat.le_refl _,fun i j hi hj=> ?_⟩,trivial⟩ rfl rfl
           exact eightC hi hj rfl
         · rintro q' l m ⟨k,rfl,rfl,hk⟩
           conv=>whnf
           refine aE (fun hc=> ?_) (fun hc=> ?_)
           · have hc:k<64:=by simp at hc;omega
             conv=>whnf
             generalize hR:Rn h w k=r
             refine aA (by simp;omega) ?_
             conv=>whnf
             simp only [Int.toNat_natCast,Nat.zero_add]
             refine aA (by simp [bI,Nat.ble_eq];omega) ?_
             conv=>whnf
             refine aA (by simp;omega) ?_
             conv=>whnf
             simp only [Int.toNat_natCast,Nat.zero_add]
             refine aA (by simp [bI,Nat.ble_eq];omega) ?_
             conv=>whnf
             refine nL _ _ ?_
             conv=>whnf
             refine⟨⟨[],rfl⟩,?_⟩
             conv=>whnf
             refine nL _ _ ?_
             conv=>whnf
             refine⟨⟨[],rfl⟩,?_⟩
             conv=>whnf
             refine nL _ _ ?_
             conv=>whnf
             refine⟨⟨[],rfl⟩,?_⟩
             conv=>whnf
             refine nL _ _ ?_
             conv=>whnf
             refine⟨⟨[],rfl⟩,?_⟩
             conv=>whnf
             refine nL _ _ ?_
             conv=>whnf
             refine⟨⟨[],rfl⟩,?_⟩
             conv=>whnf
             refine nL _ _ ?_
             conv=>whnf
             refine⟨⟨[],rfl⟩,?_⟩
             conv=>whnf
             have e5:IntKind.i64.wrap ((k:Int)+1)=((k+1:Nat):Int):=by rw [w64 (by omega) (by omega)];omega
             have eR:Rn h w (k+1)=rnd r (kt k) (w k):=by rw [<- hR,<- hkt];rfl
             refine⟨q' - 1,[(2,.ptr 0 0 0),(3,.ptr 1 0 0),(4,.ptr 2 0 0),(5,.sl 3 0 (padN n) (capp+1)),(6,.int .i64 ((64*j:Nat):Int)),(7,.ptr 4 0 0),(12,.ptr 5 0 0),(13,.int .i64 ((k+1:Nat):Int))],
              [some ⟨1,32,fun _ _=> .int .u8 0⟩,some ⟨1,64,u32G kt⟩,some ⟨1,8,u32G h⟩,some ⟨1,padN n,aB b⟩,some ⟨1,64,u32G w⟩,some ⟨1,8,u32G (Rn h w (k+1))⟩],[some 0,some 1,some 2,some 3,some 4,some 5],by omega,⟨k+1,rfl,rfl,by omega⟩,?_⟩
             rw [eR]
             refine .mk0 ⟨.ptr _ _ _ _ rfl,.ptr _ _ _ _ rfl,.ptr _ _ _ _ rfl,.sl _ _ _ _ _ rfl,Flat.i rfl,.ptr _ _ _ _ rfl,.ptr _ _ _ _ rfl,Flat.i e5,trivial⟩ ⟨.old 0 0 _ _ rfl rfl ⟨rfl,Nat.le_refl _,fun i j hi hj=> .eq _ _ rfl (.int _ _)⟩,.old 1 1 _ _ rfl rfl ⟨rfl,Nat.le_refl _,fun i j hi hj=> .eq _ _ rfl (.int _ _)⟩,.old 2 2 _ _ rfl rfl ⟨rfl,Nat.le_refl _,fun i j hi hj=> .eq _ _ rfl (.int _ _)⟩,.old 3 3 _ _ rfl rfl ⟨rfl,Nat.le_refl _,fun i j hi hj=> .eq _ _ rfl (.int _ _)⟩,.old 4 4 _ _ rfl rfl ⟨rfl,Nat.le_refl _,fun i j hi hj=> .eq _ _ rfl (.int _ _)⟩,.old 5 5 _ _ rfl rfl ⟨rfl,Nat.le_refl _,fun i j hi hj=> ?_⟩,trivial⟩ rfl rfl
             exact eight hi hj rfl rfl rfl rfl rfl rfl rfl rfl
           · have hc:k=64:=by simp at hc;omega
             subst hc
             conv=>whnf
             generalize hR:Rn h w 64=r
             have hNext:Hn b (j+1)=fun i=>addU (h i) (r i):=by
              rw [show Hn b (j+1)=nextH (Hn b j) (Wn (blkB b j) 64)from rfl,hW,hH]
              funext i
              rw [nextH,hR]
             refine aR aH (I:=fun q' l m=>∃ (k:Nat),l= [(2,.ptr 0 0 0),(3,.ptr 1 0 0),(4,.ptr 2 0 0),(5,.sl 3 0 (padN n) (capp+1)),(6,.int .i64 ((64*j:Nat):Int)),(12,.ptr 5 0 0),(18,.int .i64 k)] /\
              m= [some ⟨1,32,fun _ _=> .int .u8 0⟩,some ⟨1,64,u32G kt⟩,some ⟨1,8,u32G (fun i=>if i<k then addU (h i) (r i)else h i)⟩,some ⟨1,padN n,aB b⟩,none,some ⟨1,8,u32G r⟩] /\ q'+k=8) 8
              (l0:= [(2,.ptr 0 0 0),(3,.ptr 1 0 0),(4,.ptr 2 0 0),(5,.sl 3 0 (padN n) (capp+1)),(6,.int .i64 ((64*j:Nat):Int)),(12,.ptr 5 0 0),(18,.int .i64 (0:Nat))])
              (m0:= [some ⟨1,32,fun _ _=> .int .u8 0⟩,some ⟨1,64,u32G kt⟩,some ⟨1,8,u32G (fun i=>if i<0 then addU (h i) (r i)else h i)⟩,some ⟨1,padN n,aB b⟩,none,some ⟨1,8,u32G r⟩]) [some 0,some 1,some 2,some 3,none,some 5] ⟨0,rfl,rfl,rfl⟩ ?_ ?_
             · refine .mk0 ⟨.ptr _ _ _ _ rfl,.ptr _ _ _ _ rfl,.ptr _ _ _ _ rfl,.sl _ _ _ _ _ rfl,Flat.i rfl,.ptr _ _ _ _ rfl,Flat.i rfl,trivial⟩ ⟨.old 0 0 _ _ rfl rfl ⟨rfl,Nat.le_refl _,fun i j hi hj=> .eq _ _ rfl (.int _ _)⟩,.old 1 1 _ _ rfl rfl ⟨rfl,Nat.le_refl _,fun i j hi hj=> .eq _ _ rfl (.int _ _)⟩,.old 2 2 _ _ rfl rfl ⟨rfl,Nat.le_refl _,fun i j hi hj=> ?_⟩,.old 3 3 _ _ rfl rfl ⟨rfl,Nat.le_refl _,fun i j hi hj=> .eq _ _ rfl (.int _ _)⟩,.dead _,.old 5 5 _ _ rfl rfl ⟨rfl,Nat.le_refl _,fun i j hi hj=> .eq _ _ rfl (.int _ _)⟩,trivial⟩ rfl rfl
               exact .eq _ _ (by simp only [u32G];rw [if_neg (Nat.not_lt_zero _)]) (.int _ _)
             · rintro q' l m ⟨k,rfl,rfl,hk⟩
               conv=>whnf
               refine aE (fun hc=> ?_) (fun hc=> ?_)
               · have hc:k<8:=by simp at hc;omega
                 conv=>whnf
                 refine aA (by simp;omega) ?_
                 conv=>whnf
                 simp only [Int.toNat_natCast,Nat.zero_add]
                 refine aA (by simp [bI,Nat.ble_eq];omega) ?_
                 conv=>whnf
                 refine aA (by simp;omega) ?_
                 conv=>whnf
                 simp only [Int.toNat_natCast,Nat.zero_add]
                 refine aA (by simp [bI,Nat.ble_eq];omega) ?_
                 conv=>whnf
                 refine aA (by simp;omega) ?_
                 conv=>whnf
                 simp only [Int.toNat_natCast,Nat.zero_add]
                 refine aA (by simp [bI,Nat.ble_eq];omega) ?_
                 conv=>whnf
                 have e5:IntKind.i64.wrap ((k:Int)+1)=((k+1:Nat):Int):=by rw [w64 (by omega) (by omega)];omega
                 refine⟨q' - 1,[(2,.ptr 0 0 0),(3,.ptr 1 0 0),(4,.ptr 2 0 0),(5,.sl 3 0 (padN n) (capp+1)),(6,.int .i64 ((64*j:Nat):Int)),(12,.ptr 5 0 0),(18,.int .i64 ((k+1:Nat):Int))],
                  [some ⟨1,32,fun _ _=> .int .u8 0⟩,some ⟨1,64,u32G kt⟩,some ⟨1,8,u32G (fun i=>if i<k+1 then addU (h i) (r i)else h i)⟩,some ⟨1,padN n,aB b⟩,none,some ⟨1,8,u32G r⟩],[some 0,some 1,some 2,some 3,none,some 5],by omega,⟨k+1,rfl,rfl,by omega⟩,?_⟩
                 refine .mk0 ⟨.ptr _ _ _ _ rfl,.ptr _ _ _ _ rfl,.ptr _ _ _ _ rfl,.sl _ _ _ _ _ rfl,Flat.i rfl,.ptr _ _ _ _ rfl,Flat.i e5,trivial⟩ ⟨.old 0 0 _ _ rfl rfl ⟨rfl,Nat.le_refl _,fun i j hi hj=> .eq _ _ rfl (.int _ _)⟩,.old 1 1 _ _ rfl rfl ⟨rfl,Nat.le_refl _,fun i j hi hj=> .eq _ _ rfl (.int _ _)⟩,.old 2 2 _ _ rfl rfl ⟨rfl,Nat.le_refl _,fun i j hi hj=> ?_⟩,.old 3 3 _ _ rfl rfl ⟨rfl,Nat.le_refl _,fun i j hi hj=> .eq _ _ rfl (.int _ _)⟩,.dead _,.old 5 5 _ _ rfl rfl ⟨rfl,Nat.le_refl _,fun i j hi hj=> .eq _ _ rfl (.int _ _)⟩,trivial⟩ rfl rfl
                 exact updH hj rfl
               · have hc:k=8:=by simp at hc;omega
                 subst hc
                 conv=>whnf
                 have e6:IntKind.i64.wrap (((64*j:Nat):Int)+64)=((64*(j+1):Nat):Int):=by rw [w64 (by omega) (by omega)];omega
                 refine⟨q - 1,[(2,.ptr 0 0 0),(3,.ptr 1 0 0),(4,.ptr 2 0 0),(5,.sl 3 0 (padN n) (capp+1)),(6,.int .i64 ((64*(j+1):Nat):Int))],
                  [some ⟨1,32,fun _ _=> .int .u8 0⟩,some ⟨1,64,u32G kt⟩,some ⟨1,8,u32G (Hn b (j+1))⟩,some ⟨1,padN n,aB b⟩],[some 0,some 1,some 2,some 3],by omega,⟨j+1,rfl,rfl,by omega⟩,?_⟩
                 rw [hNext]
                 refine .mk0 ⟨.ptr _ _ _ _ rfl,.ptr _ _ _ _ rfl,.ptr _ _ _ _ rfl,.sl _ _ _ _ _ rfl,Flat.i e6,trivial⟩ ⟨.old 0 0 _ _ rfl rfl ⟨rfl,Nat.le_refl _,fun i j hi hj=> .eq _ _ rfl (.int _ _)⟩,.old 1 1 _ _ rfl rfl ⟨rfl,Nat.le_refl _,fun i j hi hj=> .eq _ _ rfl (.int _ _)⟩,.old 2 2 _ _ rfl rfl ⟨rfl,Nat.le_refl _,fun i j hi hj=> ?_⟩,.old 3 3 _ _ rfl rfl ⟨rfl,Nat.le_refl _,fun i j hi hj=> .eq _ _ rfl (.int _ _)⟩,trivial⟩ rfl rfl
                 have hi:i<8:=hi
                 exact .eq _ _ (by simp only [u32G];rw [if_pos hi]) (.int _ _)
   · have hc:padN n<=64*j:=by simp at hc;omega
     conv=>whnf
     obtain rfl:j=padN n / 64:=by omega
     generalize hH:Hn b (padN n / 64)=h
     have hS:∀ i,i<32->sumB n f i=IntKind.u8.wrap ((h (i / 4)).fdiv (2 ^ (24 - 8*(i % 4)))):=fun i hi=>by rw [sumB,hB,hH]
     refine aR aH (I:=fun q' l m=>∃ (k:Nat),l= [(2,.ptr 0 0 0),(4,.ptr 1 0 0),(19,.ptr 2 0 0),(20,.int .i64 k)] /\
      m= [some ⟨1,32,fun _ _=> .int .u8 0⟩,some ⟨1,8,u32G h⟩,some ⟨1,32,aB (fun i=>if i<k then sumB n f i else 0)⟩] /\ q'+k=32) 32
      (l0:= [(2,.ptr 0 0 0),(4,.ptr 1 0 0),(19,.ptr 2 0 0),(20,.int .i64 (0:Nat))])
      (m0:= [some ⟨1,32,fun _ _=> .int .u8 0⟩,some ⟨1,8,u32G h⟩,some ⟨1,32,aB (fun i=>if i<0 then sumB n f i else 0)⟩]) [some 0,some 2,some 4] ⟨0,rfl,rfl,rfl⟩ ?_ ?_
     · refine .mk0 ⟨.ptr _ _ _ _ rfl,.ptr _ _ _ _ rfl,.ptr _ _ _ _ rfl,Flat.i rfl,trivial⟩ ⟨.old 0 0 _ _ rfl rfl ⟨rfl,Nat.le_refl _,fun i j hi hj=> .eq _ _ rfl (.int _ _)⟩,.old 1 2 _ _ rfl rfl ⟨rfl,Nat.le_refl _,fun i j hi hj=> .eq _ _ rfl (.int _ _)⟩,.old 2 4 _ _ rfl rfl ⟨rfl,Nat.le_refl _,fun i j hi hj=> ?_⟩,trivial⟩ rfl rfl
       have hj:j<1:=hj
       obtain rfl:j=0:=by omega
       exact .eq _ _ (by simp only [aB];rw [if_neg (Nat.not_lt_zero _)];rfl) (.int _ _)
     · rintro q' l m ⟨k,rfl,rfl,hk⟩
       conv=>whnf
       refine aE (fun hc=> ?_) (fun hc=> ?_)
       · have hc:k<32:=by simp at hc;omega
         conv=>whnf
         have e1:IntKind.i64.wrap ((k:Int).tdiv 4)=((k / 4:Nat):Int):=by
          rw [Int.tdiv_eq_ediv_of_nonneg (by omega),w64 (by omega) (by omega)];omega
         have e2:(k:Int).tmod 4=((k % 4:Nat):Int):=aBi k 4
         have e3:IntKind.i64.wrap (8*((k % 4:Nat):Int))=((8*(k % 4):Nat):Int):=by rw [w64 (by omega) (by omega)];omega
         have e4:IntKind.i64.wrap (24 - ((8*(k % 4):Nat):Int))=((24 - 8*(k % 4):Nat):Int):=by rw [w64 (by omega) (by omega)];omega
         have e4b:IntKind.u64.wrap ((24 - 8*(k % 4):Nat):Int)=((24 - 8*(k % 4):Nat):Int):=by rw [wu64];omega
         simp only [e1]
         refine aA (by simp;omega) ?_
         conv=>whnf
         simp only [Int.toNat_natCast,Nat.zero_add]
         refine aA (by simp [bI,Nat.ble_eq];omega) ?_
         conv=>whnf
         simp only [e2,e3,e4,e4b]
         conv=>whnf
         refine aA (by simp;omega) ?_
         conv=>whnf
         simp only [Int.toNat_natCast,Nat.zero_add]
         refine aA (by simp [bI,Nat.ble_eq];omega) ?_
         conv=>whnf
         have e5:IntKind.i64.wrap ((k:Int)+1)=((k+1:Nat):Int):=by rw [w64 (by omega) (by omega)];omega
         have e6:min (24 - 8*(k % 4)) IntKind.u32.bits=24 - 8*(k % 4):=by simp only [IntKind.bits];omega
         refine⟨q' - 1,[(2,.ptr 0 0 0),(4,.ptr 1 0 0),(19,.ptr 2 0 0),(20,.int .i64 ((k+1:Nat):Int))],
          [some ⟨1,32,fun _ _=> .int .u8 0⟩,some ⟨1,8,u32G h⟩,some ⟨1,32,aB (fun i=>if i<k+1 then sumB n f i else 0)⟩],[some 0,some 1,some 2],by omega,⟨k+1,rfl,rfl,by omega⟩,?_⟩
         refine .mk0 ⟨.ptr _ _ _ _ rfl,.ptr _ _ _ _ rfl,.ptr _ _ _ _ rfl,Flat.i e5,trivial⟩ ⟨.old 0 0 _ _ rfl rfl ⟨rfl,Nat.le_refl _,fun i j hi hj=> .eq _ _ rfl (.int _ _)⟩,.old 1 1 _ _ rfl rfl ⟨rfl,Nat.le_refl _,fun i j hi hj=> .eq _ _ rfl (.int _ _)⟩,.old 2 2 _ _ rfl rfl ⟨rfl,Nat.le_refl _,fun i j hi hj=> ?_⟩,trivial⟩ rfl rfl
         exact updO hj (hS k hc) e6 rfl
       · have hc:k=32:=by simp at hc;omega
         subst hc
         conv=>whnf
         exact outSum rfl
theorem mC {m:Mem} {x:AV} {n:Nat} {f:Nat->Int} {K:AV->Mem->Prop} (hx:bA m x n f) (hn:n<=1000000) (hf:∀ i,i<n->0<=f i/\f i<=255) (h:∀ s,s=sumB n f->(∀ i,0<=s i/\s i<=255)->K (.agg (rowL s)) m):ACall Pg cB [x] m K:=by
 obtain⟨cap,hl⟩:=hx
 refine aD (S_Sum2560 n cap f hn hf) (.cons _ _ _ _ hl .nil) ?_
 rintro v rfl
 exact h _ rfl (sumB_lt n f)
end Go.Proofs.YtfolpdmbpbbimaaGreat
end

section
namespace Go.Proofs.YtfolpdmbpbbimaaGreat
open Go Go.Wit
theorem S_LSubE {m:Mem} {x y:AV} {K:AV->Mem->Prop} {a b:Nat} (hx:x=numA a) (hy:y=numA b) (ha:a<w256) (hb:b<w256) (h:∀ s c:Nat,a+c*w256=b+s->s<w256->c<=1->K (.tup [numA s,.int .u64 c]) m):ACall Pg fH [x,y] m K:=by
 subst hx hy;exact S_LSub ha hb h
theorem S_LCmpE {m:Mem} {x y:AV} {K:AV->Mem->Prop} {a b:Nat} (hx:x=numA a) (hy:y=numA b) (ha:a<w256) (hb:b<w256) (h:∀ r,r=cmpZ a b->K (.int .i64 r) m):ACall Pg gB [x,y] m K:=by
 subst hx hy;exact S_LCmp ha hb h
theorem pow64:(18446744073709551616:Nat) ^ 3=6277101735386680763835789423207666416102355444464034512896/\(18446744073709551616:Nat) ^ 2=340282366920938463463374607431768211456:=by decide
theorem top_eq {r s c:Nat} (hr:r<w256) (hs:s<w256) (hc:c<=1) (e:r+r=s+c*w256):(lim r 3).fdiv (2 ^ min (Int.toNat 63) IntKind.u64.bits)=(c:Int):=by
 have e1:(2:Int) ^ min (Int.toNat 63) IntKind.u64.bits=((9223372036854775808:Nat):Int):=rfl
 rw [e1,Int.fdiv_eq_ediv_of_nonneg _ (by omega)]
 unfold lim
 rw [<- Int.natCast_ediv,pow64.1]
 unfold w256 at*
 congr 1
 omega
theorem or_bit {x b:Nat} (hx:x<18446744073709551616) (h2:x % 2=0) (hb:b<=1):eE .or .u64 (x:Int) (b:Int)=((x+b:Nat):Int):=by
 have e:(BitVec.ofInt 64 (x:Int) ||| BitVec.ofInt 64 (b:Int)).toNat=x+b:=by
  rw [BitVec.toNat_or,BitVec.toNat_ofInt,BitVec.toNat_ofInt]
  have h1:((x:Int) % ((2 ^ 64:Nat):Int)).toNat=x:=by omega
  have h3:((b:Int) % ((2 ^ 64:Nat):Int)).toNat=b:=by omega
  rw [h1,h3]
  obtain⟨y,rfl⟩ :∃ y,x=2 ^ 1*y:=⟨x / 2,by omega⟩
  rw [<- Nat.two_pow_add_eq_or_of_lt (by omega)]
 show IntKind.u64.wrap ((BitVec.ofInt 64 (x:Int) ||| BitVec.ofInt 64 (b:Int)).toNat:Int)=_
 rw [e,wu64]
 omega
theorem or_lim {s b:Nat} (h2:s % 2=0) (hb:b<=1):eE .or .u64 (lim s 0) (IntKind.u64.wrap (b:Int))=lim (s+b) 0:=by
 have eb:IntKind.u64.wrap (b:Int)=(b:Int):=by rw [wu64];omega
 rw [eb]
 unfold lim
 rw [Nat.pow_zero,Nat.div_one,Nat.div_one,or_bit (Nat.mod_lt _ (by decide)) (by omega) hb]
 congr 1
 omega
theorem lim_hi {s b j:Nat} (h2:s % 2=0) (hb:b<=1):lim (s+b) (j+1)=lim s (j+1):=by
 unfold lim
 have e:(s+b) / 18446744073709551616 ^ (j+1)=s / 18446744073709551616 ^ (j+1):=by
  rw [Nat.pow_succ,Nat.mul_comm,<- Nat.div_div_eq_div_mul,<- Nat.div_div_eq_div_mul]
  congr 1
  omega
 rw [e]
theorem or_cells {s b:Nat} (h2:s % 2=0) (hb:b<=1):AV.agg [.int .u64 (eE .or .u64 (lim s 0) (IntKind.u64.wrap (b:Int))),.int .u64 (lim s 1),.int .u64 (lim s 2),.int .u64 (lim s 3)] = numA (s+b):=by
 rw [or_lim h2 hb,<- lim_hi (j:=0) h2 hb,<- lim_hi (j:=1) h2 hb,<- lim_hi (j:=2) h2 hb]
 rfl
theorem cell4 {blk:Blk} {a b c d:AV} (h0:cellG blk 0 0 0=a) (h1:cellG blk 0 0 1=b) (h2:cellG blk 0 0 2=c) (h3:cellG blk 0 0 3=d):AV.agg (List.map (cellG blk 0 0) (List.range 4))= .agg [a,b,c,d] :=by
 subst h0 h1 h2 h3;rfl
theorem upd_at {n:Nat} {g:Nat->Nat->AV} {v:AV}:cellG ⟨1,n,updG ⟨1,n,g⟩ 0 0 1 [v]⟩ 0 0 0=v:=by
 show updG ⟨1,n,g⟩ 0 0 1 [v] 0 0=v
 rw [pG,if_pos rfl]
theorem kJ {n t:Nat} {g:Nat->Nat->AV} {v w:AV} (e:g (t+1) 0=w):cellG ⟨1,n,updG ⟨1,n,g⟩ 0 0 1 [v]⟩ 0 0 (t+1)=w:=by
 rw [rE,pG,if_neg (by omega),Nat.zero_add,e]
theorem or_blk {s b i j:Nat} {nv:Bool} {σ:Nat->Option Nat} {A:AV} (h2:s % 2=0) (hb:b<=1) (hi:i<4) (hj:j<1) (hA:A=updG ⟨1,4,lstG 1 (numL s)⟩ 0 0 1 [.int .u64 (eE .or .u64 (lim s 0) (IntKind.u64.wrap (b:Int)))] i j):RV nv σ A (lstG 1 (numL (s+b)) i j):=by
 subst hA
 obtain rfl:j=0:=by omega
 have:i=0\/i=1\/i=2\/i=3:=by omega
 rcases this with rfl | rfl | rfl | rfl
 · exact .eq _ _ (congrArg (AV.int .u64) (or_lim h2 hb)) (.int _ _)
 · exact .eq _ _ (congrArg (AV.int .u64) (lim_hi (j:=0) h2 hb).symm) (.int _ _)
 · exact .eq _ _ (congrArg (AV.int .u64) (lim_hi (j:=1) h2 hb).symm) (.int _ _)
 · exact .eq _ _ (congrArg (AV.int .u64) (lim_hi (j:=2) h2 hb).symm) (.int _ _)
theorem step_mod {V k m:Nat}:V / 2 ^ k % m=(2*(V / 2 ^ (k+1) % m)+V / 2 ^ k % 2) % m:=by
 rw [Nat.pow_succ,<- Nat.div_div_eq_div_mul]
 generalize V / 2 ^ k=W
 have e:W=2*(W / 2)+W % 2:=(Nat.div_add_mod W 2).symm
 conv=>lhs;rw [e]
 simp [Nat.add_mod,Nat.mul_mod]
theorem bit_hi {hi lo k:Nat} (h2:lo<w256) (h:256<=k) (h5:k<512):(hi*w256+lo) / 2 ^ k % 2=hi / 2 ^ (k % 256) % 2:=by
 have e:(2:Nat) ^ k=w256*2 ^ (k % 256):=by
  rw [show w256=2 ^ 256 by decide,<- Nat.pow_add];congr 1;omega
 rw [e,<- Nat.div_div_eq_div_mul]
 congr 2
 rw [Nat.mul_comm,Nat.mul_add_div (by decide),Nat.div_eq_of_lt h2];rfl
theorem bit_lo {hi lo k:Nat} (h:k<256):(hi*w256+lo) / 2 ^ k % 2=lo / 2 ^ (k % 256) % 2:=by
 rw [Nat.mod_eq_of_lt h]
 obtain⟨d,hd⟩ :∃ d,256=k+(d+1):=⟨255 - k,by omega⟩
 have e:w256=2 ^ k*(2 ^ d*2):=by rw [<- Nat.pow_succ,<- Nat.pow_add,<- hd]
 rw [e,show hi*(2 ^ k*(2 ^ d*2))+lo=2 ^ k*(hi*2 ^ d*2)+lo by rw [Nat.mul_left_comm,Nat.mul_assoc],Nat.mul_add_div (Nat.pow_pos (by decide)),Nat.add_comm,Nat.add_mul_mod_self_right]
theorem mod_wrap {r s b c m t d:Nat} (h3:m<w256) (hr:r<m) (e1:r+r=s+c*w256) (hs:s<w256) (hc:c=1) (hb:b<=1) (e2:s+b+d*w256=m+t) (ht:t<w256) (hd:d<=1):t=(2*r+b) % m:=by
 subst hc
 have e:2*r+b=t+m:=by
  unfold w256 at*
  have:d=0\/d=1:=by omega
  rcases this with rfl | rfl <;> omega
 rw [e,Nat.add_mod_right,Nat.mod_eq_of_lt (by unfold w256 at *;omega)]
theorem mod_sub {r s b c m t d:Nat} (hr:r<m) (e1:r+r=s+c*w256) (hc:c=0) (hb:b<=1) (hge:m<=s+b) (e2:s+b+d*w256=m+t) (ht:t<w256) (hd:d<=1):t=(2*r+b) % m:=by
 subst hc
 have e:2*r+b=t+m:=by
  unfold w256 at*
  have:d=0\/d=1:=by omega
  rcases this with rfl | rfl <;> omega
 rw [e,Nat.add_mod_right,Nat.mod_eq_of_lt (by omega)]
theorem big_zero {hi lo e a b:Nat} (he:e=a+b) (ha:2 ^ a=w256) (hb:2 ^ b=w256) (h1:hi<w256) (h2:lo<w256):(hi*w256+lo) / 2 ^ e=0:=by
 rw [he,Nat.pow_add,ha,hb]
 refine Nat.div_eq_of_lt ?_
 have h3:hi*w256<=(w256 - 1)*w256:=Nat.mul_le_mul_right _ (by omega)
 rw [Nat.sub_mul,Nat.one_mul]at h3
 have h4:w256<=w256*w256:=Nat.le_mul_of_pos_right _ (by decide)
 omega
theorem S_LMod0 (hi lo m:Nat) (h1:hi<w256) (h2:lo<w256) (h3:m<w256) (h0:0<m):ACall Pg sC [numA hi,numA lo,numA m] [] (fun v _=>v= .tup [numA ((hi*w256+lo) % m),.int .i64 0] /\ Flat true v):=by
 refine B_limb_Mod ⟨rfl,?_⟩
 conv=>whnf
 repeat (refine⟨⟨[],rfl⟩,?_⟩;conv=>whnf)
 refine uW h3 (fun h=>by omega) (fun _=> ?_)
 conv=>whnf
 repeat (refine⟨⟨[],rfl⟩,?_⟩;conv=>whnf)
 obtain⟨Q,hQ⟩ :∃ Q:Nat,Q=256+256:=⟨_,rfl⟩
 refine aR aH (I:=fun q l w=>∃ (r:Nat) (v:Int),l= [(3,.ptr 0 0 0),(4,.ptr 1 0 0),(5,.ptr 2 0 0),(6,.ptr 3 0 0),(8,.ptr 4 0 0),(9,.int .i64 v)] /\ w= [some ⟨1,4,lstG 1 (numL hi)⟩,some ⟨1,4,lstG 1 (numL lo)⟩,some ⟨1,4,lstG 1 (numL m)⟩,some ⟨1,4,lstG 1 (numL 0)⟩,some ⟨1,4,lstG 1 (numL r)⟩] /\ v=(q:Int) - 1/\q<=512/\r=(hi*w256+lo) / 2 ^ q % m) Q
  (l0:= [(3,.ptr 0 0 0),(4,.ptr 1 0 0),(5,.ptr 2 0 0),(6,.ptr 3 0 0),(8,.ptr 4 0 0),(9,.int .i64 (511:Int))]) (m0:= [some ⟨1,4,lstG 1 (numL hi)⟩,some ⟨1,4,lstG 1 (numL lo)⟩,some ⟨1,4,lstG 1 (numL m)⟩,some ⟨1,4,lstG 1 (numL 0)⟩,some ⟨1,4,lstG 1 (numL 0)⟩]) [some 0,some 1,some 2,some 3,some 4] ⟨0,511,rfl,rfl,by omega,by omega,?_⟩ ?_ ?_
 · rw [big_zero hQ (by decide) (by decide) h1 h2,Nat.zero_mod]
 · refine .mk0 ⟨.ptr _ _ _ _ rfl,.ptr _ _ _ _ rfl,.ptr _ _ _ _ rfl,.ptr _ _ _ _ rfl,.ptr _ _ _ _ rfl,Flat.i rfl,trivial⟩ ⟨.old 0 0 _ _ rfl rfl ⟨rfl,Nat.le_refl _,fun i j hi hj=> .eq _ _ rfl aJ⟩,.old 1 1 _ _ rfl rfl ⟨rfl,Nat.le_refl _,fun i j hi hj=> .eq _ _ rfl aJ⟩,.old 2 2 _ _ rfl rfl ⟨rfl,Nat.le_refl _,fun i j hi hj=> .eq _ _ rfl aJ⟩,.old 3 3 _ _ rfl rfl ⟨rfl,Nat.le_refl _,fun i j hi hj=> ?_⟩,.old 4 4 _ _ rfl rfl ⟨rfl,Nat.le_refl _,fun i j hi hj=> ?_⟩,trivial⟩ rfl rfl
   all_goals
    have hj:j<1:=hj
    have hi:i<4:=hi
    obtain rfl:j=0:=by omega
    have:i=0\/i=1\/i=2\/i=3:=by omega
    rcases this with rfl | rfl | rfl | rfl <;> exact .eq _ _ rfl (.int _ _)
 · rintro q l w ⟨r,v,rfl,rfl,hv,hq,hr⟩
   conv=>whnf
   repeat (refine⟨⟨[],rfl⟩,?_⟩;conv=>whnf)
   refine aE (fun hb=> ?_) (fun hb=> ?_)
   · obtain⟨k,rfl⟩ :∃ k,q=k+1:=⟨q - 1,by simp at hb;omega⟩
     obtain rfl:v=(k:Int):=by omega
     have hrm:r<m:=by rw [hr];exact Nat.mod_lt _ h0
     have hr1:r<w256:=by omega
     conv=>whnf
     repeat (refine⟨⟨[],rfl⟩,?_⟩;conv=>whnf)
     refine aE (fun hk=> ?_) (fun hk=> ?_)
     · conv=>whnf
       repeat (refine⟨⟨[],rfl⟩,?_⟩;conv=>whnf)
       refine S_LAdd hr1 hr1 (fun s c e1 hs hc=> ?_)
       conv=>whnf
       repeat (refine⟨⟨[],rfl⟩,?_⟩;conv=>whnf)
       refine S_LBit (a:=hi) (i:=k % 256) (by omega) (fun b hb2=> ?_)
       conv=>whnf
       repeat (refine⟨⟨[],rfl⟩,?_⟩;conv=>whnf)
       have hb3:b=(hi*w256+lo) / 2 ^ k % 2:=by rw [hb2];exact(bit_hi h2 (by simp at hk;omega) (by omega)).symm
       have hb1:b<=1:=by omega
       have hs2:s % 2=0:=by unfold w256 at e1;omega
       have hsb:s+b<w256:=by unfold w256 at hs ⊢;omega
       have et:=top_eq hr1 hs hc e1
       have hx:=or_cells (s:=s) (b:=b) hs2 hb1
       have hst:(hi*w256+lo) / 2 ^ k % m=(2*r+b) % m:=by rw [hr,hb3];exact step_mod
       by_cases hc1:c=1
       · refine kP (by rw [et,hc1];rfl) ?_
         conv=>whnf
         repeat (refine⟨⟨[],rfl⟩,?_⟩;conv=>whnf)
         refine S_LSubE (a:=s+b) (b:=m) (Eq.trans (cell4 (a:= .int .u64 (eE .or .u64 (lim s 0) (IntKind.u64.wrap (b:Int)))) (b:= .int .u64 (lim s 1)) (c:= .int .u64 (lim s 2)) (d:= .int .u64 (lim s 3)) upd_at (kJ (t:=0) rfl) (kJ (t:=1) rfl) (kJ (t:=2) rfl)) hx) rfl hsb h3 (fun t d e2 ht hd=> ?_)
         conv=>whnf
         repeat (refine⟨⟨[],rfl⟩,?_⟩;conv=>whnf)
         refine⟨k,_,_,[some 0,some 1,some 2,some 3,some 4],Nat.lt_succ_self _,⟨t,(k:Int) - 1,rfl,rfl,rfl,by omega,?_⟩,?_⟩
         · rw [hst]
           exact mod_wrap h3 hrm e1 hs hc1 hb1 e2 ht hd
         · exact .mk0 ⟨.ptr _ _ _ _ rfl,.ptr _ _ _ _ rfl,.ptr _ _ _ _ rfl,.ptr _ _ _ _ rfl,.ptr _ _ _ _ rfl,Flat.i (w64 (by omega) (by omega)),trivial⟩ ⟨.old 0 0 _ _ rfl rfl ⟨rfl,Nat.le_refl _,fun i j hi hj=> .eq _ _ rfl aJ⟩,.old 1 1 _ _ rfl rfl ⟨rfl,Nat.le_refl _,fun i j hi hj=> .eq _ _ rfl aJ⟩,.old 2 2 _ _ rfl rfl ⟨rfl,Nat.le_refl _,fun i j hi hj=> .eq _ _ rfl aJ⟩,.old 3 3 _ _ rfl rfl ⟨rfl,Nat.le_refl _,fun i j hi hj=> .eq _ _ rfl aJ⟩,.old 4 4 _ _ rfl rfl ⟨rfl,Nat.le_refl _,fun i j hi hj=> .eq _ _ rfl aJ⟩,trivial⟩ rfl rfl
       · have hc0:c=0:=by omega
         refine dK (by rw [et,hc0];rfl) ?_
         conv=>whnf
         repeat (refine⟨⟨[],rfl⟩,?_⟩;conv=>whnf)
         refine S_LCmpE (a:=s+b) (b:=m) (Eq.trans (cell4 (a:= .int .u64 (eE .or .u64 (lim s 0) (IntKind.u64.wrap (b:Int)))) (b:= .int .u64 (lim s 1)) (c:= .int .u64 (lim s 2)) (d:= .int .u64 (lim s 3)) upd_at (kJ (t:=0) rfl) (kJ (t:=1) rfl) (kJ (t:=2) rfl)) hx) rfl hsb h3 (fun z hz=> ?_)
         conv=>whnf
         repeat (refine⟨⟨[],rfl⟩,?_⟩;conv=>whnf)
         refine aE (fun hz2=> ?_) (fun hz2=> ?_)
         · have hge:m<=s+b:=by
            have hz2:z >= 0:=of_decide_eq_true hz2
            rw [hz,cmpZ]at hz2
            split at hz2
            · omega
            · omega
           conv=>whnf
           repeat (refine⟨⟨[],rfl⟩,?_⟩;conv=>whnf)
           refine S_LSubE (a:=s+b) (b:=m) (Eq.trans (cell4 (a:= .int .u64 (eE .or .u64 (lim s 0) (IntKind.u64.wrap (b:Int)))) (b:= .int .u64 (lim s 1)) (c:= .int .u64 (lim s 2)) (d:= .int .u64 (lim s 3)) upd_at (kJ (t:=0) rfl) (kJ (t:=1) rfl) (kJ (t:=2) rfl)) hx) rfl hsb h3 (fun t d e2 ht hd=> ?_)
           conv=>whnf
           repeat (refine⟨⟨[],rfl⟩,?_⟩;conv=>whnf)
           refine⟨k,_,_,[some 0,some 1,some 2,some 3,some 4],Nat.lt_succ_self _,⟨t,(k:Int) - 1,rfl,rfl,rfl,by omega,?_⟩,?_⟩
           · rw [hst]
             exact mod_sub hrm e1 hc0 hb1 hge e2 ht hd
           · exact .mk0 ⟨.ptr _ _ _ _ rfl,.ptr _ _ _ _ rfl,.ptr _ _ _ _ rfl,.ptr _ _ _ _ rfl,.ptr _ _ _ _ rfl,Flat.i (w64 (by omega) (by omega)),trivial⟩ ⟨.old 0 0 _ _ rfl rfl ⟨rfl,Nat.le_refl _,fun i j hi hj=> .eq _ _ rfl aJ⟩,.old 1 1 _ _ rfl rfl ⟨rfl,Nat.le_refl _,fun i j hi hj=> .eq _ _ rfl aJ⟩,.old 2 2 _ _ rfl rfl ⟨rfl,Nat.le_refl _,fun i j hi hj=> .eq _ _ rfl aJ⟩,.old 3 3 _ _ rfl rfl ⟨rfl,Nat.le_refl _,fun i j hi hj=> .eq _ _ rfl aJ⟩,.old 4 4 _ _ rfl rfl ⟨rfl,Nat.le_refl _,fun i j hi hj=> .eq _ _ rfl aJ⟩,trivial⟩ rfl rfl
         · have hlt:s+b<m:=by
            have hz2:¬ z >= 0:=of_decide_eq_false hz2
            rw [hz,cmpZ]at hz2
            split at hz2
            · omega
            · split at hz2 <;> omega
           conv=>whnf
           repeat (refine⟨⟨[],rfl⟩,?_⟩;conv=>whnf)
           refine⟨k,_,_,[some 0,some 1,some 2,some 3,some 4],Nat.lt_succ_self _,⟨s+b,(k:Int) - 1,rfl,rfl,rfl,by omega,?_⟩,?_⟩
           · have e3:r+r=s:=by rw [e1,hc0,Nat.zero_mul,Nat.add_zero]
             rw [hst,Nat.mod_eq_of_lt (by omega)];omega
           · exact .mk0 ⟨.ptr _ _ _ _ rfl,.ptr _ _ _ _ rfl,.ptr _ _ _ _ rfl,.ptr _ _ _ _ rfl,.ptr _ _ _ _ rfl,Flat.i (w64 (by omega) (by omega)),trivial⟩ ⟨.old 0 0 _ _ rfl rfl ⟨rfl,Nat.le_refl _,fun i j hi hj=> .eq _ _ rfl aJ⟩,.old 1 1 _ _ rfl rfl ⟨rfl,Nat.le_refl _,fun i j hi hj=> .eq _ _ rfl aJ⟩,.old 2 2 _ _ rfl rfl ⟨rfl,Nat.le_refl _,fun i j hi hj=> .eq _ _ rfl aJ⟩,.old 3 3 _ _ rfl rfl ⟨rfl,Nat.le_refl _,fun i j hi hj=> .eq _ _ rfl aJ⟩,.old 4 4 _ _ rfl rfl ⟨rfl,Nat.le_refl _,fun i j hi hj=>or_blk hs2 hb1 hi hj rfl⟩,trivial⟩ rfl rfl
     · conv=>whnf
       repeat (refine⟨⟨[],rfl⟩,?_⟩;conv=>whnf)
       refine S_LAdd hr1 hr1 (fun s c e1 hs hc=> ?_)
       conv=>whnf
       repeat (refine⟨⟨[],rfl⟩,?_⟩;conv=>whnf)
       refine S_LBit (a:=lo) (i:=k % 256) (by omega) (fun b hb2=> ?_)
       conv=>whnf
       repeat (refine⟨⟨[],rfl⟩,?_⟩;conv=>whnf)
       have hb3:b=(hi*w256+lo) / 2 ^ k % 2:=by rw [hb2];exact(bit_lo (by simp at hk;omega)).symm
       have hb1:b<=1:=by omega
       have hs2:s % 2=0:=by unfold w256 at e1;omega
       have hsb:s+b<w256:=by unfold w256 at hs ⊢;omega
       have et:=top_eq hr1 hs hc e1
       have hx:=or_cells (s:=s) (b:=b) hs2 hb1
       have hst:(hi*w256+lo) / 2 ^ k % m=(2*r+b) % m:=by rw [hr,hb3];exact step_mod
       by_cases hc1:c=1
       · refine kP (by rw [et,hc1];rfl) ?_
         conv=>whnf
         repeat (refine⟨⟨[],rfl⟩,?_⟩;conv=>whnf)
         refine S_LSubE (a:=s+b) (b:=m) (Eq.trans (cell4 (a:= .int .u64 (eE .or .u64 (lim s 0) (IntKind.u64.wrap (b:Int)))) (b:= .int .u64 (lim s 1)) (c:= .int .u64 (lim s 2)) (d:= .int .u64 (lim s 3)) upd_at (kJ (t:=0) rfl) (kJ (t:=1) rfl) (kJ (t:=2) rfl)) hx) rfl hsb h3 (fun t d e2 ht hd=> ?_)
         conv=>whnf
         repeat (refine⟨⟨[],rfl⟩,?_⟩;conv=>whnf)
         refine⟨k,_,_,[some 0,some 1,some 2,some 3,some 4],Nat.lt_succ_self _,⟨t,(k:Int) - 1,rfl,rfl,rfl,by omega,?_⟩,?_⟩
         · rw [hst]
           exact mod_wrap h3 hrm e1 hs hc1 hb1 e2 ht hd
         · exact .mk0 ⟨.ptr _ _ _ _ rfl,.ptr _ _ _ _ rfl,.ptr _ _ _ _ rfl,.ptr _ _ _ _ rfl,.ptr _ _ _ _ rfl,Flat.i (w64 (by omega) (by omega)),trivial⟩ ⟨.old 0 0 _ _ rfl rfl ⟨rfl,Nat.le_refl _,fun i j hi hj=> .eq _ _ rfl aJ⟩,.old 1 1 _ _ rfl rfl ⟨rfl,Nat.le_refl _,fun i j hi hj=> .eq _ _ rfl aJ⟩,.old 2 2 _ _ rfl rfl ⟨rfl,Nat.le_refl _,fun i j hi hj=> .eq _ _ rfl aJ⟩,.old 3 3 _ _ rfl rfl ⟨rfl,Nat.le_refl _,fun i j hi hj=> .eq _ _ rfl aJ⟩,.old 4 4 _ _ rfl rfl ⟨rfl,Nat.le_refl _,fun i j hi hj=> .eq _ _ rfl aJ⟩,trivial⟩ rfl rfl
       · have hc0:c=0:=by omega
         refine dK (by rw [et,hc0];rfl) ?_
         conv=>whnf
         repeat (refine⟨⟨[],rfl⟩,?_⟩;conv=>whnf)
         refine S_LCmpE (a:=s+b) (b:=m) (Eq.trans (cell4 (a:= .int .u64 (eE .or .u64 (lim s 0) (IntKind.u64.wrap (b:Int)))) (b:= .int .u64 (lim s 1)) (c:= .int .u64 (lim s 2)) (d:= .int .u64 (lim s 3)) upd_at (kJ (t:=0) rfl) (kJ (t:=1) rfl) (kJ (t:=2) rfl)) hx) rfl hsb h3 (fun z hz=> ?_)
         conv=>whnf
         repeat (refine⟨⟨[],rfl⟩,?_⟩;conv=>whnf)
         refine aE (fun hz2=> ?_) (fun hz2=> ?_)
         · have hge:m<=s+b:=by
            have hz2:z >= 0:=of_decide_eq_true hz2
            rw [hz,cmpZ]at hz2
            split at hz2
            · omega
            · omega
           conv=>whnf
           repeat (refine⟨⟨[],rfl⟩,?_⟩;conv=>whnf)
           refine S_LSubE (a:=s+b) (b:=m) (Eq.trans (cell4 (a:= .int .u64 (eE .or .u64 (lim s 0) (IntKind.u64.wrap (b:Int)))) (b:= .int .u64 (lim s 1)) (c:= .int .u64 (lim s 2)) (d:= .int .u64 (lim s 3)) upd_at (kJ (t:=0) rfl) (kJ (t:=1) rfl) (kJ (t:=2) rfl)) hx) rfl hsb h3 (fun t d e2 ht hd=> ?_)
           conv=>whnf
           repeat (refine⟨⟨[],rfl⟩,?_⟩;conv=>whnf)
           refine⟨k,_,_,[some 0,some 1,some 2,some 3,some 4],Nat.lt_succ_self _,⟨t,(k:Int) - 1,rfl,rfl,rfl,by omega,?_⟩,?_⟩
           · rw [hst]
             exact mod_sub hrm e1 hc0 hb1 hge e2 ht hd
           · exact .mk0 ⟨.ptr _ _ _ _ rfl,.ptr _ _ _ _ rfl,.ptr _ _ _ _ rfl,.ptr _ _ _ _ rfl,.ptr _ _ _ _ rfl,Flat.i (w64 (by omega) (by omega)),trivial⟩ ⟨.old 0 0 _ _ rfl rfl ⟨rfl,Nat.le_refl _,fun i j hi hj=> .eq _ _ rfl aJ⟩,.old 1 1 _ _ rfl rfl ⟨rfl,Nat.le_refl _,fun i j hi hj=> .eq _ _ rfl aJ⟩,.old 2 2 _ _ rfl rfl ⟨rfl,Nat.le_refl _,fun i j hi hj=> .eq _ _ rfl aJ⟩,.old 3 3 _ _ rfl rfl ⟨rfl,Nat.le_refl _,fun i j hi hj=> .eq _ _ rfl aJ⟩,.old 4 4 _ _ rfl rfl ⟨rfl,Nat.le_refl _,fun i j hi hj=> .eq _ _ rfl aJ⟩,trivial⟩ rfl rfl
         · have hlt:s+b<m:=by
            have hz2:¬ z >= 0:=of_decide_eq_false hz2
            rw [hz,cmpZ]at hz2
            split at hz2
            · omega
            · split at hz2 <;> omega
           conv=>whnf
           repeat (refine⟨⟨[],rfl⟩,?_⟩;conv=>whnf)
           refine⟨k,_,_,[some 0,some 1,some 2,some 3,some 4],Nat.lt_succ_self _,⟨s+b,(k:Int) - 1,rfl,rfl,rfl,by omega,?_⟩,?_⟩
           · have e3:r+r=s:=by rw [e1,hc0,Nat.zero_mul,Nat.add_zero]
             rw [hst,Nat.mod_eq_of_lt (by omega)];omega
           · exact .mk0 ⟨.ptr _ _ _ _ rfl,.ptr _ _ _ _ rfl,.ptr _ _ _ _ rfl,.ptr _ _ _ _ rfl,.ptr _ _ _ _ rfl,Flat.i (w64 (by omega) (by omega)),trivial⟩ ⟨.old 0 0 _ _ rfl rfl ⟨rfl,Nat.le_refl _,fun i j hi hj=> .eq _ _ rfl aJ⟩,.old 1 1 _ _ rfl rfl ⟨rfl,Nat.le_refl _,fun i j hi hj=> .eq _ _ rfl aJ⟩,.old 2 2 _ _ rfl rfl ⟨rfl,Nat.le_refl _,fun i j hi hj=> .eq _ _ rfl aJ⟩,.old 3 3 _ _ rfl rfl ⟨rfl,Nat.le_refl _,fun i j hi hj=> .eq _ _ rfl aJ⟩,.old 4 4 _ _ rfl rfl ⟨rfl,Nat.le_refl _,fun i j hi hj=>or_blk hs2 hb1 hi hj rfl⟩,trivial⟩ rfl rfl
   · obtain rfl:q=0:=by simp at hb;omega
     rw [Nat.pow_zero,Nat.div_one]at hr
     conv=>whnf
     repeat (refine⟨⟨[],rfl⟩,?_⟩;conv=>whnf)
     rw [<- hr]
     exact⟨rfl,.tup _ (.cons _ _ aL (.cons _ _ (.int _ _) .nil))⟩
theorem S_LMod {m:Mem} {K:AV->Mem->Prop} {hi lo n:Nat} (h1:hi<w256) (h2:lo<w256) (h3:n<w256) (h0:0<n) (h:K (.tup [numA ((hi*w256+lo) % n),.int .i64 0]) m):ACall Pg sC [numA hi,numA lo,numA n] m K:=by
 refine aD (S_LMod0 hi lo n h1 h2 h3 h0) (.cons _ _ _ _ aG (.cons _ _ _ _ aG (.cons _ _ _ _ aG .nil))) ?_
 rintro v rfl
 exact h
theorem S_Wide {m:Mem} {K:AV->Mem->Prop} {hi lo:Nat} (h1:hi<w256) (h2:lo<w256) (h:K (numA ((hi*w256+lo) % nN)) m):ACall Pg iS [.int .i64 1,numA hi,numA lo] m K:=by
 have h0:ACall Pg iS [.int .i64 1,numA hi,numA lo] [] (fun v _=>v=numA ((hi*w256+lo) % nN)/\Flat true v):=by
  refine xR ⟨rfl,?_⟩
  conv=>whnf
  repeat (refine⟨⟨[],rfl⟩,?_⟩;conv=>whnf)
  refine S_rfold_1 h2 h1 (fun r hr=> ?_)
  obtain rfl:r=(hi*w256+lo) % nN:=by rw [hr,Nat.add_comm,Nat.mul_comm]
  generalize (hi*w256+lo) % nN=r
  conv=>whnf
  repeat (refine⟨⟨[],rfl⟩,?_⟩;conv=>whnf)
  exact⟨rfl,aL⟩
 refine aD h0 (.cons _ _ _ _ aK (.cons _ _ _ _ aG (.cons _ _ _ _ aG .nil))) ?_
 rintro v rfl
 exact h
def scN (n:Nat) (f:Nat->Int):Nat:=(ofZ (sumB (n+1) (catB n f fun _=>0))*w256+ofZ (sumB (n+1) (catB n f fun _=>1))) % nN
theorem scN_lt {n:Nat} {f:Nat->Int}:scN n f<nN:=Nat.mod_lt _ (by decide)
theorem S_Scalar0 (s:ByteArray) (r cap:Nat) (N C:Nat->Nat) (F:Nat->Nat->Int) (hs:s.size<=1000000) (hr:r<=1000000) (hN:∀ i,i<r->N i<=1000000) (hF:∀ i,i<r->∀ j,j<N i->0<=F i j/\F i j<=255):
 ACall Pg lF [.str s,.vsl 1 r cap (lQ N C F)] [] (fun v _=>v=(if nT s.size N r<=65536 then .tup [numA (scN (nT s.size N r) (cT s.size (strF s) N F r)),.int .i64 0]else .tup [numA 0,.int .i64 4])/\Flat true v):=by
 refine B_draw_Scalar ⟨rfl,?_⟩
 conv=>whnf
 repeat (refine⟨⟨[],rfl⟩,?_⟩;conv=>whnf)
 refine S_joined (N:=N) (F:=F) iA.vsl hs hr hN (fun h n f cap1 hn hf=> ?_) (fun h f cap1=> ?_)
 · rw [if_pos h,<- hn,<- hf]
   have hf1:∀ i,i<n->0<=f i/\f i<=255:=fun i hi=>by rw [hf];exact cT_in (fun _ _=>strF_lt) hF i (by omega)
   have g0:∀ x:Int,0<=x/\x<=255->∀ i,i<n+1->0<=catB n f (fun _=>x) i/\catB n f (fun _=>x) i<=255:=fun x hx i hi=>wZ (m:=1) hf1 (fun _ _=>hx) hi
   clear hf
   conv=>whnf
   repeat (refine⟨⟨[],rfl⟩,?_⟩;conv=>whnf)
   refine S_with (k:=1) (f:=f) (g:=fun _=>0) (bA.sl rfl (Nat.le_of_eq (Nat.zero_add _)) fun i hi=>by rw [Nat.zero_add]) (bA.one rfl rfl) (by omega) (by decide) (fun cap2 h0 hh0=> ?_)
   conv=>whnf
   repeat (refine⟨⟨[],rfl⟩,?_⟩;conv=>whnf)
   refine S_SumR (f:=h0) (bA.sl rfl (Nat.le_of_eq (Nat.zero_add _)) fun i hi=>by rw [Nat.zero_add]) (by omega) (fun i hi=>by rw [hh0];exact g0 0 (by decide) i hi) (fun s0 hs0 hb0=> ?_)
   conv=>whnf
   repeat (refine⟨⟨[],rfl⟩,?_⟩;conv=>whnf)
   refine S_LOf (f:=s0) (fun i _=>hb0 i) (fun a ha ha1=> ?_)
   conv=>whnf
   repeat (refine⟨⟨[],rfl⟩,?_⟩;conv=>whnf)
   refine S_with (k:=1) (f:=f) (g:=fun _=>1) (bA.sl rfl (Nat.le_of_eq (Nat.zero_add _)) fun i hi=>by rw [Nat.zero_add]) (bA.one rfl rfl) (by omega) (by decide) (fun cap3 h1 hh1=> ?_)
   conv=>whnf
   repeat (refine⟨⟨[],rfl⟩,?_⟩;conv=>whnf)
   refine S_SumR (f:=h1) (bA.sl rfl (Nat.le_of_eq (Nat.zero_add _)) fun i hi=>by rw [Nat.zero_add]) (by omega) (fun i hi=>by rw [hh1];exact g0 1 (by decide) i hi) (fun s1 hs1 hb1=> ?_)
   conv=>whnf
   repeat (refine⟨⟨[],rfl⟩,?_⟩;conv=>whnf)
   refine S_LOf (f:=s1) (fun i _=>hb1 i) (fun b hb hb2=> ?_)
   have e:scN n f=(a*w256+b) % nN:=by rw [ha,hb,hs0,hs1,hh0,hh1];rfl
   rw [e]
   conv=>whnf
   repeat (refine⟨⟨[],rfl⟩,?_⟩;conv=>whnf)
   refine S_Prime_1 (fun p hp=> ?_)
   conv=>whnf
   repeat (refine⟨⟨[],rfl⟩,?_⟩;conv=>whnf)
   refine S_LMod ha1 hb2 (by rw [hp];decide) (by rw [hp];decide) ?_
   rw [hp]
   generalize (a*w256+b) % nN=z
   conv=>whnf
   repeat (refine⟨⟨[],rfl⟩,?_⟩;conv=>whnf)
   exact⟨rfl,.tup _ (.cons _ _ aL (.cons _ _ (.int _ _) .nil))⟩
 · rw [if_neg (by omega)]
   conv=>whnf
   repeat (refine⟨⟨[],rfl⟩,?_⟩;conv=>whnf)
   refine⟨rfl,?_⟩
   show Flat true (.tup [numA 0,.int .i64 4])
   exact .tup _ (.cons _ _ aL (.cons _ _ (.int _ _) .nil))
theorem S_DScalar {m:Mem} {x:AV} {K:AV->Mem->Prop} {s:ByteArray} {r:Nat} {N:Nat->Nat} {F:Nat->Nat->Int} (hx:iA m x r N F) (hs:s.size<=1000000) (hr:r<=1000000) (hN:∀ i,i<r->N i<=1000000) (hF:∀ i,i<r->∀ j,j<N i->0<=F i j/\F i j<=255)
 (h1:nT s.size N r<=65536->∀ a,a=scN (nT s.size N r) (cT s.size (strF s) N F r)->a<nN->K (.tup [numA a,.int .i64 0]) m)
 (h2:65536<nT s.size N r->K (.tup [numA 0,.int .i64 4]) m):ACall Pg lF [.str s,x] m K:=by
 obtain⟨cap,C,hl⟩:=hx
 refine aD (S_Scalar0 s r cap N C F hs hr hN hF) (.cons _ _ _ _ (aF (.str _)) (.cons _ _ _ _ hl .nil)) ?_
 rintro v rfl
 by_cases h:nT s.size N r<=65536
 · rw [if_pos h];exact h1 h _ rfl scN_lt
 · rw [if_neg h];exact h2 (by omega)
theorem S_RScalar0 (s:ByteArray) (r cap:Nat) (N C:Nat->Nat) (F:Nat->Nat->Int) (hs:s.size<=1000000) (hr:r<=1000000) (hN:∀ i,i<r->N i<=1000000) (hF:∀ i,i<r->∀ j,j<N i->0<=F i j/\F i j<=255):
 ACall Pg dN [.str s,.vsl 1 r cap (lQ N C F)] [] (fun v _=>v=(if nT s.size N r<=65536 then .tup [numA (scN (nT s.size N r) (cT s.size (strF s) N F r)),.bool true]else .tup [numA 0,.bool false])/\Flat true v):=by
 refine tI ⟨rfl,?_⟩
 conv=>whnf
 repeat (refine⟨⟨[],rfl⟩,?_⟩;conv=>whnf)
 refine S_Joined (N:=N) (F:=F) iA.vsl hs hr hN (fun h n f cap1 hn hf=> ?_) (fun h f cap1=> ?_)
 · rw [if_pos h,<- hn,<- hf]
   have hf1:∀ i,i<n->0<=f i/\f i<=255:=fun i hi=>by rw [hf];exact cT_in (fun _ _=>strF_lt) hF i (by omega)
   have g0:∀ x:Int,0<=x/\x<=255->∀ i,i<n+1->0<=catB n f (fun _=>x) i/\catB n f (fun _=>x) i<=255:=fun x hx i hi=>wZ (m:=1) hf1 (fun _ _=>hx) hi
   clear hf
   conv=>whnf
   repeat (refine⟨⟨[],rfl⟩,?_⟩;conv=>whnf)
   refine tA (n:=n) (k:=1) (f:=f) (g:=fun _=>0) (iA.sl rfl (Nat.le_refl 2) (fun i hi=> ?_)) (by omega) (by decide) (fun cap2 h0 hh0=> ?_)
   · have:i=0\/i=1:=by omega
     rcases this with rfl | rfl
     · exact bA.sl rfl (Nat.le_of_eq (Nat.zero_add _)) fun i hi=>by rw [Nat.zero_add];rfl
     · exact bA.one rfl rfl
   conv=>whnf
   repeat (refine⟨⟨[],rfl⟩,?_⟩;conv=>whnf)
   refine mC (f:=h0) (bA.sl rfl (Nat.le_of_eq (Nat.zero_add _)) fun i hi=>by rw [Nat.zero_add]) (by omega) (fun i hi=>by rw [hh0];exact g0 0 (by decide) i hi) (fun s0 hs0 hb0=> ?_)
   conv=>whnf
   repeat (refine⟨⟨[],rfl⟩,?_⟩;conv=>whnf)
   refine tA (n:=n) (k:=1) (f:=f) (g:=fun _=>1) (iA.sl rfl (Nat.le_refl 2) (fun i hi=> ?_)) (by omega) (by decide) (fun cap3 h1 hh1=> ?_)
   · have:i=0\/i=1:=by omega
     rcases this with rfl | rfl
     · exact bA.sl rfl (Nat.le_of_eq (Nat.zero_add _)) fun i hi=>by rw [Nat.zero_add];rfl
     · exact bA.one rfl rfl
   conv=>whnf
   repeat (refine⟨⟨[],rfl⟩,?_⟩;conv=>whnf)
   refine mC (f:=h1) (bA.sl rfl (Nat.le_of_eq (Nat.zero_add _)) fun i hi=>by rw [Nat.zero_add]) (by omega) (fun i hi=>by rw [hh1];exact g0 1 (by decide) i hi) (fun s1 hs1 hb1=> ?_)
   conv=>whnf
   repeat (refine⟨⟨[],rfl⟩,?_⟩;conv=>whnf)
   refine S_ROf (f:=s0) (fun i _=>hb0 i) (fun a ha ha1=> ?_)
   conv=>whnf
   repeat (refine⟨⟨[],rfl⟩,?_⟩;conv=>whnf)
   refine S_ROf (f:=s1) (fun i _=>hb1 i) (fun b hb hb2=> ?_)
   have e:scN n f=(a*w256+b) % nN:=by rw [ha,hb,hs0,hs1,hh0,hh1];rfl
   rw [e]
   conv=>whnf
   repeat (refine⟨⟨[],rfl⟩,?_⟩;conv=>whnf)
   refine S_Wide ha1 hb2 ?_
   generalize (a*w256+b) % nN=z
   conv=>whnf
   repeat (refine⟨⟨[],rfl⟩,?_⟩;conv=>whnf)
   exact⟨rfl,.tup _ (.cons _ _ aL (.cons _ _ (.bool _) .nil))⟩
 · rw [if_neg (by omega)]
   conv=>whnf
   repeat (refine⟨⟨[],rfl⟩,?_⟩;conv=>whnf)
   refine⟨rfl,?_⟩
   show Flat true (.tup [numA 0,.bool false])
   exact .tup _ (.cons _ _ aL (.cons _ _ (.bool _) .nil))
theorem S_RScalar {m:Mem} {x:AV} {K:AV->Mem->Prop} {s:ByteArray} {r:Nat} {N:Nat->Nat} {F:Nat->Nat->Int} (hx:iA m x r N F) (hs:s.size<=1000000) (hr:r<=1000000) (hN:∀ i,i<r->N i<=1000000) (hF:∀ i,i<r->∀ j,j<N i->0<=F i j/\F i j<=255)
 (h1:nT s.size N r<=65536->∀ a,a=scN (nT s.size N r) (cT s.size (strF s) N F r)->a<nN->K (.tup [numA a,.bool true]) m)
 (h2:65536<nT s.size N r->K (.tup [numA 0,.bool false]) m):ACall Pg dN [.str s,x] m K:=by
 obtain⟨cap,C,hl⟩:=hx
 refine aD (S_RScalar0 s r cap N C F hs hr hN hF) (.cons _ _ _ _ (aF (.str _)) (.cons _ _ _ _ hl .nil)) ?_
 rintro v rfl
 by_cases h:nT s.size N r<=65536
 · rw [if_pos h];exact h1 h _ rfl scN_lt
 · rw [if_neg h];exact h2 (by omega)
end Go.Proofs.YtfolpdmbpbbimaaGreat
end

section
namespace Go.Wit
theorem pigeon {N M:Nat} (f:Nat->Nat) (h1:∀ i,i<N->f i<M) (h2:∀ i j,i<N->j<N->f i=f j->i=j):N<=M:=by
 rcases Nat.lt_or_ge M N with h | h
 · exfalso
   have hn:((List.range N).map f).Nodup:=by
    show List.Pairwise _ _
    rw [List.pairwise_map]
    refine List.Pairwise.imp_of_mem ?_ (List.nodup_range (n:=N))
    intro a b ha hb hab he
    exact hab (h2 a b (List.mem_range.1 ha) (List.mem_range.1 hb) he)
   have hs:∀ x,x ∈ (List.range N).map f->x ∈ List.range M:=by
    intro x hx
    obtain⟨i,hi,rfl⟩:=List.mem_map.1 hx
    exact List.mem_range.2 (h1 i (List.mem_range.1 hi))
   have:=(sS hn hs (by rw [List.length_map,List.length_range,List.length_range];omega)).length_eq
   rw [List.length_map,List.length_range,List.length_range]at this
   omega
 · exact h
def ptCode:Pt Fp->Nat
 | .inf=>0
 | .aff x y=>1+2*x.val+y.val % 2
theorem ptCode_lt (P:Pt Fp):ptCode P<2*pP+1:=by
  cases P with
  | inf=>show 0<_;exact Nat.succ_pos _
  | aff x y =>
    have h:=x.isLt
    show 1+2*x.val+y.val % 2<_
    generalize x.val=a at*
    generalize y.val=b at*
    generalize pP=p at*
    omega
theorem ptCode_inj {P Q:Pt Fp} (oP:On P) (oQ:On Q) (h:ptCode P=ptCode Q):P=Q:=by
  cases P with
  | inf =>
    cases Q with
    | inf=>rfl
    | aff x y=>exfalso;have:0=1+2*x.val+y.val % 2:=h;omega
  | aff x y =>
    cases Q with
    | inf=>exfalso;have:1+2*x.val+y.val % 2=0:=h;omega
    | aff u v =>
      have h:1+2*x.val+y.val % 2=1+2*u.val+v.val % 2:=h
      have hx:x.val=u.val:=by omega
      have hy:y.val % 2=v.val % 2:=by omega
      obtain rfl:x=u:=Fin.ext hx
      have e:y*y=v*v:=by rw [show y*y=x*x*x+7 from oP,show v*v=x*x*x+7 from oQ]
      have v0:v ≠ 0:=On.y_ne crvP oQ
      rcases sq_eq e with rfl | rfl
      · rfl
      · exfalso
        have:=neg_parity v0
        omega
theorem padd_swap {A B C:Pt Fp} (oA:On A) (oB:On B) (oC:On C):padd (padd A B) C=padd (padd A C) B:=by
 rw [bV crvP oA oB oC,nQ B C,<- bV crvP oA oC oB]
theorem coset {A B:Pt Fp} (oA:On A) (oB:On B) {r s N:Nat} (hN:nmul N gG= .inf) (hr:r<=N) (h:padd A (nmul r gG)=padd B (nmul s gG)):A=padd B (nmul (s+(N - r)) gG):=by
 have e:padd (padd A (nmul r gG)) (nmul (N - r) gG)=A:=by
  rw [bV crvP oA (on_G.nmul crvP r) (on_G.nmul crvP _),<- gH crvP on_G,show r+(N - r)=N by omega,hN,jY]
 rw [<- e,h,bV crvP oB (on_G.nmul crvP s) (on_G.nmul crvP _),<- gH crvP on_G]
theorem coset1 {B P:Pt Fp} (oB:On B) (oP:On P) {k:Nat} (h:padd B P=padd B (nmul k gG)):P=nmul k gG:=by
 have h1:padd B.neg (padd B P)=padd B.neg (padd B (nmul k gG)):=by rw [h]
 rwa [<- bV crvP oB.neg oB oP,<- bV crvP oB.neg oB (on_G.nmul crvP k),nQ B.neg B,pI,iM,iM]at h1
theorem self_neg {Q:Pt Fp} (oQ:On Q) (h:padd Q Q= .inf):Q= .inf:=by
  have h1:=neg_of_padd oQ oQ h
  cases Q with
  | inf=>rfl
  | aff x y =>
    exfalso
    have hy:y= -y:=by
      have:Pt.aff x y=Pt.aff x (-y):=h1
      injection this
    have y0:y ≠ 0:=On.y_ne crvP oQ
    have:=neg_parity y0
    rw [<- hy]at this
    omega
theorem three_n:2*pP+1<3*nN:=by decide
theorem n_odd:nN % 2=1:=by decide
theorem all_of {N p:Nat} (h3:2*p+1<3*N) (hodd:N % 2=1) (hc:∀ P:Pt Fp,ptCode P<2*p+1) (hN:nmul N gG= .inf) (heq:∀ {a b:Nat},a<N->b<N->nmul a gG=nmul b gG->a=b) (hmod:∀ m,nmul (m % N) gG=nmul m gG) {P:Pt Fp} (oP:On P):∃ k,P=nmul k gG:=by
 have hpos:0<N:=by omega
 by_cases h1:∃ k,P=nmul k gG
 · exact h1
 have o2:=oP.add crvP oP
 have h2:∃ k,padd P P=nmul k gG:=by
  by_cases h2:∃ k,padd P P=nmul k gG
  · exact h2
  exfalso
  let A:Nat->Pt Fp:=fun q=>if q=0 then .inf else if q=1 then P else padd P P
  have oA:∀ q,On (A q):=fun q=>by
   show On (if q=0 then .inf else if q=1 then P else padd P P)
   split
   · trivial
   · split
     · exact oP
     · exact o2
  have key:∀ q q',q<3->q'<3->∀ r s,r<N->s<N->padd (A q) (nmul r gG)=padd (A q') (nmul s gG)->q=q':=by
   intro q q' hq hq' r s hr hs h
   have c1:=coset (oA q) (oA q') hN (Nat.le_of_lt hr) h
   have c2:=coset (oA q') (oA q) hN (Nat.le_of_lt hs) h.symm
   have hh:q=0\/q=1\/q=2:=by omega
   have hh':q'=0\/q'=1\/q'=2:=by omega
   rcases hh with rfl | rfl | rfl <;> rcases hh' with rfl | rfl | rfl
   · rfl
   · exact absurd ⟨_,c2.trans (iM _)⟩ h1
   · exact absurd ⟨_,c2.trans (iM _)⟩ h2
   · exact absurd ⟨_,c1.trans (iM _)⟩ h1
   · rfl
   · exact absurd ⟨_,coset1 oP oP c2⟩ h1
   · exact absurd ⟨_,c1.trans (iM _)⟩ h2
   · exact absurd ⟨_,coset1 oP oP c1⟩ h1
   · rfl
  have:=pigeon (N:=3*N) (M:=2*p+1) (fun i=>ptCode (padd (A (i / N)) (nmul (i % N) gG))) (fun i _=>hc _) (fun i j hi hj h=>by
   have e:=ptCode_inj ((oA _).add crvP (on_G.nmul crvP _)) ((oA _).add crvP (on_G.nmul crvP _)) h
   have hi1:i / N<3:=(Nat.div_lt_iff_lt_mul hpos).2 hi
   have hj1:j / N<3:=(Nat.div_lt_iff_lt_mul hpos).2 hj
   have hq:=key _ _ hi1 hj1 _ _ (Nat.mod_lt _ hpos) (Nat.mod_lt _ hpos) e
   rw [hq]at e
   have e2:nmul (i % N) gG=nmul (j % N) gG:=by
    have h5:padd (A (j / N)).neg (padd (A (j / N)) (nmul (i % N) gG))=padd (A (j / N)).neg (padd (A (j / N)) (nmul (j % N) gG)):=by rw [e]
    have oB:=oA (j / N)
    rwa [<- bV crvP oB.neg oB (on_G.nmul crvP _),<- bV crvP oB.neg oB (on_G.nmul crvP _),nQ (A (j / N)).neg,pI,iM,iM]at h5
   have e3:=heq (Nat.mod_lt _ hpos) (Nat.mod_lt _ hpos) e2
   have d1:=Nat.div_add_mod i N
   have d2:=Nat.div_add_mod j N
   rw [hq]at d1
   omega)
  omega
 obtain⟨k,hk⟩:=h2
 obtain⟨j,hj⟩ :∃ j,nmul k gG=nmul (j+j) gG:=by
  by_cases hk2:k % 2=0
  · exact⟨k / 2,by rw [show k / 2+k / 2=k by omega]⟩
  · refine⟨(k+N) / 2,?_⟩
    rw [show (k+N) / 2+(k+N) / 2=k+N by omega,gH crvP on_G,hN,jY]
 have oJ:=on_G.nmul crvP j
 have oQ:On (padd P (nmul j gG).neg):=oP.add crvP oJ.neg
 have hQ:padd (padd P (nmul j gG).neg) (padd P (nmul j gG).neg)= .inf:=by
  rw [<- bV crvP oQ oP oJ.neg,padd_swap oP oJ.neg oP,bV crvP o2 oJ.neg oJ.neg,hk,hj,gH crvP on_G,bV crvP oJ oJ (oJ.neg.add crvP oJ.neg),<- bV crvP oJ oJ.neg oJ.neg,pI,iM,pI]
 have hz:=self_neg oQ hQ
 refine⟨j,?_⟩
 have h5:padd (padd P (nmul j gG).neg) (nmul j gG)=nmul j gG:=by rw [hz,iM]
 rwa [bV crvP oP oJ.neg oJ,nQ (nmul j gG).neg,pI,jY]at h5
theorem all_G {P:Pt Fp} (oP:On P):∃ k,P=nmul k gG:=
 all_of three_n n_odd ptCode_lt nG (fun ha hb h=>by have:=nmul_G_eq h;rwa [Nat.mod_eq_of_lt ha,Nat.mod_eq_of_lt hb]at this) rQ oP
theorem mR {P:Pt Fp} (oP:On P) (j:Nat):nmul (j % nN) P=nmul j P:=by
 obtain⟨k,rfl⟩:=all_G oP
 rw [<- kO crvP on_G,<- kO crvP on_G,<- rQ (j % nN*k),<- rQ (j*k),Nat.mod_mul_mod]
end Go.Wit
end

section
namespace Go.Proofs.YtfolpdmbpbbimaaGreat
open Go Go.Wit
def kI (c:Nat->Nat):Nat->Nat->AV:=fun i j=>(numL (c i)).getD j .un
def dA (I:Nat->Bool) (X Y:Nat->Nat):Nat->Nat->AV:=fun i j=>(rawL (I i) (X i) (Y i)).getD j .un
def ptsG (P:Nat->Pt Fp):Nat->Nat->AV:=dA (fun i=>isI (P i)) (fun i=>xN (P i)) (fun i=>yN (P i))
theorem uQ {nv:Bool} {i:Bool} {x y k:Nat}:Flat nv ((rawL i x y).getD k .un):=by
 unfold rawL
 match k with
 | 0=>exact .bool _
 | 1=>exact .int _ _
 | 2=>exact .int _ _
 | 3=>exact .int _ _
 | 4=>exact .int _ _
 | 5=>exact .int _ _
 | 6=>exact .int _ _
 | 7=>exact .int _ _
 | 8=>exact .int _ _
 | k+9=>simp;exact .un
theorem dU {nv:Bool} {c:Nat->Nat} {i j:Nat}:Flat nv (kI c i j):=aJ
theorem dG {nv:Bool} {I:Nat->Bool} {X Y:Nat->Nat} {i j:Nat}:Flat nv (dA I X Y i j):=uQ
theorem bK {nv:Bool} {P:Nat->Pt Fp} {i j:Nat}:Flat nv (ptsG P i j):=uQ
def bZ (m:Mem) (x:AV) (es n:Nat) (G:Nat->Nat->AV):Prop:= ∃ cap,Lend (fun _=>none) (List.range m.length) m x (.vsl es n cap G)
theorem bZ.vsl {m:Mem} {es n cap:Nat} {G:Nat->Nat->AV} (h:∀ i j,i<n->j<es->Flat false (G i j)):bZ m (.vsl es n cap G) es n G:=⟨cap,.vsl _ _ _ _ _ fun i j hi hj=>⟨rfl,h i j hi hj⟩⟩
theorem bZ.nils {m:Mem} {es:Nat} {G:Nat->Nat->AV}:bZ m .nils es 0 G:=⟨0,.nils _ _⟩
theorem bZ.sl {m:Mem} {l off es n cap N:Nat} {g G:Nat->Nat->AV} (h:m[l]? = some (some ⟨es,N,g⟩)) (hn:off+n<=N) (hG:∀ i j,i<n->j<es->G i j=g (off+i) j/\Flat false (G i j)):bZ m (.sl l off n cap) es n G:=
 ⟨cap,.sl l off n cap ⟨es,N,g⟩ _ (List.mem_range.2 (bJ h)) h hn hG⟩
def RetG (es n:Nat) (G:Nat->Nat->AV) (v:AV) (m:Mem):Prop:=
 (v= .nils/\n=0)\/∃ l cap N g,v= .sl l 0 n cap/\m[l]? = some (some ⟨es,N,g⟩)/\n<=N/\∀ i j,i<n->j<es->g i j=G i j
theorem lift_G {P:Program} {fn:FuncId} {args args0:List AV} {m:Mem} {K:AV->Mem->Prop} {es:Nat} {R:Nat->(Nat->Nat->AV)->Prop} (h:ACall P fn args0 [] (fun v m'=>∃ n G,R n G/\RetG es n G v m')) (hf:∀ n G,R n G->∀ i j,i<n->j<es->Flat true (G i j)) (ha:Lends (fun _=>none) (List.range m.length) m args args0)
 (hK:∀ n G cap,R n G->K (.sl m.length 0 n cap) (m++ [some ⟨es,n,G⟩])):ACall P fn args m K:=by
 refine h.frame0 true (List.range m.length) (fun h=>by cases h) ha (fun v m' hv=> ?_)
 obtain⟨n,G,hR,hr⟩:=hv
 rcases hr with⟨rfl,rfl⟩ | ⟨l,cap,N,g,rfl,h1,h2,h3⟩
 · exact⟨.sl m.length 0 0 0,[some ⟨es,0,G⟩],[none],Nat.le_refl _,fun i j q hi=>by cases i <;> simp at hi,.nils _ _,⟨.ph _ _ _ (by simp [eD]),trivial⟩,hK 0 G 0 hR⟩
 · refine⟨.sl m.length 0 n cap,[some ⟨es,n,G⟩],[some l],Nat.le_refl _,fun i j q hi hj=> ?_,.sl _ _ _ _ _ (by simp [eD]),⟨.old _ l _ _ (by simp [eD]) h1 ⟨rfl,h2,fun i j hi hj=> ?_⟩,trivial⟩,hK n G cap hR⟩
   · cases i <;> cases j <;> simp at hi hj;rfl
   · exact .eq _ _ (h3 i j hi hj) (by rw [show (Blk.mk es N g).get i j=g i j from rfl,h3 i j hi hj];exact hf n G hR i j hi hj)
theorem cat_pts {P:Nat->Pt Fp} {k i:Nat} {g:Nat->Nat->AV} (hi:i<k+1) (hg:i=k->∀ j,g (i - k) j=ptsG P k j) (j:Nat):catG k (ptsG P) g i j=ptsG P i j:=by
 by_cases h:i<k
 · rw [cY h]
 · have h:i=k:=by omega
   rw [bL (by omega),hg h,h]
end Go.Proofs.YtfolpdmbpbbimaaGreat
end

section
namespace Go.Proofs.YtfolpdmbpbbimaaGreat
open Go Go.Wit
abbrev dlB:ByteArray:=⟨#[100,108,101,113]⟩
def chN (P:Nat->Pt Fp):Nat:=scN (nT dlB.size (fun i=>pbN (P i)) 5) (cT dlB.size (strF dlB) (fun i=>pbN (P i)) (fun i=>pbF (P i)) 5)
theorem chN_lt {P:Nat->Pt Fp}:chN P<nN:=scN_lt
theorem rI {m:Mem} {x:AV} {K:AV->Mem->Prop} {P:Pt Fp} (hx:x=ptA P) (oP:On P) (h:∀ cap,memK (m++ [some ⟨1,pbN P,aB (pbF P)⟩]) (K (.tup [.sl m.length 0 (pbN P) cap,.int .i64 0]))):ACall Pg fO [x] m K:=by
 subst hx;exact S_CBytes oP h
theorem rH {m:Mem} {x:AV} {K:AV->Mem->Prop} {P:Pt Fp} (hx:x=ptA P) (h:∀ cap,memK (m++ [some ⟨1,pbN P,aB (pbF P)⟩]) (K (.sl m.length 0 (pbN P) cap))):ACall Pg cF [x] m K:=by
 subst hx;exact S_PBytes h
theorem nT5_le {t:Nat} {N:Nat->Nat} (ht:t<=1000) (hN:∀ i,N i<=33):¬ 65536<nT t N 5:=by
 have h0:=hN 0;have h1:=hN 1;have h2:=hN 2;have h3:=hN 3;have h4:=hN 4
 have e:nT t N 5=4+t+(4+N 0)+(4+N 1)+(4+N 2)+(4+N 3)+(4+N 4):=rfl
 omega
theorem flat_ne1 {n:Nat} {e:Int}:Flat true (.tup [numA n,.int .i64 e]):= .tup _ (.cons _ _ aL (.cons _ _ (.int _ _) .nil))
theorem S_challenge0 (P:Nat->Pt Fp) (cap:Nat) (oP:∀ i,i<5->On (P i)):ACall Pg jI [.vsl 9 5 cap (ptsG P)] [] (fun v _=>v= .tup [numA (chN P),.int .i64 0] /\ Flat true v):=by
 refine aAh ⟨rfl,?_⟩
 conv=>whnf
 repeat (refine⟨⟨_,rfl⟩,?_⟩;conv=>whnf)
 refine bH aH 6 ?_
 conv=>whnf
 repeat (refine⟨⟨_,rfl⟩,?_⟩;conv=>whnf)
 refine rI (P:=P 0) rfl (oP 0 (by decide)) (fun c0=> ?_)
 conv=>whnf
 repeat (refine⟨⟨_,rfl⟩,?_⟩;conv=>whnf)
 refine fun d0 h0=> ?_
 conv=>whnf
 repeat (refine⟨⟨_,rfl⟩,?_⟩;conv=>whnf)
 refine rI (P:=P 1) rfl (oP 1 (by decide)) (fun c1=> ?_)
 conv=>whnf
 repeat (refine⟨⟨_,rfl⟩,?_⟩;conv=>whnf)
 refine fun d1 h1=> ?_
 conv=>whnf
 repeat (refine⟨⟨_,rfl⟩,?_⟩;conv=>whnf)
 refine rI (P:=P 2) rfl (oP 2 (by decide)) (fun c2=> ?_)
 conv=>whnf
 repeat (refine⟨⟨_,rfl⟩,?_⟩;conv=>whnf)
 refine fun d2 h2=> ?_
 conv=>whnf
 repeat (refine⟨⟨_,rfl⟩,?_⟩;conv=>whnf)
 refine rI (P:=P 3) rfl (oP 3 (by decide)) (fun c3=> ?_)
 conv=>whnf
 repeat (refine⟨⟨_,rfl⟩,?_⟩;conv=>whnf)
 refine fun d3 h3=> ?_
 conv=>whnf
 repeat (refine⟨⟨_,rfl⟩,?_⟩;conv=>whnf)
 refine rI (P:=P 4) rfl (oP 4 (by decide)) (fun c4=> ?_)
 conv=>whnf
 repeat (refine⟨⟨_,rfl⟩,?_⟩;conv=>whnf)
 refine fun d4 h4=> ?_
 conv=>whnf
 repeat (refine⟨⟨_,rfl⟩,?_⟩;conv=>whnf)
 have hN:∀ i,i<5->pbN (P i)<=1000000:=fun i _=>Nat.le_trans (pbN_le _) (by decide)
 refine S_DScalar (r:=5) (N:=fun i=>pbN (P i)) (F:=fun i=>pbF (P i)) (iA.sl rfl (Nat.le_of_eq (Nat.zero_add _)) fun i hi=> ?_) (by decide) (by decide) hN (fun i _ j _=>pbF_lt _ _) (fun _ a ha _=> ?_) (fun hn=>absurd hn (nT5_le (by decide) (fun i=>pbN_le _)))
 · have:i=0\/i=1\/i=2\/i=3\/i=4:=by omega
   rcases this with rfl | rfl | rfl | rfl | rfl
   all_goals exact bA.slG rfl (Nat.le_of_eq (Nat.zero_add _)) (fun j hj=>by rw [Nat.zero_add];rfl)
 obtain rfl:a=chN P:=ha
 conv=>whnf
 repeat (refine⟨⟨_,rfl⟩,?_⟩;conv=>whnf)
 exact⟨rfl,flat_ne1⟩
theorem S_rchallenge0 (P:Nat->Pt Fp) (cap:Nat) (oP:∀ i,i<5->On (P i)):ACall Pg dL [.vsl 9 5 cap (ptsG P)] [] (fun v _=>v=numA (chN P)/\Flat true v):=by
 refine qH ⟨rfl,?_⟩
 conv=>whnf
 repeat (refine⟨⟨_,rfl⟩,?_⟩;conv=>whnf)
 refine bH aH 6 ?_
 conv=>whnf
 repeat (refine⟨⟨_,rfl⟩,?_⟩;conv=>whnf)
 refine rH (P:=P 0) rfl (fun c0=> ?_)
 conv=>whnf
 repeat (refine⟨⟨_,rfl⟩,?_⟩;conv=>whnf)
 refine fun d0 h0=> ?_
 conv=>whnf
 repeat (refine⟨⟨_,rfl⟩,?_⟩;conv=>whnf)
 refine rH (P:=P 1) rfl (fun c1=> ?_)
 conv=>whnf
 repeat (refine⟨⟨_,rfl⟩,?_⟩;conv=>whnf)
 refine fun d1 h1=> ?_
 conv=>whnf
 repeat (refine⟨⟨_,rfl⟩,?_⟩;conv=>whnf)
 refine rH (P:=P 2) rfl (fun c2=> ?_)
 conv=>whnf
 repeat (refine⟨⟨_,rfl⟩,?_⟩;conv=>whnf)
 refine fun d2 h2=> ?_
 conv=>whnf
 repeat (refine⟨⟨_,rfl⟩,?_⟩;conv=>whnf)
 refine rH (P:=P 3) rfl (fun c3=> ?_)
 conv=>whnf
 repeat (refine⟨⟨_,rfl⟩,?_⟩;conv=>whnf)
 refine fun d3 h3=> ?_
 conv=>whnf
 repeat (refine⟨⟨_,rfl⟩,?_⟩;conv=>whnf)
 refine rH (P:=P 4) rfl (fun c4=> ?_)
 conv=>whnf
 repeat (refine⟨⟨_,rfl⟩,?_⟩;conv=>whnf)
 refine fun d4 h4=> ?_
 conv=>whnf
 repeat (refine⟨⟨_,rfl⟩,?_⟩;conv=>whnf)
 have hN:∀ i,i<5->pbN (P i)<=1000000:=fun i _=>Nat.le_trans (pbN_le _) (by decide)
 refine S_RScalar (r:=5) (N:=fun i=>pbN (P i)) (F:=fun i=>pbF (P i)) (iA.sl rfl (Nat.le_of_eq (Nat.zero_add _)) fun i hi=> ?_) (by decide) (by decide) hN (fun i _ j _=>pbF_lt _ _) (fun _ a ha _=> ?_) (fun hn=>absurd hn (nT5_le (by decide) (fun i=>pbN_le _)))
 · have:i=0\/i=1\/i=2\/i=3\/i=4:=by omega
   rcases this with rfl | rfl | rfl | rfl | rfl
   all_goals exact bA.slG rfl (Nat.le_of_eq (Nat.zero_add _)) (fun j hj=>by rw [Nat.zero_add];rfl)
 obtain rfl:a=chN P:=ha
 conv=>whnf
 repeat (refine⟨⟨_,rfl⟩,?_⟩;conv=>whnf)
 exact⟨rfl,aL⟩
theorem S_challenge {m:Mem} {x:AV} {K:AV->Mem->Prop} {P:Nat->Pt Fp} (hx:bZ m x 9 5 (ptsG P)) (oP:∀ i,i<5->On (P i)) (h:∀ c,c=chN P->c<nN->K (.tup [numA c,.int .i64 0]) m):ACall Pg jI [x] m K:=by
 obtain⟨cap,hl⟩:=hx
 refine aD (S_challenge0 P cap oP) (.cons _ _ _ _ hl .nil) ?_
 rintro v rfl
 exact h _ rfl chN_lt
theorem zE {m:Mem} {x:AV} {K:AV->Mem->Prop} {P:Nat->Pt Fp} (hx:bZ m x 9 5 (ptsG P)) (oP:∀ i,i<5->On (P i)) (h:∀ c,c=chN P->c<nN->K (numA c) m):ACall Pg dL [x] m K:=by
 obtain⟨cap,hl⟩:=hx
 refine aD (S_rchallenge0 P cap oP) (.cons _ _ _ _ hl .nil) ?_
 rintro v rfl
 exact h _ rfl chN_lt
def pr5 (a b c d e:Pt Fp):Nat->Pt Fp:=fun i=>if i=0 then a else if i=1 then b else if i=2 then c else if i=3 then d else e
theorem on_pr5 {a b c d e:Pt Fp} (ha:On a) (hb:On b) (hc:On c) (hd:On d) (he:On e) (i:Nat) (_:i<5):On (pr5 a b c d e i):=by
 unfold pr5
 repeat (split;assumption)
 exact he
theorem Shows5 {m:Mem} {l cap:Nat} {a b c d e:Pt Fp} {g:Nat->Nat->AV} (h:m[l]? = some (some ⟨9,5,g⟩)) (hg:∀ i j,i<5->j<9->g i j=ptsG (pr5 a b c d e) i j):bZ m (.sl l 0 5 cap) 9 5 (ptsG (pr5 a b c d e)):=
 bZ.sl h (Nat.le_of_eq (Nat.zero_add _)) fun i j hi hj=>⟨by rw [Nat.zero_add,hg i j hi hj],bK⟩
def prA (c r:Nat):AV:= .agg [.int .u64 (lim c 0),.int .u64 (lim c 1),.int .u64 (lim c 2),.int .u64 (lim c 3),.int .u64 (lim r 0),.int .u64 (lim r 1),.int .u64 (lim r 2),.int .u64 (lim r 3)]
theorem pM {nv:Bool} {c r:Nat}:Flat nv (prA c r):= .agg _ (by repeat (first | exact .nil | refine .cons _ _ (.int _ _) ?_))
noncomputable def prfC (s k:Nat) (b:Pt Fp):Nat:=chN (pr5 (nmul s gG) b (nmul s b) (nmul k gG) (nmul k b))
def prfR (s k c:Nat):Nat:=(k+(nN - c*s % nN % nN)) % nN
theorem T_RBase {m:Mem} {K:AV->Mem->Prop} {n:Nat} (hn:n<w256) (h:∀ P,On P->P=nmul n gG->K (ptA P) m):ACall Pg bW [numA n] m K:=S_rBase hn (h _ (on_G.nmul crvP n) rfl)
theorem T_rTimes2 {m:Mem} {K:AV->Mem->Prop} {n:Nat} {P:Pt Fp} (hn:n<w256) (oP:On P) (h:∀ Q,On Q->Q=nmul n P->K (ptA Q) m):ACall Pg aS [numA n,ptA P] m K:=S_rTimes hn oP (h _ (oP.nmul crvP n) rfl)
theorem S_nmul {m:Mem} {K:AV->Mem->Prop} {a b:Nat} (ha:a<w256) (hb:b<w256) (h:∀ r,r=a*b % nN->K (numA r) m):ACall Pg dZ [numA a,numA b] m K:=by
 have h0:ACall Pg dZ [numA a,numA b] [] (fun v _=>v=numA (a*b % nN)/\Flat true v):=by
  refine qE ⟨rfl,?_⟩
  conv=>whnf
  repeat (refine⟨⟨_,rfl⟩,?_⟩;conv=>whnf)
  refine S_RFMul_1 (a:=a) (b:=b) ha hb (fun r hr=> ?_)
  rw [<- hr]
  conv=>whnf
  repeat (refine⟨⟨_,rfl⟩,?_⟩;conv=>whnf)
  exact⟨rfl,aL⟩
 refine aD h0 (.cons _ _ _ _ aG (.cons _ _ _ _ aG .nil)) ?_
 rintro v rfl
 exact h _ rfl
theorem S_nsub {m:Mem} {K:AV->Mem->Prop} {a b:Nat} (ha:a<w256) (hb:b<w256) (h:∀ r,r=(a+(nN - b % nN)) % nN->K (numA r) m):ACall Pg jE [numA a,numA b] m K:=by
 have h0:ACall Pg jE [numA a,numA b] [] (fun v _=>v=numA ((a+(nN - b % nN)) % nN)/\Flat true v):=by
  refine zP ⟨rfl,?_⟩
  conv=>whnf
  repeat (refine⟨⟨_,rfl⟩,?_⟩;conv=>whnf)
  refine S_RFSub_1 (a:=a) (b:=b) ha hb (fun r hr=> ?_)
  rw [<- hr]
  conv=>whnf
  repeat (refine⟨⟨_,rfl⟩,?_⟩;conv=>whnf)
  exact⟨rfl,aL⟩
 refine aD h0 (.cons _ _ _ _ aG (.cons _ _ _ _ aG .nil)) ?_
 rintro v rfl
 exact h _ rfl
theorem S_RProve0 (s k:Nat) (b:Pt Fp) (hs:s<w256) (hk:k<w256) (ob:On b):ACall Pg cI [numA s,numA k,ptA b] [] (fun v _=>v=prA (prfC s k b) (prfR s k (prfC s k b))/\Flat true v):=by
 refine vH ⟨rfl,?_⟩
 conv=>whnf
 repeat (refine⟨⟨_,rfl⟩,?_⟩;conv=>whnf)
 refine T_RBase (n:=s) hs (fun a oa ha=> ?_)
 conv=>whnf
 repeat (refine⟨⟨_,rfl⟩,?_⟩;conv=>whnf)
 refine T_rTimes2 (n:=s) (P:=b) hs ob (fun q oq hq=> ?_)
 conv=>whnf
 repeat (refine⟨⟨_,rfl⟩,?_⟩;conv=>whnf)
 refine T_RBase (n:=k) hk (fun u ou hu=> ?_)
 conv=>whnf
 repeat (refine⟨⟨_,rfl⟩,?_⟩;conv=>whnf)
 refine T_rTimes2 (n:=k) (P:=b) hk ob (fun v ov hv=> ?_)
 conv=>whnf
 repeat (refine⟨⟨_,rfl⟩,?_⟩;conv=>whnf)
 refine zE (P:=pr5 a b q u v) (Shows5 rfl ?_) (on_pr5 oa ob oq ou ov) (fun c hc hc1=> ?_)
 · intro i j hi hj
   have h1:i=0\/i=1\/i=2\/i=3\/i=4:=by omega
   have h2:j=0\/j=1\/j=2\/j=3\/j=4\/j=5\/j=6\/j=7\/j=8:=by omega
   rcases h1 with rfl | rfl | rfl | rfl | rfl <;> rcases h2 with rfl | rfl | rfl | rfl | rfl | rfl | rfl | rfl | rfl <;> rfl
 conv=>whnf
 repeat (refine⟨⟨_,rfl⟩,?_⟩;conv=>whnf)
 refine S_nmul (a:=c) (b:=s) (Nat.lt_trans hc1 (by decide)) hs (fun r1 hr1=> ?_)
 conv=>whnf
 repeat (refine⟨⟨_,rfl⟩,?_⟩;conv=>whnf)
 refine S_nsub (a:=k) (b:=r1) hk (by rw [hr1];exact Nat.lt_trans (Nat.mod_lt _ (by decide)) (by decide)) (fun r2 hr2=> ?_)
 conv=>whnf
 repeat (refine⟨⟨_,rfl⟩,?_⟩;conv=>whnf)
 have e1:c=prfC s k b:=by rw [hc,ha,hq,hu,hv];rfl
 have e2:r2=prfR s k (prfC s k b):=by rw [hr2,hr1,e1];rfl
 rw [<- e2,<- e1]
 exact⟨rfl,pM⟩
theorem S_RProve {m:Mem} {K:AV->Mem->Prop} {s k:Nat} {b:Pt Fp} (hs:s<w256) (hk:k<w256) (ob:On b) (h:∀ c r,c=prfC s k b->r=prfR s k c->c<nN->r<nN->K (prA c r) m):ACall Pg cI [numA s,numA k,ptA b] m K:=by
 refine aD (S_RProve0 s k b hs hk ob) (.cons _ _ _ _ aG (.cons _ _ _ _ aG (.cons _ _ _ _ (aF aW) .nil))) ?_
 rintro v rfl
 exact h _ _ rfl rfl chN_lt (Nat.mod_lt _ (by decide))
theorem S_dtimes {m:Mem} {K:AV->Mem->Prop} {n:Nat} {P:Pt Fp} (hn:n<w256) (oP:On P) (h:∀ R,On R->R=nmul n P->K (ptA R) m):ACall Pg mZ [numA n,ptA P] m K:=by
 have h0:ACall Pg mZ [numA n,ptA P] [] (fun v _=>v=ptA (nmul n P)/\Flat true v):=by
  refine B_dleq_times ⟨rfl,?_⟩
  conv=>whnf
  repeat (refine⟨⟨_,rfl⟩,?_⟩;conv=>whnf)
  refine T_Times (n:=n) (P:=P) hn oP (fun Q oQ hQ=> ?_)
  rw [<- hQ]
  conv=>whnf
  repeat (refine⟨⟨_,rfl⟩,?_⟩;conv=>whnf)
  exact⟨rfl,aW⟩
 refine aD h0 (.cons _ _ _ _ aG (.cons _ _ _ _ (aF aW) .nil)) ?_
 rintro v rfl
 exact h _ (oP.nmul crvP n) rfl
noncomputable def hoB (a b k:Pt Fp) (c r:Nat):Bool:=decide (c<nN) && (decide (r<nN) && decide (chN (pr5 a b k (padd (nmul r gG) (nmul c a)) (padd (nmul r b) (nmul c k)))=c))
theorem eS {x:Bool} {e:Int}:Flat true (.tup [.bool x,.int .i64 e]):= .tup _ (.cons _ _ (.bool _) (.cons _ _ (.int _ _) .nil))
theorem S_RCmpE {m:Mem} {x y:AV} {K:AV->Mem->Prop} {a b:Nat} (hx:x=numA a) (hy:y=numA b) (ha:a<w256) (hb:b<w256) (h:∀ r,r=cmpZ a b->K (.int .i64 r) m):ACall Pg cE [x,y] m K:=by
 subst hx hy;exact S_RCmp ha hb h
theorem S_Holds0 (a b k:Pt Fp) (c r:Nat) (hc:c<w256) (hr:r<w256) (oa:On a) (ob:On b) (ok:On k):ACall Pg iK [ptA a,ptA b,ptA k,prA c r] [] (fun v _=>v= .tup [.bool (hoB a b k c r),.int .i64 0] /\ Flat true v):=by
 refine zI ⟨rfl,?_⟩
 conv=>whnf
 repeat (refine⟨⟨_,rfl⟩,?_⟩;conv=>whnf)
 refine fT (P:=a) oa ?_
 conv=>whnf
 repeat (refine⟨⟨_,rfl⟩,?_⟩;conv=>whnf)
 refine fT (P:=b) ob ?_
 conv=>whnf
 repeat (refine⟨⟨_,rfl⟩,?_⟩;conv=>whnf)
 refine fT (P:=k) ok ?_
 conv=>whnf
 repeat (refine⟨⟨_,rfl⟩,?_⟩;conv=>whnf)
 refine S_Prime_1 (fun p hp=> ?_)
 conv=>whnf
 repeat (refine⟨⟨_,rfl⟩,?_⟩;conv=>whnf)
 refine S_LCmpE (a:=c) (b:=p) rfl rfl hc (by rw [hp];decide) (fun z1 hz1=> ?_)
 conv=>whnf
 repeat (refine⟨⟨_,rfl⟩,?_⟩;conv=>whnf)
 refine aE (fun h1=> ?_) (fun h1=> ?_)
 · conv=>whnf
   repeat (refine⟨⟨_,rfl⟩,?_⟩;conv=>whnf)
   refine S_LCmpE (a:=r) (b:=p) rfl rfl hr (by rw [hp];decide) (fun z2 hz2=> ?_)
   conv=>whnf
   repeat (refine⟨⟨_,rfl⟩,?_⟩;conv=>whnf)
   refine aE (fun h2=> ?_) (fun h2=> ?_)
   · conv=>whnf
     repeat (refine⟨⟨_,rfl⟩,?_⟩;conv=>whnf)
     have g:hoB a b k c r=false:=by
      rcases jM hz2 with⟨_,h⟩ | ⟨h,_⟩
      · rw [h]at h2;exact absurd h2 (by decide)
      · unfold hoB;rw [decide_eq_false (p:=r<nN) (by omega)];simp
     rw [g]
     exact⟨rfl,eS⟩
   · have h3:c<nN:=by
      rcases jM hz1 with⟨h,_⟩ | ⟨_,h | h⟩
      · omega
      · rw [h]at h1;exact absurd h1 (by decide)
      · rw [h]at h1;exact absurd h1 (by decide)
     have h4:r<nN:=by
      rcases jM hz2 with⟨h,_⟩ | ⟨_,h | h⟩
      · omega
      · rw [h]at h2;exact absurd h2 (by decide)
      · rw [h]at h2;exact absurd h2 (by decide)
     clear h1 h2 hz1 hz2
     conv=>whnf
     repeat (refine⟨⟨_,rfl⟩,?_⟩;conv=>whnf)
     refine T_Base (n:=r) hr (fun g1 og1 hg1=> ?_)
     conv=>whnf
     repeat (refine⟨⟨_,rfl⟩,?_⟩;conv=>whnf)
     refine S_dtimes (n:=c) (P:=a) hc oa (fun g2 og2 hg2=> ?_)
     conv=>whnf
     repeat (refine⟨⟨_,rfl⟩,?_⟩;conv=>whnf)
     refine T_Add (P:=g1) (Q:=g2) og1 og2 (fun u ou hu=> ?_)
     conv=>whnf
     repeat (refine⟨⟨_,rfl⟩,?_⟩;conv=>whnf)
     refine T_Two (n:=r) (k:=c) (P:=b) (Q:=k) hr hc ob ok (fun v ov hv=> ?_)
     conv=>whnf
     repeat (refine⟨⟨_,rfl⟩,?_⟩;conv=>whnf)
     refine S_challenge (P:=pr5 a b k u v) (Shows5 rfl ?_) (on_pr5 oa ob ok ou ov) (fun d hd hd1=> ?_)
     · intro i j hi hj
       have h1:i=0\/i=1\/i=2\/i=3\/i=4:=by omega
       have h2:j=0\/j=1\/j=2\/j=3\/j=4\/j=5\/j=6\/j=7\/j=8:=by omega
       rcases h1 with rfl | rfl | rfl | rfl | rfl <;> rcases h2 with rfl | rfl | rfl | rfl | rfl | rfl | rfl | rfl | rfl <;> rfl
     conv=>whnf
     repeat (refine⟨⟨_,rfl⟩,?_⟩;conv=>whnf)
     have g:eqX d c=hoB a b k c r:=by
      rw [lU (Nat.lt_trans hd1 (by decide)) hc]
      unfold hoB
      rw [decide_eq_true h3,decide_eq_true h4,Bool.true_and,Bool.true_and,<- hg1,<- hg2,<- hu,<- hv,<- hd]
     rw [<- g]
     exact⟨rfl,eS⟩
 · conv=>whnf
   repeat (refine⟨⟨_,rfl⟩,?_⟩;conv=>whnf)
   have g:hoB a b k c r=false:=by
    rcases jM hz1 with⟨_,h⟩ | ⟨h,_⟩
    · rw [h]at h1;exact absurd h1 (by decide)
    · unfold hoB;rw [decide_eq_false (p:=c<nN) (by omega)];simp
   rw [g]
   exact⟨rfl,eS⟩
theorem S_Below0 (c r:Nat) (hc:c<w256) (hr:r<w256):ACall Pg iB [prA c r] [] (fun v _=>v= .bool (decide (c<nN) && decide (r<nN))/\Flat true v):=by
 refine vJ ⟨rfl,?_⟩
 conv=>whnf
 repeat (refine⟨⟨_,rfl⟩,?_⟩;conv=>whnf)
 refine lL (fun p hp=> ?_)
 conv=>whnf
 repeat (refine⟨⟨_,rfl⟩,?_⟩;conv=>whnf)
 refine S_RCmpE (a:=c) (b:=p) rfl rfl hc (by rw [hp];decide) (fun z1 hz1=> ?_)
 conv=>whnf
 repeat (refine⟨⟨_,rfl⟩,?_⟩;conv=>whnf)
 refine aE (fun h1=> ?_) (fun h1=> ?_)
 · conv=>whnf
   repeat (refine⟨⟨_,rfl⟩,?_⟩;conv=>whnf)
   refine S_RCmpE (a:=r) (b:=p) rfl rfl hr (by rw [hp];decide) (fun z2 hz2=> ?_)
   conv=>whnf
   repeat (refine⟨⟨_,rfl⟩,?_⟩;conv=>whnf)
   have h3:c<nN:=by
    rcases jM hz1 with⟨h,_⟩ | ⟨_,h | h⟩
    · omega
    · rw [h]at h1;exact absurd h1 (by decide)
    · rw [h]at h1;exact absurd h1 (by decide)
   rw [decide_eq_true h3,Bool.true_and]
   have g:decide (z2<0)=decide (r<nN):=by
    rcases jM hz2 with⟨h,h5⟩ | ⟨h,h5 | h5⟩
    · rw [h5,decide_eq_true (p:=r<nN) (by omega)];rfl
    · rw [h5,decide_eq_false (p:=r<nN) (by omega)];rfl
    · rw [h5,decide_eq_false (p:=r<nN) (by omega)];rfl
   rw [g]
   exact⟨rfl,.bool _⟩
 · conv=>whnf
   repeat (refine⟨⟨_,rfl⟩,?_⟩;conv=>whnf)
   have g:decide (c<nN)=false:=by
    rcases jM hz1 with⟨_,h⟩ | ⟨h,_⟩
    · rw [h]at h1;exact absurd h1 (by decide)
    · exact decide_eq_false (by omega)
   rw [g,Bool.false_and]
   exact⟨rfl,.bool _⟩
theorem S_Below {m:Mem} {K:AV->Mem->Prop} {c r:Nat} (hc:c<w256) (hr:r<w256) (h1:c<nN->r<nN->K (.bool true) m) (h2:¬ (c<nN/\r<nN)->K (.bool false) m):ACall Pg iB [prA c r] m K:=by
 refine aD (S_Below0 c r hc hr) (.cons _ _ _ _ (aF pM) .nil) ?_
 rintro v rfl
 by_cases h3:c<nN <;> by_cases h4:r<nN
 · rw [decide_eq_true h3,decide_eq_true h4];exact h1 h3 h4
 · rw [decide_eq_true h3,decide_eq_false h4];exact h2 (by omega)
 · rw [decide_eq_false h3];exact h2 (by omega)
 · rw [decide_eq_false h3];exact h2 (by omega)
theorem T_rTwo {m:Mem} {K:AV->Mem->Prop} {n k:Nat} {P Q:Pt Fp} (hn:n<w256) (hk:k<w256) (oP:On P) (oQ:On Q) (h:∀ R,On R->R=padd (nmul n P) (nmul k Q)->K (ptA R) m):ACall Pg fG [numA n,ptA P,numA k,ptA Q] m K:=S_rTwo hn hk oP oQ (h _ ((oP.nmul crvP n).add crvP (oQ.nmul crvP k)) rfl)
theorem S_RHolds0 (a b k:Pt Fp) (c r:Nat) (hc:c<w256) (hr:r<w256) (oa:On a) (ob:On b) (ok:On k):ACall Pg dW [ptA a,ptA b,ptA k,prA c r] [] (fun v _=>v= .bool (hoB a b k c r)/\Flat true v):=by
 refine vI ⟨rfl,?_⟩
 conv=>whnf
 repeat (refine⟨⟨_,rfl⟩,?_⟩;conv=>whnf)
 refine S_Below (c:=c) (r:=r) hc hr (fun h3 h4=> ?_) (fun h3=> ?_)
 · conv=>whnf
   repeat (refine⟨⟨_,rfl⟩,?_⟩;conv=>whnf)
   refine S_rG ?_
   conv=>whnf
   repeat (refine⟨⟨_,rfl⟩,?_⟩;conv=>whnf)
   refine T_rTwo (n:=r) (k:=c) (P:=gG) (Q:=a) hr hc on_G oa (fun u ou hu=> ?_)
   conv=>whnf
   repeat (refine⟨⟨_,rfl⟩,?_⟩;conv=>whnf)
   refine T_rTwo (n:=r) (k:=c) (P:=b) (Q:=k) hr hc ob ok (fun v ov hv=> ?_)
   conv=>whnf
   repeat (refine⟨⟨_,rfl⟩,?_⟩;conv=>whnf)
   refine zE (P:=pr5 a b k u v) (Shows5 rfl ?_) (on_pr5 oa ob ok ou ov) (fun d hd hd1=> ?_)
   · intro i j hi hj
     have h1:i=0\/i=1\/i=2\/i=3\/i=4:=by omega
     have h2:j=0\/j=1\/j=2\/j=3\/j=4\/j=5\/j=6\/j=7\/j=8:=by omega
     rcases h1 with rfl | rfl | rfl | rfl | rfl <;> rcases h2 with rfl | rfl | rfl | rfl | rfl | rfl | rfl | rfl | rfl <;> rfl
   conv=>whnf
   repeat (refine⟨⟨_,rfl⟩,?_⟩;conv=>whnf)
   have g:eqX d c=hoB a b k c r:=by
    rw [lU (Nat.lt_trans hd1 (by decide)) hc]
    unfold hoB
    rw [decide_eq_true h3,decide_eq_true h4,Bool.true_and,Bool.true_and,<- hu,<- hv,<- hd]
   rw [<- g]
   exact⟨rfl,.bool _⟩
 · conv=>whnf
   repeat (refine⟨⟨_,rfl⟩,?_⟩;conv=>whnf)
   have g:hoB a b k c r=false:=by
    unfold hoB
    by_cases h5:c<nN
    · rw [decide_eq_false (p:=r<nN) (by omega)];simp
    · rw [decide_eq_false h5];simp
   rw [g]
   exact⟨rfl,.bool _⟩
theorem S_RHolds {m:Mem} {K:AV->Mem->Prop} {a b k:Pt Fp} {c r:Nat} (hc:c<w256) (hr:r<w256) (oa:On a) (ob:On b) (ok:On k) (h:∀ x,x=hoB a b k c r->K (.bool x) m):ACall Pg dW [ptA a,ptA b,ptA k,prA c r] m K:=by
 refine aD (S_RHolds0 a b k c r hc hr oa ob ok) (.cons _ _ _ _ (aF aW) (.cons _ _ _ _ (aF aW) (.cons _ _ _ _ (aF aW) (.cons _ _ _ _ (aF pM) .nil)))) ?_
 rintro v rfl
 exact h _ rfl
theorem S_Holds {m:Mem} {K:AV->Mem->Prop} {a b k:Pt Fp} {c r:Nat} (hc:c<w256) (hr:r<w256) (oa:On a) (ob:On b) (ok:On k) (h:∀ x,x=hoB a b k c r->K (.tup [.bool x,.int .i64 0]) m):ACall Pg iK [ptA a,ptA b,ptA k,prA c r] m K:=by
 refine aD (S_Holds0 a b k c r hc hr oa ob ok) (.cons _ _ _ _ (aF aW) (.cons _ _ _ _ (aF aW) (.cons _ _ _ _ (aF aW) (.cons _ _ _ _ (aF pM) .nil)))) ?_
 rintro v rfl
 exact h _ rfl
theorem S_Holds_bad {m:Mem} {K:AV->Mem->Prop} {i j l:Bool} {x1 y1 x2 y2 x3 y3 c r:Nat} (hx1:x1<w256) (hy1:y1<w256) (hx2:x2<w256) (hy2:y2<w256) (hx3:x3<w256) (hy3:y3<w256) (hb:Bad i x1 y1\/Bad j x2 y2\/Bad l x3 y3) (h:K (.tup [.bool false,.int .i64 3]) m):ACall Pg iK [rawA i x1 y1,rawA j x2 y2,rawA l x3 y3,prA c r] m K:=by
 have h0:ACall Pg iK [rawA i x1 y1,rawA j x2 y2,rawA l x3 y3,prA c r] [] (fun v _=>v= .tup [.bool false,.int .i64 3] /\ Flat true v):=by
  refine zI ⟨rfl,?_⟩
  conv=>whnf
  repeat (refine⟨⟨_,rfl⟩,?_⟩;conv=>whnf)
  refine tB (i:=i) hx1 hy1 (fun P1 o1 e1=> ?_) (fun b1=> ?_)
  · conv=>whnf
    repeat (refine⟨⟨_,rfl⟩,?_⟩;conv=>whnf)
    refine tB (i:=j) hx2 hy2 (fun P2 o2 e2=> ?_) (fun b2=> ?_)
    · conv=>whnf
      repeat (refine⟨⟨_,rfl⟩,?_⟩;conv=>whnf)
      refine tB (i:=l) hx3 hy3 (fun P3 o3 e3=> ?_) (fun b3=> ?_)
      · exfalso
        rcases hb with hb | hb | hb
        · exact hb P1 o1 e1
        · exact hb P2 o2 e2
        · exact hb P3 o3 e3
      · conv=>whnf
        repeat (refine⟨⟨_,rfl⟩,?_⟩;conv=>whnf)
        exact⟨rfl,eS⟩
    · conv=>whnf
      repeat (refine⟨⟨_,rfl⟩,?_⟩;conv=>whnf)
      exact⟨rfl,eS⟩
  · conv=>whnf
    repeat (refine⟨⟨_,rfl⟩,?_⟩;conv=>whnf)
    exact⟨rfl,eS⟩
 refine aD h0 (.cons _ _ _ _ (aF cU) (.cons _ _ _ _ (aF cU) (.cons _ _ _ _ (aF cU) (.cons _ _ _ _ (aF pM) .nil)))) ?_
 rintro v rfl
 exact h
end Go.Proofs.YtfolpdmbpbbimaaGreat
end

section
namespace Go.Proofs.YtfolpdmbpbbimaaGreat
open Go Go.Wit
abbrev seB:ByteArray:=⟨#[115,101,99,114,101,116]⟩
abbrev plB:ByteArray:=⟨#[112,111,108,121]⟩
def wM (a:Nat):Nat:=if a=0 then 1 else a
theorem someN_lt {a:Nat} (h:a<nN):wM a<nN:=by
 unfold wM;split
 · decide
 · exact h
theorem someN_ne {a:Nat}:wM a ≠ 0:=by
 unfold wM;split <;> omega
def secN (n:Nat) (f:Nat->Int):Nat:=wM (scN (nT seB.size (fun _=>n) 1) (cT seB.size (strF seB) (fun _=>n) (fun _=>f) 1))
def drwN (t:ByteArray) (n:Nat) (f:Nat->Int) (i:Nat):Nat:=scN (nT t.size (pr2 n 4) 2) (cT t.size (strF t) (pr2 n 4) (pr2 f (beF (i:Nat) 4)) 2)
def coN (n:Nat) (f:Nat->Int) (i:Nat):Nat:=if i=0 then wM (drwN plB n f 0)else drwN plB n f i
theorem secN_lt {n:Nat} {f:Nat->Int}:secN n f<nN:=someN_lt scN_lt
theorem secN_ne {n:Nat} {f:Nat->Int}:secN n f ≠ 0:=someN_ne
theorem coN_lt {n i:Nat} {f:Nat->Int}:coN n f i<nN:=by
 unfold coN;split
 · exact someN_lt scN_lt
 · exact scN_lt
theorem coN_ne {n:Nat} {f:Nat->Int}:coN n f 0 ≠ 0:=by
 unfold coN;rw [if_pos rfl];exact someN_ne
theorem nT1 {t n:Nat}:nT t (fun _=>n) 1=4+t+(4+n):=rfl
theorem nT2 {t n:Nat}:nT t (pr2 n 4) 2=4+t+(4+n)+(4+4):=rfl
theorem S_rone0 (a:Nat) (ha:a<w256):ACall Pg fF [numA a] [] (fun v _=>v=numA (wM a)/\Flat true v):=by
 refine zN ⟨rfl,?_⟩
 conv=>whnf
 repeat (refine⟨⟨_,rfl⟩,?_⟩;conv=>whnf)
 refine uW (a:=a) ha (fun h=> ?_) (fun h=> ?_)
 · conv=>whnf
   repeat (refine⟨⟨_,rfl⟩,?_⟩;conv=>whnf)
   rw [show wM a=1 by unfold wM;rw [if_pos h]]
   refine⟨rfl,?_⟩
   show Flat true (numA 1)
   exact aL
 · conv=>whnf
   repeat (refine⟨⟨_,rfl⟩,?_⟩;conv=>whnf)
   rw [show wM a=a by unfold wM;rw [if_neg h]]
   exact⟨rfl,aL⟩
theorem S_rone {m:Mem} {K:AV->Mem->Prop} {a:Nat} (ha:a<w256) (h:K (numA (wM a)) m):ACall Pg fF [numA a] m K:=by
 refine aD (S_rone0 a ha) (.cons _ _ _ _ aG .nil) ?_
 rintro v rfl
 exact h
theorem cat_num {c:Nat->Nat} {k i j a:Nat} {g:Nat->Nat->AV} (hi:i<k+1) (ha:a=c k) (hg:∀ j,j<4->g 0 j=(numL a).getD j .un) (hj:j<4):catG k (kI c) g i j=kI c i j:=by
 by_cases h:i<k
 · rw [cY h]
 · have h:i=k:=by omega
   subst h
   rw [bL (Nat.le_refl _),Nat.sub_self,hg j hj,ha];rfl
theorem num_row {nv:Bool} {σ:Nat->Option Nat} {A:AV} {c:Nat->Nat} {k i j a:Nat} {g:Nat->Nat->AV} (hi:i<k+1) (hj:j<4) (ha:a=c k) (hA:A=catG k (kI c) g i j) (hg:∀ j,j<4->g 0 j=(numL a).getD j .un):RV nv σ A (kI c i j):=
 RV.of (hA.trans (cat_num hi ha hg hj)) dU
end Go.Proofs.YtfolpdmbpbbimaaGreat
end

section
namespace Go.Proofs.YtfolpdmbpbbimaaGreat
open Go
end Go.Proofs.YtfolpdmbpbbimaaGreat
end

section
namespace Go.Proofs.YtfolpdmbpbbimaaGreat
open Go Go.Wit
end Go.Proofs.YtfolpdmbpbbimaaGreat
end

section
namespace Go.Proofs.YtfolpdmbpbbimaaGreat
open Go Go.Wit
def actL (k:Int) (i:Bool) (x y:Nat) (s:ByteArray) (sl co:AV) (ag:Int) (c r:Nat):List AV:= [.int .i64 k,.bool i,.int .u64 (lim x 0),.int .u64 (lim x 1),.int .u64 (lim x 2),.int .u64 (lim x 3),.int .u64 (lim y 0),.int .u64 (lim y 1),.int .u64 (lim y 2),.int .u64 (lim y 3),.str s,sl,co,.int .i64 ag,
 .int .u64 (lim c 0),.int .u64 (lim c 1),.int .u64 (lim c 2),.int .u64 (lim c 3),.int .u64 (lim r 0),.int .u64 (lim r 1),.int .u64 (lim r 2),.int .u64 (lim r 3)]
def actA (k:Int) (i:Bool) (x y:Nat) (s:ByteArray) (sl co:AV) (ag:Int) (c r:Nat):AV:= .agg (actL k i x y s sl co ag c r)
abbrev nB:ByteArray:=⟨#[]⟩
end Go.Proofs.YtfolpdmbpbbimaaGreat
end

section
namespace Go.Proofs.YtfolpdmbpbbimaaGreat
open Go Go.Wit
abbrev tProof:Ty:= .st [.arr 4 (.int .u64),.arr 4 (.int .u64)]
theorem ok_proof {av:AV} (h:okV tProof av):∃ c r,c<w256/\r<w256/\av=prA c r:=by
 obtain⟨cs,rfl,h⟩:=h
 simp only [okC,okCs]at h
 obtain⟨c,d,rfl,l2,h2,e,f,rfl,l3,h3,rfl⟩:=h
 obtain⟨x,hx,rfl⟩:=uH (by simpa only [okC]using h2)
 obtain⟨y,hy,rfl⟩:=uH (by simpa only [okC]using h3)
 exact⟨x,y,hx,hy,rfl⟩
theorem prf_sum {P:Pt Fp} (oP:On P) (s k c:Nat):padd (nmul (prfR s k c) P) (nmul c (nmul s P))=nmul k P:=by
 rw [<- kO crvP oP,<- gH crvP oP,<- mR oP,<- mR oP k]
 congr 1
 unfold prfR
 have h:c*s % nN<nN:=Nat.mod_lt _ (by decide)
 generalize hx:c*s % nN=x at*
 rw [Nat.mod_eq_of_lt h,Nat.add_mod,Nat.mod_mod,hx,<- Nat.add_mod_mod,Nat.mod_add_mod]
 have h2:=hx
 rw [Nat.add_mod_mod,Nat.add_assoc,show nN - x+x=nN by omega,Nat.add_mod_right]
theorem hoB_prf {s k:Nat} {b:Pt Fp} (ob:On b):hoB (nmul s gG) b (nmul s b) (prfC s k b) (prfR s k (prfC s k b))=true:=by
 unfold hoB
 rw [prf_sum on_G,prf_sum ob,decide_eq_true (p:=prfC s k b<nN) chN_lt,decide_eq_true (p:=prfR s k (prfC s k b)<nN) (Nat.mod_lt _ (by decide))]
 simp [prfC]
end Go.Proofs.YtfolpdmbpbbimaaGreat
end

section
namespace Go.Proofs.YtfolpdmbpbbimaaGreat
open Go Go.Wit
theorem flat_ii {a b:Int}:Flat true (.tup [.int .i64 a,.int .i64 b]):= .tup _ (.cons _ _ (.int _ _) (.cons _ _ (.int _ _) .nil))
theorem nR {p:Prop} [Decidable p] (h:(decide p == false)=true):¬ p:=by simpa using h
theorem lS {p:Prop} [Decidable p] (h:(decide p == false)=false):p:=by simpa using h
end Go.Proofs.YtfolpdmbpbbimaaGreat
end

section
namespace Go.Proofs.YtfolpdmbpbbimaaGreat
open Go Go.Wit
end Go.Proofs.YtfolpdmbpbbimaaGreat
end

section
namespace Go.Proofs.YtfolpdmbpbbimaaGreat
open Go Go.Wit
structure AcT where
 k:Int
 i:Bool
 x:Nat
 y:Nat
 s:ByteArray
 ns:Nat
 S:Nat->Nat->Int
 nc:Nat
 I:Nat->Bool
 X:Nat->Nat
 Y:Nat->Nat
 ag:Int
 c:Nat
 r:Nat
def dB (S:Nat->Nat->Int):Nat->Nat->AV:=fun i j=> .int .u8 (S i j)
theorem eJ {nv:Bool} {S:Nat->Nat->Int} {i j:Nat}:Flat nv (dB S i j):= .int _ _
theorem lH {n cap:Nat} {S:Nat->Nat->Int}:Flat false (.vsl 32 n cap (dB S)):= .vsl _ _ _ _ rfl fun _ _ _ _=>eJ
theorem uP {n cap:Nat} {I:Nat->Bool} {X Y:Nat->Nat}:Flat false (.vsl 9 n cap (dA I X Y)):= .vsl _ _ _ _ rfl fun _ _ _ _=>dG
end Go.Proofs.YtfolpdmbpbbimaaGreat
end

section
namespace Go.Proofs.YtfolpdmbpbbimaaGreat
open Go Go.Wit
theorem S_points0 (n cap:Nat) (P:Nat->Pt Fp) (oP:∀ i,i<n->On (P i)) (hn:n<=140737488355328):ACall Pg lC [.vsl 9 n cap (ptsG P)] [] (fun v _=>v= .bool true/\Flat true v):=by
 refine B_feld_points ⟨rfl,?_⟩
 conv=>whnf
 repeat (refine⟨⟨[],rfl⟩,?_⟩;conv=>whnf)
 refine aR aH (I:=fun q l m=>∃ (k:Nat),l= [(2,.bool false),(5,.vsl 9 n cap (ptsG P)),(6,.int .i64 n),(7,.int .i64 k)] /\ m= [] /\ q+k=n) n
  (l0:= [(2,.bool false),(5,.vsl 9 n cap (ptsG P)),(6,.int .i64 n),(7,.int .i64 (0:Nat))]) (m0:= []) [] ⟨0,rfl,rfl,rfl⟩ ?_ ?_
 · exact .mk0 ⟨Flat.b rfl,.eq _ _ rfl (.vsl _ _ _ _ rfl (fun _ _ _ _=>bK)),Flat.i rfl,Flat.i rfl,trivial⟩ trivial rfl rfl
 · rintro q l m ⟨k,rfl,rfl,hq⟩
   conv=>whnf
   repeat (refine⟨⟨[],rfl⟩,?_⟩;conv=>whnf)
   refine aE (fun hb=> ?_) (fun hb=> ?_)
   · have hb:k<n:=by simp at hb;omega
     conv=>whnf
     repeat (refine⟨⟨[],rfl⟩,?_⟩;conv=>whnf)
     refine aA (by simp;omega) ?_
     conv=>whnf
     repeat (refine⟨⟨[],rfl⟩,?_⟩;conv=>whnf)
     refine fT (P:=P k) (oP k hb) ?_
     conv=>whnf
     repeat (refine⟨⟨[],rfl⟩,?_⟩;conv=>whnf)
     have e5:IntKind.i64.wrap ((k:Int)+1)=((k+1:Nat):Int):=by rw [w64 (by omega) (by omega)];omega
     refine⟨q - 1,[(2,.bool false),(5,.vsl 9 n cap (ptsG P)),(6,.int .i64 n),(7,.int .i64 ((k+1:Nat):Int))],[],[],by omega,⟨k+1,rfl,rfl,by omega⟩,?_⟩
     exact .mk0 ⟨Flat.b rfl,.eq _ _ rfl (.vsl _ _ _ _ rfl (fun _ _ _ _=>bK)),Flat.i rfl,Flat.i e5,trivial⟩ trivial rfl rfl
   · conv=>whnf
     repeat (refine⟨⟨[],rfl⟩,?_⟩;conv=>whnf)
     exact⟨rfl,.bool _⟩
theorem S_points {m:Mem} {x:AV} {K:AV->Mem->Prop} {n:Nat} {P:Nat->Pt Fp} (hx:bZ m x 9 n (ptsG P)) (oP:∀ i,i<n->On (P i)) (hn:n<=140737488355328) (h:K (.bool true) m):ACall Pg lC [x] m K:=by
 obtain⟨cap,hl⟩:=hx
 refine aD (S_points0 n cap P oP hn) (.cons _ _ _ _ hl .nil) ?_
 rintro v rfl
 exact h
noncomputable def polyP (P:Nat->Pt Fp) (x:Nat):Nat->Pt Fp:=Nat.rec (motive:=fun _=>Pt Fp) .inf (fun k ih=>padd ih (nmul (x ^ k) (P k)))
theorem polyP_0 {P:Nat->Pt Fp} {x:Nat}:polyP P x 0= .inf:=rfl
theorem wN {P:Nat->Pt Fp} {x k:Nat}:polyP P x (k+1)=padd (polyP P x k) (nmul (x ^ k) (P k)):=rfl
theorem On.polyP {P:Nat->Pt Fp} {x n:Nat} (oP:∀ i,i<n->On (P i)):On (polyP P x n):=by
 induction n with
 | zero=>trivial
 | succ n ih=>exact (ih fun i hi=>oP i (by omega)).add crvP ((oP n (by omega)).nmul crvP _)
def z9:List AV:= [.bool false,.int .u64 0,.int .u64 0,.int .u64 0,.int .u64 0,.int .u64 0,.int .u64 0,.int .u64 0,.int .u64 0]
theorem flat_z9 {nv:Bool} {i:Nat}:Flat nv (z9.getD i .un):=by
 unfold z9
 match i with
 | 0=>exact .bool _
 | 1=>exact .int _ _
 | 2=>exact .int _ _
 | 3=>exact .int _ _
 | 4=>exact .int _ _
 | 5=>exact .int _ _
 | 6=>exact .int _ _
 | 7=>exact .int _ _
 | 8=>exact .int _ _
 | i+9=>simp;exact .un
theorem rv_one {nv:Bool} {σ:Nat->Option Nat} {l:List AV} {es i j:Nat} (hi:i<1) (hf:Flat nv (l.getD j .un)):RV nv σ (l.getD j .un) (lstG es l i j):=by
 obtain rfl:i=0:=by omega
 refine .eq _ _ ?_ hf
 show _=l.getD (0*es+j) .un
 rw [Nat.zero_mul,Nat.zero_add]
theorem lI {nv:Bool} {n i j:Nat}:Flat nv (lstG 1 (numL n) i j):=aJ
theorem flat_ptG9 {nv:Bool} {P:Pt Fp} {i j:Nat}:Flat nv (lstG 9 (rawL (isI P) (xN P) (yN P)) i j):=uQ
theorem S_At0 (n cap:Nat) (P:Nat->Pt Fp) (x:Nat) (hx:x<w256) (oP:∀ i,i<n->On (P i)) (hn:n<=64):ACall Pg vF [.vsl 9 n cap (ptsG P),numA x] [] (fun v _=>v= .tup [ptA (polyP P x n),.int .i64 0] /\ Flat true v):=by
 refine B_feld_At ⟨rfl,?_⟩
 conv=>whnf
 repeat (refine⟨⟨[],rfl⟩,?_⟩;conv=>whnf)
 refine aE (fun h=> ?_) (fun h=> ?_)
 · exfalso;simp at h;omega
 conv=>whnf
 repeat (refine⟨⟨[],rfl⟩,?_⟩;conv=>whnf)
 refine S_points (P:=P) (bZ.vsl fun _ _ _ _=>bK) oP (by omega) ?_
 conv=>whnf
 repeat (refine⟨⟨[],rfl⟩,?_⟩;conv=>whnf)
 refine aR aH (I:=fun q l m=>∃ (k:Nat) (O:Pt Fp) (w:Nat),l= [(3,.ptr 0 0 0),(4,.ptr 1 0 0),(6,.ptr 2 0 0),(7,.ptr 3 0 0),(22,.vsl 9 n cap (ptsG P)),(23,.int .i64 n),(24,.int .i64 k)] /\
  m= [some ⟨1,4,lstG 1 (numL x)⟩,some ⟨9,1,lstG 9 z9⟩,some ⟨9,1,lstG 9 (rawL (isI O) (xN O) (yN O))⟩,some ⟨1,4,lstG 1 (numL w)⟩] /\ q+k=n/\O=polyP P x k/\w=x ^ k % nN) n
  (l0:= [(3,.ptr 0 0 0),(4,.ptr 1 0 0),(6,.ptr 2 0 0),(7,.ptr 3 0 0),(22,.vsl 9 n cap (ptsG P)),(23,.int .i64 n),(24,.int .i64 (0:Nat))])
  (m0:= [some ⟨1,4,lstG 1 (numL x)⟩,some ⟨9,1,lstG 9 z9⟩,some ⟨9,1,lstG 9 (rawL true 0 0)⟩,some ⟨1,4,lstG 1 (numL 1)⟩]) [some 0,some 1,some 2,some 3] ⟨0,.inf,1,rfl,rfl,rfl,rfl,by rw [Nat.pow_zero,Nat.mod_eq_of_lt (by decide)]⟩ ?_ ?_
 · refine .mk0 ⟨.ptr _ _ _ _ rfl,.ptr _ _ _ _ rfl,.ptr _ _ _ _ rfl,.ptr _ _ _ _ rfl,.eq _ _ rfl (.vsl _ _ _ _ rfl (fun _ _ _ _=>bK)),Flat.i rfl,Flat.i rfl,trivial⟩ ⟨.old 0 0 _ _ rfl rfl ⟨rfl,Nat.le_refl _,fun i j hi hj=> .eq _ _ rfl aJ⟩,
    .old 1 1 _ _ rfl rfl ⟨rfl,Nat.le_refl _,fun i j hi hj=>rv_one (l:=z9) hi flat_z9⟩,.old 2 2 _ _ rfl rfl ⟨rfl,Nat.le_refl _,fun i j hi hj=> ?_⟩,.old 3 3 _ _ rfl rfl ⟨rfl,Nat.le_refl _,fun i j hi hj=> ?_⟩,trivial⟩ rfl rfl
   · have hj:j<9:=hj
     have hi:i<1:=hi
     obtain rfl:i=0:=by omega
     have:j=0\/j=1\/j=2\/j=3\/j=4\/j=5\/j=6\/j=7\/j=8:=by omega
     rcases this with rfl | rfl | rfl | rfl | rfl | rfl | rfl | rfl | rfl
     · exact .eq _ _ rfl (.bool _)
     all_goals exact .eq _ _ rfl (.int _ _)
   · have hj:j<1:=hj
     have hi:i<4:=hi
     obtain rfl:j=0:=by omega
     have:i=0\/i=1\/i=2\/i=3:=by omega
     rcases this with rfl | rfl | rfl | rfl <;> exact .eq _ _ rfl (.int _ _)
 · rintro q l m ⟨k,O,w,rfl,rfl,hq,hO,hw⟩
   have hw1:w<w256:=by rw [hw];exact Nat.lt_trans (Nat.mod_lt _ (by decide)) (by decide)
   conv=>whnf
   repeat (refine⟨⟨[],rfl⟩,?_⟩;conv=>whnf)
   refine aE (fun hb=> ?_) (fun hb=> ?_)
   · have hb:k<n:=by simp at hb;omega
     have oO:On O:=by rw [hO];exact On.polyP fun i hi=>oP i (by omega)
     conv=>whnf
     repeat (refine⟨⟨[],rfl⟩,?_⟩;conv=>whnf)
     refine aA (by simp;omega) ?_
     conv=>whnf
     repeat (refine⟨⟨[],rfl⟩,?_⟩;conv=>whnf)
     refine T_Two (n:=1) (k:=w) (P:=O) (Q:=P k) (by decide) hw1 oO (oP k hb) (fun R oR hR=> ?_)
     have hR:R=polyP P x (k+1):=by rw [hR,nmul_one',hw,mR (oP k hb),wN,hO]
     conv=>whnf
     repeat (refine⟨⟨[],rfl⟩,?_⟩;conv=>whnf)
     refine S_FMul_1 hw1 hx (fun v hv=> ?_)
     have hv:v=x ^ (k+1) % nN:=by rw [hv,hw,Nat.mod_mul_mod,Nat.pow_succ]
     conv=>whnf
     repeat (refine⟨⟨[],rfl⟩,?_⟩;conv=>whnf)
     have e5:IntKind.i64.wrap ((k:Int)+1)=((k+1:Nat):Int):=by rw [w64 (by omega) (by omega)];omega
     refine⟨q - 1,_,_,[some 0,some 1,some 2,some 3],by omega,⟨k+1,R,v,rfl,rfl,by omega,hR,hv⟩,?_⟩
     refine .mk0 ⟨.ptr _ _ _ _ rfl,.ptr _ _ _ _ rfl,.ptr _ _ _ _ rfl,.ptr _ _ _ _ rfl,.eq _ _ rfl (.vsl _ _ _ _ rfl (fun _ _ _ _=>bK)),Flat.i rfl,Flat.i e5,trivial⟩ ⟨.old 0 0 _ _ rfl rfl ⟨rfl,Nat.le_refl _,fun i j hi hj=> .eq _ _ rfl lI⟩,
      .old 1 1 _ _ rfl rfl ⟨rfl,Nat.le_refl _,fun i j hi hj=> .eq _ _ rfl flat_z9⟩,.old 2 2 _ _ rfl rfl ⟨rfl,Nat.le_refl _,fun i j hi hj=> .eq _ _ rfl flat_ptG9⟩,.old 3 3 _ _ rfl rfl ⟨rfl,Nat.le_refl _,fun i j hi hj=> .eq _ _ rfl lI⟩,trivial⟩ rfl rfl
   · have hb:k=n:=by simp at hb;omega
     subst hb
     conv=>whnf
     repeat (refine⟨⟨[],rfl⟩,?_⟩;conv=>whnf)
     rw [<- hO]
     exact⟨rfl,.tup _ (.cons _ _ aW (.cons _ _ (.int _ _) .nil))⟩
end Go.Proofs.YtfolpdmbpbbimaaGreat
end

section
namespace Go.Proofs.YtfolpdmbpbbimaaGreat
open Go Go.Wit
end Go.Proofs.YtfolpdmbpbbimaaGreat
end

section
namespace Go.Proofs.YtfolpdmbpbbimaaGreat
open Go Go.Wit
end Go.Proofs.YtfolpdmbpbbimaaGreat
end

section
namespace Go.Proofs.YtfolpdmbpbbimaaGreat
open Go Go.Wit
end Go.Proofs.YtfolpdmbpbbimaaGreat
end

section
namespace Go.Proofs.YtfolpdmbpbbimaaGreat
open Go Go.Wit
theorem rowAtE {s:Nat->Int} {g:Nat->Nat->AV} {i p:Nat} {A:AV} (hi:i<32) (hp:p=i) (hA:A=updG ⟨1,32,g⟩ 0 0 32 ((List.range 32).map fun i=> .int .u8 (s i)) p 0):A= .int .u8 (s i):=by
 subst hp hA
 rw [mO (by omega) hi,List.getD_eq_getElem?_getD,List.getElem?_map,List.getElem?_range hi]
 rfl
theorem xorW {nv:Bool} {σ:Nat->Option Nat} {P:Nat->Int} {c:Int} {k i j N p:Nat} {x y:Int} {A:AV} (hj:j<1) (hx:x=eE .xor .u8 y c) (hy:y=P k) (hp:p=k) (hA:A=updG ⟨1,N,aB (fun i=>if i<k then xorB (P i) c else 0)⟩ p 0 1 [.int .u8 x] i j):
 RV nv σ A (aB (fun i=>if i<k+1 then xorB (P i) c else 0) i j):=by
 subst hp
 exact updB (a:=fun i=>xorB (P i) c) (z:=fun _=>0) hj (by rw [hx,hy];rfl) hA
theorem zeroW {nv:Bool} {σ:Nat->Option Nat} {P:Nat->Int} {c:Int} {i j:Nat} {A:AV} (hj:j<1) (hA:A= [AV.int IntKind.u8 0].getD j AV.un):RV nv σ A (aB (fun i=>if i<0 then xorB (P i) c else 0) i j):=by
 obtain rfl:j=0:=by omega
 exact zeroB (j:=0) (a:=fun i=>xorB (P i) c) (z:=fun _=>0) (hA.trans rfl)
set_option maxHeartbeats 1000000 in
theorem S_RMac0 (n c1:Nat) (f:Nat->Int) (k c2:Nat) (g:Nat->Int) (hn:n<=900000) (hk:k<=900000) (hf:∀ i,i<n->0<=f i/\f i<=255) (hg:∀ i,i<k->0<=g i/\g i<=255):
 ACall Pg jG [.vsl 1 n c1 (aB f),.vsl 1 k c2 (aB g)] [] (fun v _=>v= .agg (rowL (macB n f k g))/\Flat true v):=by
 have hP:∀ i,64<n->keyP n f i=if i<32 then sumB n f i else 0:=fun i h=>by simp only [keyP,keyN,keyG,if_pos h]
 have hP':∀ i,¬ 64<n->keyP n f i=if i<n then f i else 0:=fun i h=>by simp only [keyP,keyN,keyG,if_neg h]
 have hM:macB n f k g=sumB 96 (outF (keyP n f) (sumB (64+k) (inF (keyP n f) g))):=rfl
 generalize keyP n f=P at*
 generalize hM2:macB n f k g=M at*
 refine zS ⟨rfl,?_⟩
 conv=>whnf
 repeat (refine⟨⟨_,rfl⟩,?_⟩;conv=>whnf)
 refine aE (fun hc=> ?_) (fun hc=> ?_)
 · have hc:64<n:=by simp at hc;omega
   have hPs:∀ i,i<32->P i=sumB n f i:=fun i h=>by rw [hP i hc,if_pos h]
   have hP0:∀ i,¬ i<32->P i=0:=fun i h=>by rw [hP i hc,if_neg h]
   conv=>whnf
   repeat (refine⟨⟨_,rfl⟩,?_⟩;conv=>whnf)
   refine mC (f:=f) bA.vsl (by omega) hf (fun s hs hsb=> ?_)
   rw [<- hs]at hPs
   rw [rowL]
   conv=>whnf
   repeat (refine⟨⟨_,rfl⟩,?_⟩;conv=>whnf)
   obtain⟨cap0,hcap0⟩ :∃ c:Nat,c=32:=⟨_,rfl⟩
   refine aR aH (I:=fun q l m=>∃ (j:Nat),l= [(0,.sl 3 0 32 32),(1,.vsl 1 k c2 (aB g)),(4,.ptr 0 0 0),(5,.ptr 1 0 0),(6,.ptr 2 0 0),(8,.int .i64 j)] /\ m= [some ⟨1,32,fun _ _=> .int .u8 0⟩,some ⟨1,64,aB (fun i=>if i<j then xorB (P i) 54 else 0)⟩,some ⟨1,64,aB (fun i=>if i<j then xorB (P i) 92 else 0)⟩,some ⟨1,32,aB s⟩] /\ q+j=64) 64
    (l0:= [(0,.sl 3 0 32 32),(1,.vsl 1 k c2 (aB g)),(4,.ptr 0 0 0),(5,.ptr 1 0 0),(6,.ptr 2 0 0),(8,.int .i64 (0:Nat))]) (m0:= [some ⟨1,32,fun _ _=> .int .u8 0⟩,some ⟨1,64,aB (fun i=>if i<0 then xorB (P i) 54 else 0)⟩,some ⟨1,64,aB (fun i=>if i<0 then xorB (P i) 92 else 0)⟩,some ⟨1,32,aB s⟩]) [some 0,some 1,some 2,some 3] ⟨0,rfl,rfl,rfl⟩ ?_ ?_
   · exact .mk0 ⟨.sl _ _ _ _ _ rfl,.eq _ _ rfl (.vsl _ _ _ _ rfl (fun _ _ _ _=> .int _ _)),.ptr _ _ _ _ rfl,.ptr _ _ _ _ rfl,.ptr _ _ _ _ rfl,Flat.i rfl,trivial⟩ ⟨.old 0 0 _ _ rfl rfl ⟨rfl,Nat.le_refl _,fun i j hi hj=>oneU0 hj rfl⟩,.old 1 1 _ _ rfl rfl ⟨rfl,Nat.le_refl _,fun i j hi hj=>zeroW hj rfl⟩,.old 2 2 _ _ rfl rfl ⟨rfl,Nat.le_refl _,fun i j hi hj=>zeroW hj rfl⟩,.old 3 3 _ _ rfl rfl ⟨rfl,Nat.le_refl _,fun i j hi hj=>sumBlk hi hj rfl⟩,trivial⟩ rfl rfl
   · rintro q l m ⟨j,rfl,rfl,hq⟩
     conv=>whnf
     repeat (refine⟨⟨_,rfl⟩,?_⟩;conv=>whnf)
     refine aE (fun hb=> ?_) (fun hb=> ?_)
     · have hb:j<64:=by simp at hb;omega
       conv=>whnf
       repeat (refine⟨⟨_,rfl⟩,?_⟩;conv=>whnf)
       refine aE (fun hb2=> ?_) (fun hb2=> ?_)
       · have hb2:j<32:=by simp at hb2;omega
         conv=>whnf
         repeat (refine⟨⟨_,rfl⟩,?_⟩;conv=>whnf)
         refine aA (by simp;omega) ?_
         conv=>whnf
         repeat (refine⟨⟨_,rfl⟩,?_⟩;conv=>whnf)
         refine aA (by simp [bI,Nat.ble_eq];omega) ?_
         conv=>whnf
         repeat (refine⟨⟨_,rfl⟩,?_⟩;conv=>whnf)
         refine aA (by simp;omega) ?_
         conv=>whnf
         repeat (refine⟨⟨_,rfl⟩,?_⟩;conv=>whnf)
         refine aA (by simp [bI,Nat.ble_eq];omega) ?_
         conv=>whnf
         repeat (refine⟨⟨_,rfl⟩,?_⟩;conv=>whnf)
         refine aA (by simp;omega) ?_
         conv=>whnf
         repeat (refine⟨⟨_,rfl⟩,?_⟩;conv=>whnf)
         refine aA (by simp [bI,Nat.ble_eq];omega) ?_
         conv=>whnf
         repeat (refine⟨⟨_,rfl⟩,?_⟩;conv=>whnf)
         have e5:IntKind.i64.wrap ((j:Int)+1)=((j+1:Nat):Int):=by rw [w64 (by omega) (by omega)];omega
         refine⟨q - 1,[(0,.sl 3 0 32 32),(1,.vsl 1 k c2 (aB g)),(4,.ptr 0 0 0),(5,.ptr 1 0 0),(6,.ptr 2 0 0),(8,.int .i64 ((j+1:Nat):Int))],[some ⟨1,32,fun _ _=> .int .u8 0⟩,some ⟨1,64,aB (fun i=>if i<j+1 then xorB (P i) 54 else 0)⟩,some ⟨1,64,aB (fun i=>if i<j+1 then xorB (P i) 92 else 0)⟩,some ⟨1,32,aB s⟩],[some 0,some 1,some 2,some 3],by omega,⟨j+1,rfl,rfl,by omega⟩,?_⟩
         exact .mk0 ⟨.sl _ _ _ _ _ rfl,.eq _ _ rfl (.vsl _ _ _ _ rfl (fun _ _ _ _=> .int _ _)),.ptr _ _ _ _ rfl,.ptr _ _ _ _ rfl,.ptr _ _ _ _ rfl,Flat.i e5,trivial⟩ ⟨.old 0 0 _ _ rfl rfl ⟨rfl,Nat.le_refl _,fun i j hi hj=> .eq _ _ rfl (.int _ _)⟩,.old 1 1 _ _ rfl rfl ⟨rfl,Nat.le_refl _,fun a b ha hb=>xorW hb rfl (by rw [Nat.zero_add];exact(hPs j hb2).symm) (Nat.zero_add _) rfl⟩,.old 2 2 _ _ rfl rfl ⟨rfl,Nat.le_refl _,fun a b ha hb=>xorW hb rfl (by rw [Nat.zero_add];exact(hPs j hb2).symm) (Nat.zero_add _) rfl⟩,.old 3 3 _ _ rfl rfl ⟨rfl,Nat.le_refl _,fun i j hi hj=> .eq _ _ rfl (.int _ _)⟩,trivial⟩ rfl rfl
       · have hb2:¬ j<32:=by simp at hb2;omega
         conv=>whnf
         repeat (refine⟨⟨_,rfl⟩,?_⟩;conv=>whnf)
         refine aA (by simp;omega) ?_
         conv=>whnf
         repeat (refine⟨⟨_,rfl⟩,?_⟩;conv=>whnf)
         refine aA (by simp [bI,Nat.ble_eq];omega) ?_
         conv=>whnf
         repeat (refine⟨⟨_,rfl⟩,?_⟩;conv=>whnf)
         refine aA (by simp;omega) ?_
         conv=>whnf
         repeat (refine⟨⟨_,rfl⟩,?_⟩;conv=>whnf)
         refine aA (by simp [bI,Nat.ble_eq];omega) ?_
         conv=>whnf
         repeat (refine⟨⟨_,rfl⟩,?_⟩;conv=>whnf)
         have e5:IntKind.i64.wrap ((j:Int)+1)=((j+1:Nat):Int):=by rw [w64 (by omega) (by omega)];omega
         refine⟨q - 1,[(0,.sl 3 0 32 32),(1,.vsl 1 k c2 (aB g)),(4,.ptr 0 0 0),(5,.ptr 1 0 0),(6,.ptr 2 0 0),(8,.int .i64 ((j+1:Nat):Int))],[some ⟨1,32,fun _ _=> .int .u8 0⟩,some ⟨1,64,aB (fun i=>if i<j+1 then xorB (P i) 54 else 0)⟩,some ⟨1,64,aB (fun i=>if i<j+1 then xorB (P i) 92 else 0)⟩,some ⟨1,32,aB s⟩],[some 0,some 1,some 2,some 3],by omega,⟨j+1,rfl,rfl,by omega⟩,?_⟩
         exact .mk0 ⟨.sl _ _ _ _ _ rfl,.eq _ _ rfl (.vsl _ _ _ _ rfl (fun _ _ _ _=> .int _ _)),.ptr _ _ _ _ rfl,.ptr _ _ _ _ rfl,.ptr _ _ _ _ rfl,Flat.i e5,trivial⟩ ⟨.old 0 0 _ _ rfl rfl ⟨rfl,Nat.le_refl _,fun i j hi hj=> .eq _ _ rfl (.int _ _)⟩,.old 1 1 _ _ rfl rfl ⟨rfl,Nat.le_refl _,fun a b ha hb=>xorW hb rfl (hP0 j hb2).symm (Nat.zero_add _) rfl⟩,.old 2 2 _ _ rfl rfl ⟨rfl,Nat.le_refl _,fun a b ha hb=>xorW hb rfl (hP0 j hb2).symm (Nat.zero_add _) rfl⟩,.old 3 3 _ _ rfl rfl ⟨rfl,Nat.le_refl _,fun i j hi hj=> .eq _ _ rfl (.int _ _)⟩,trivial⟩ rfl rfl
     · have hb:j=64:=by simp at hb;omega
       subst hb
       conv=>whnf
       repeat (refine⟨⟨_,rfl⟩,?_⟩;conv=>whnf)
       refine tA (n:=64) (k:=k) (f:=fun i=>if i<64 then xorB (P i) 54 else 0) (g:=g) (iA.sl rfl (Nat.le_refl 2) (fun i hi=> ?_)) (by decide) (by omega) (fun cap2 h0 hh0=> ?_)
       · have:i=0\/i=1:=by omega
         rcases this with rfl | rfl
         · exact bA.sl rfl (Nat.le_refl _) fun i hi=>by rw [Nat.zero_add];rfl
         · exact bA.vsl
       conv=>whnf
       repeat (refine⟨⟨_,rfl⟩,?_⟩;conv=>whnf)
       refine mC (n:=64+k) (f:=inF P g) (bA.sl rfl (Nat.le_of_eq (Nat.zero_add _)) fun i hi=> ?_) (by omega) (fun i hi=> ?_) (fun s1 hs1 hsb1=> ?_)
       · rw [Nat.zero_add,hh0];unfold inF catB
         by_cases h:i<64
         · rw [if_pos h,if_pos h];exact(if_pos h).symm
         · rw [if_neg h,if_neg h]
       · unfold inF;split
         · exact jJ _ _
         · exact hg _ (by omega)
       rw [rowL]
       conv=>whnf
       repeat (refine⟨⟨_,rfl⟩,?_⟩;conv=>whnf)
       refine tA (n:=64) (k:=32) (f:=fun i=>if i<64 then xorB (P i) 92 else 0) (g:=s1) (iA.sl rfl (Nat.le_refl 2) (fun i hi=> ?_)) (by decide) (by decide) (fun cap3 h1 hh1=> ?_)
       · have:i=0\/i=1:=by omega
         rcases this with rfl | rfl
         · exact bA.sl rfl (Nat.le_refl _) fun i hi=>by rw [Nat.zero_add];rfl
         · exact bA.any rfl (Nat.le_refl _) fun i hi=>rowAtE hi (by omega) rfl
       conv=>whnf
       repeat (refine⟨⟨_,rfl⟩,?_⟩;conv=>whnf)
       refine mC (n:=96) (f:=outF P s1) (bA.sl rfl (Nat.le_of_eq (Nat.zero_add _)) fun i hi=> ?_) (by decide) (fun i hi=> ?_) (fun s2 hs2 hsb2=> ?_)
       · rw [Nat.zero_add,hh1];unfold outF catB
         by_cases h:i<64
         · rw [if_pos h,if_pos h];exact(if_pos h).symm
         · rw [if_neg h,if_neg h]
       · unfold outF;split
         · exact jJ _ _
         · exact hsb1 _
       rw [rowL]
       conv=>whnf
       repeat (refine⟨⟨_,rfl⟩,?_⟩;conv=>whnf)
       have e9:s2=M:=by rw [hs2,hM,hs1]
       subst e9
       exact pJ rfl
 · have hc:¬ 64<n:=by simp at hc;omega
   have hPs:∀ i,i<n->P i=f i:=fun i h=>by rw [hP' i hc,if_pos h]
   have hP0:∀ i,¬ i<n->P i=0:=fun i h=>by rw [hP' i hc,if_neg h]
   conv=>whnf
   repeat (refine⟨⟨_,rfl⟩,?_⟩;conv=>whnf)
   refine aR aH (I:=fun q l m=>∃ (j:Nat),l= [(0,.vsl 1 n c1 (aB f)),(1,.vsl 1 k c2 (aB g)),(4,.ptr 0 0 0),(5,.ptr 1 0 0),(6,.ptr 2 0 0),(8,.int .i64 j)] /\ m= [some ⟨1,32,fun _ _=> .int .u8 0⟩,some ⟨1,64,aB (fun i=>if i<j then xorB (P i) 54 else 0)⟩,some ⟨1,64,aB (fun i=>if i<j then xorB (P i) 92 else 0)⟩] /\ q+j=64) 64
    (l0:= [(0,.vsl 1 n c1 (aB f)),(1,.vsl 1 k c2 (aB g)),(4,.ptr 0 0 0),(5,.ptr 1 0 0),(6,.ptr 2 0 0),(8,.int .i64 (0:Nat))]) (m0:= [some ⟨1,32,fun _ _=> .int .u8 0⟩,some ⟨1,64,aB (fun i=>if i<0 then xorB (P i) 54 else 0)⟩,some ⟨1,64,aB (fun i=>if i<0 then xorB (P i) 92 else 0)⟩]) [some 0,some 1,some 2] ⟨0,rfl,rfl,rfl⟩ ?_ ?_
   · exact .mk0 ⟨.eq _ _ rfl (.vsl _ _ _ _ rfl (fun _ _ _ _=> .int _ _)),.eq _ _ rfl (.vsl _ _ _ _ rfl (fun _ _ _ _=> .int _ _)),.ptr _ _ _ _ rfl,.ptr _ _ _ _ rfl,.ptr _ _ _ _ rfl,Flat.i rfl,trivial⟩ ⟨.old 0 0 _ _ rfl rfl ⟨rfl,Nat.le_refl _,fun i j hi hj=>oneU0 hj rfl⟩,.old 1 1 _ _ rfl rfl ⟨rfl,Nat.le_refl _,fun i j hi hj=>zeroW hj rfl⟩,.old 2 2 _ _ rfl rfl ⟨rfl,Nat.le_refl _,fun i j hi hj=>zeroW hj rfl⟩,trivial⟩ rfl rfl
   · rintro q l m ⟨j,rfl,rfl,hq⟩
     conv=>whnf
     repeat (refine⟨⟨_,rfl⟩,?_⟩;conv=>whnf)
     refine aE (fun hb=> ?_) (fun hb=> ?_)
     · have hb:j<64:=by simp at hb;omega
       conv=>whnf
       repeat (refine⟨⟨_,rfl⟩,?_⟩;conv=>whnf)
       refine aE (fun hb2=> ?_) (fun hb2=> ?_)
       · have hb2:j<n:=by simp at hb2;omega
         conv=>whnf
         repeat (refine⟨⟨_,rfl⟩,?_⟩;conv=>whnf)
         refine aA (by simp;omega) ?_
         conv=>whnf
         repeat (refine⟨⟨_,rfl⟩,?_⟩;conv=>whnf)
         refine aA (by simp;omega) ?_
         conv=>whnf
         repeat (refine⟨⟨_,rfl⟩,?_⟩;conv=>whnf)
         refine aA (by simp [bI,Nat.ble_eq];omega) ?_
         conv=>whnf
         repeat (refine⟨⟨_,rfl⟩,?_⟩;conv=>whnf)
         refine aA (by simp;omega) ?_
         conv=>whnf
         repeat (refine⟨⟨_,rfl⟩,?_⟩;conv=>whnf)
         refine aA (by simp [bI,Nat.ble_eq];omega) ?_
         conv=>whnf
         repeat (refine⟨⟨_,rfl⟩,?_⟩;conv=>whnf)
         have e5:IntKind.i64.wrap ((j:Int)+1)=((j+1:Nat):Int):=by rw [w64 (by omega) (by omega)];omega
         refine⟨q - 1,[(0,.vsl 1 n c1 (aB f)),(1,.vsl 1 k c2 (aB g)),(4,.ptr 0 0 0),(5,.ptr 1 0 0),(6,.ptr 2 0 0),(8,.int .i64 ((j+1:Nat):Int))],[some ⟨1,32,fun _ _=> .int .u8 0⟩,some ⟨1,64,aB (fun i=>if i<j+1 then xorB (P i) 54 else 0)⟩,some ⟨1,64,aB (fun i=>if i<j+1 then xorB (P i) 92 else 0)⟩],[some 0,some 1,some 2],by omega,⟨j+1,rfl,rfl,by omega⟩,?_⟩
         exact .mk0 ⟨.eq _ _ rfl (.vsl _ _ _ _ rfl (fun _ _ _ _=> .int _ _)),.eq _ _ rfl (.vsl _ _ _ _ rfl (fun _ _ _ _=> .int _ _)),.ptr _ _ _ _ rfl,.ptr _ _ _ _ rfl,.ptr _ _ _ _ rfl,Flat.i e5,trivial⟩ ⟨.old 0 0 _ _ rfl rfl ⟨rfl,Nat.le_refl _,fun i j hi hj=> .eq _ _ rfl (.int _ _)⟩,.old 1 1 _ _ rfl rfl ⟨rfl,Nat.le_refl _,fun a b ha hb=>xorW hb rfl (hPs j hb2).symm (Nat.zero_add _) rfl⟩,.old 2 2 _ _ rfl rfl ⟨rfl,Nat.le_refl _,fun a b ha hb=>xorW hb rfl (hPs j hb2).symm (Nat.zero_add _) rfl⟩,trivial⟩ rfl rfl
       · have hb2:¬ j<n:=by simp at hb2;omega
         conv=>whnf
         repeat (refine⟨⟨_,rfl⟩,?_⟩;conv=>whnf)
         refine aA (by simp;omega) ?_
         conv=>whnf
         repeat (refine⟨⟨_,rfl⟩,?_⟩;conv=>whnf)
         refine aA (by simp [bI,Nat.ble_eq];omega) ?_
         conv=>whnf
         repeat (refine⟨⟨_,rfl⟩,?_⟩;conv=>whnf)
         refine aA (by simp;omega) ?_
         conv=>whnf
         repeat (refine⟨⟨_,rfl⟩,?_⟩;conv=>whnf)
         refine aA (by simp [bI,Nat.ble_eq];omega) ?_
         conv=>whnf
         repeat (refine⟨⟨_,rfl⟩,?_⟩;conv=>whnf)
         have e5:IntKind.i64.wrap ((j:Int)+1)=((j+1:Nat):Int):=by rw [w64 (by omega) (by omega)];omega
         refine⟨q - 1,[(0,.vsl 1 n c1 (aB f)),(1,.vsl 1 k c2 (aB g)),(4,.ptr 0 0 0),(5,.ptr 1 0 0),(6,.ptr 2 0 0),(8,.int .i64 ((j+1:Nat):Int))],[some ⟨1,32,fun _ _=> .int .u8 0⟩,some ⟨1,64,aB (fun i=>if i<j+1 then xorB (P i) 54 else 0)⟩,some ⟨1,64,aB (fun i=>if i<j+1 then xorB (P i) 92 else 0)⟩],[some 0,some 1,some 2],by omega,⟨j+1,rfl,rfl,by omega⟩,?_⟩
         exact .mk0 ⟨.eq _ _ rfl (.vsl _ _ _ _ rfl (fun _ _ _ _=> .int _ _)),.eq _ _ rfl (.vsl _ _ _ _ rfl (fun _ _ _ _=> .int _ _)),.ptr _ _ _ _ rfl,.ptr _ _ _ _ rfl,.ptr _ _ _ _ rfl,Flat.i e5,trivial⟩ ⟨.old 0 0 _ _ rfl rfl ⟨rfl,Nat.le_refl _,fun i j hi hj=> .eq _ _ rfl (.int _ _)⟩,.old 1 1 _ _ rfl rfl ⟨rfl,Nat.le_refl _,fun a b ha hb=>xorW hb rfl (hP0 j hb2).symm (Nat.zero_add _) rfl⟩,.old 2 2 _ _ rfl rfl ⟨rfl,Nat.le_refl _,fun a b ha hb=>xorW hb rfl (hP0 j hb2).symm (Nat.zero_add _) rfl⟩,trivial⟩ rfl rfl
     · have hb:j=64:=by simp at hb;omega
       subst hb
       conv=>whnf
       repeat (refine⟨⟨_,rfl⟩,?_⟩;conv=>whnf)
       refine tA (n:=64) (k:=k) (f:=fun i=>if i<64 then xorB (P i) 54 else 0) (g:=g) (iA.sl rfl (Nat.le_refl 2) (fun i hi=> ?_)) (by decide) (by omega) (fun cap2 h0 hh0=> ?_)
       · have:i=0\/i=1:=by omega
         rcases this with rfl | rfl
         · exact bA.sl rfl (Nat.le_refl _) fun i hi=>by rw [Nat.zero_add];rfl
         · exact bA.vsl
       conv=>whnf
       repeat (refine⟨⟨_,rfl⟩,?_⟩;conv=>whnf)
       refine mC (n:=64+k) (f:=inF P g) (bA.sl rfl (Nat.le_of_eq (Nat.zero_add _)) fun i hi=> ?_) (by omega) (fun i hi=> ?_) (fun s1 hs1 hsb1=> ?_)
       · rw [Nat.zero_add,hh0];unfold inF catB
         by_cases h:i<64
         · rw [if_pos h,if_pos h];exact(if_pos h).symm
         · rw [if_neg h,if_neg h]
       · unfold inF;split
         · exact jJ _ _
         · exact hg _ (by omega)
       rw [rowL]
       conv=>whnf
       repeat (refine⟨⟨_,rfl⟩,?_⟩;conv=>whnf)
       refine tA (n:=64) (k:=32) (f:=fun i=>if i<64 then xorB (P i) 92 else 0) (g:=s1) (iA.sl rfl (Nat.le_refl 2) (fun i hi=> ?_)) (by decide) (by decide) (fun cap3 h1 hh1=> ?_)
       · have:i=0\/i=1:=by omega
         rcases this with rfl | rfl
         · exact bA.sl rfl (Nat.le_refl _) fun i hi=>by rw [Nat.zero_add];rfl
         · exact bA.any rfl (Nat.le_refl _) fun i hi=>rowAtE hi (by omega) rfl
       conv=>whnf
       repeat (refine⟨⟨_,rfl⟩,?_⟩;conv=>whnf)
       refine mC (n:=96) (f:=outF P s1) (bA.sl rfl (Nat.le_of_eq (Nat.zero_add _)) fun i hi=> ?_) (by decide) (fun i hi=> ?_) (fun s2 hs2 hsb2=> ?_)
       · rw [Nat.zero_add,hh1];unfold outF catB
         by_cases h:i<64
         · rw [if_pos h,if_pos h];exact(if_pos h).symm
         · rw [if_neg h,if_neg h]
       · unfold outF;split
         · exact jJ _ _
         · exact hsb1 _
       rw [rowL]
       conv=>whnf
       repeat (refine⟨⟨_,rfl⟩,?_⟩;conv=>whnf)
       have e9:s2=M:=by rw [hs2,hM,hs1]
       subst e9
       exact pJ rfl
theorem S_RMac {m:Mem} {x y:AV} {n k:Nat} {f g:Nat->Int} {K:AV->Mem->Prop} (hx:bA m x n f) (hy:bA m y k g) (hn:n<=900000) (hk:k<=900000) (hf:∀ i,i<n->0<=f i/\f i<=255) (hg:∀ i,i<k->0<=g i/\g i<=255)
 (h:∀ s,s=macB n f k g->(∀ i,0<=s i/\s i<=255)->K (.agg (rowL s)) m):ACall Pg jG [x,y] m K:=by
 obtain⟨c1,h1⟩:=hx
 obtain⟨c2,h2⟩:=hy
 refine aD (S_RMac0 n c1 f k c2 g hn hk hf hg) (.cons _ _ _ _ h1 (.cons _ _ _ _ h2 .nil)) ?_
 rintro v rfl
 exact h _ rfl (sumB_lt _ _)
end Go.Proofs.YtfolpdmbpbbimaaGreat
end

section
namespace Go.Proofs.YtfolpdmbpbbimaaGreat
open Go Go.Wit
noncomputable def tryP (n:Nat) (f:Nat->Int) (c:Nat):Except Int (Pt Fp):=rd 33 (catB 1 (fun _=>2) (sumB (n+4) (catB n f (beF c 4))))
def PtRes (n:Nat) (f:Nat->Int) (v:AV):Prop:=
 (∃ c P,c<256/\(∀ d,d<c->∃ e,tryP n f d= .error e)/\tryP n f c= .ok P/\On P/\v= .tup [ptA P,.int .i64 ((c+1:Nat):Int),.int .i64 0])\/
 ((∀ d,d<256->∃ e,tryP n f d= .error e)/\v= .tup [noPt,.int .i64 0,.int .i64 5])
theorem PtRes.same {n:Nat} {f:Nat->Int} {v w:AV} (h1:PtRes n f v) (h2:PtRes n f w):v=w:=by
 rcases h1 with⟨c,P,hc,hd,hP,_,rfl⟩ | ⟨hd,rfl⟩
 · rcases h2 with⟨c2,P2,hc2,hd2,hP2,_,rfl⟩ | ⟨hd2,rfl⟩
   · obtain rfl:c=c2:=by
      rcases Nat.lt_trichotomy c c2 with h | h | h
      · obtain⟨e,he⟩:=hd2 c h;rw [hP]at he;cases he
      · exact h
      · obtain⟨e,he⟩:=hd c2 h;rw [hP2]at he;cases he
     rw [hP]at hP2
     obtain rfl:P=P2:=by injection hP2
     rfl
   · obtain⟨e,he⟩:=hd2 c hc;rw [hP]at he;cases he
 · rcases h2 with⟨c2,P2,hc2,hd2,hP2,_,rfl⟩ | ⟨hd2,rfl⟩
   · obtain⟨e,he⟩:=hd c2 hc2;rw [hP2]at he;cases he
   · rfl
end Go.Proofs.YtfolpdmbpbbimaaGreat
end

section
namespace Go.Proofs.YtfolpdmbpbbimaaGreat
open Go Go.Wit
end Go.Proofs.YtfolpdmbpbbimaaGreat
end

section
namespace Go.Proofs.YtfolpdmbpbbimaaGreat
open Go Go.Wit
end Go.Proofs.YtfolpdmbpbbimaaGreat
end

section
namespace Go.Proofs.YtfolpdmbpbbimaaGreat
open Go Go.Wit
set_option maxHeartbeats 1000000 in
theorem S_Mac0 (n c1:Nat) (f:Nat->Int) (k c2:Nat) (g:Nat->Int) (hn:n<=900000) (hk:k<=900000) (hf:∀ i,i<n->0<=f i/\f i<=255) (hg:∀ i,i<k->0<=g i/\g i<=255):
 ACall Pg vE [.vsl 1 n c1 (aB f),.vsl 1 k c2 (aB g)] [] (fun v _=>v= .agg (rowL (macB n f k g))/\Flat true v):=by
 have hP:∀ i,64<n->keyP n f i=if i<32 then sumB n f i else 0:=fun i h=>by simp only [keyP,keyN,keyG,if_pos h]
 have hP':∀ i,¬ 64<n->keyP n f i=if i<n then f i else 0:=fun i h=>by simp only [keyP,keyN,keyG,if_neg h]
 have hM:macB n f k g=sumB 96 (outF (keyP n f) (sumB (64+k) (inF (keyP n f) g))):=rfl
 generalize keyP n f=P at*
 generalize hM2:macB n f k g=M at*
 refine B_sha_Mac ⟨rfl,?_⟩
 conv=>whnf
 repeat (refine⟨⟨_,rfl⟩,?_⟩;conv=>whnf)
 refine aE (fun hc=> ?_) (fun hc=> ?_)
 · have hc:64<n:=by simp at hc;omega
   conv=>whnf
   repeat (refine⟨⟨_,rfl⟩,?_⟩;conv=>whnf)
   refine S_SumR (f:=f) bA.vsl (by omega) hf (fun s hs hsb=> ?_)
   rw [rowL]
   conv=>whnf
   repeat (refine⟨⟨_,rfl⟩,?_⟩;conv=>whnf)
   refine aR aH (I:=fun q l m=>∃ (j:Nat),l= [(1,.vsl 1 k c2 (aB g)),(4,.ptr 0 0 0),(6,.sl 1 0 64 64),(7,.sl 2 0 64 64),(25,.int .i64 (64:Nat)),(26,.int .i64 j)] /\
    m= [some ⟨1,32,fun _ _=> .int .u8 0⟩,some ⟨1,64,aB (fun i=>if i<j then xorB (P i) 54 else P i)⟩,some ⟨1,64,aB (fun i=>if i<j then xorB (P i) 92 else P i)⟩] /\ q+j=64) 64
    (l0:= [(1,.vsl 1 k c2 (aB g)),(4,.ptr 0 0 0),(6,.sl 1 0 64 64),(7,.sl 2 0 64 64),(25,.int .i64 (64:Nat)),(26,.int .i64 (0:Nat))]) (m0:= [some ⟨1,32,fun _ _=> .int .u8 0⟩,some ⟨1,64,aB (fun i=>if i<0 then xorB (P i) 54 else P i)⟩,some ⟨1,64,aB (fun i=>if i<0 then xorB (P i) 92 else P i)⟩]) [some 0,some 2,some 3] ⟨0,rfl,rfl,rfl⟩ ?_ ?_
   · refine .mk0 ⟨.eq _ _ rfl (.vsl _ _ _ _ rfl (fun _ _ _ _=> .int _ _)),.ptr _ _ _ _ rfl,.sl _ _ _ _ _ rfl,.sl _ _ _ _ _ rfl,Flat.i rfl,Flat.i rfl,trivial⟩ ⟨.old 0 0 _ _ rfl rfl ⟨rfl,Nat.le_refl _,fun i j hi hj=>oneU0 hj rfl⟩,.old 1 2 _ _ rfl rfl ⟨rfl,Nat.le_refl _,fun i j hi hj=> ?_⟩,.old 2 3 _ _ rfl rfl ⟨rfl,Nat.le_refl _,fun i j hi hj=> ?_⟩,trivial⟩ rfl rfl
     · have hj:j<1:=hj
       obtain rfl:j=0:=by omega
       exact keyW2 (P:=P) (s:=s) (a:=fun i=>xorB (P i) 54) hj (by rw [hP i hc,hs]) rfl
     · have hj:j<1:=hj
       obtain rfl:j=0:=by omega
       exact keyW2 (P:=P) (s:=s) (a:=fun i=>xorB (P i) 92) hj (by rw [hP i hc,hs]) rfl
   · rintro q l m ⟨j,rfl,rfl,hq⟩
     conv=>whnf
     repeat (refine⟨⟨_,rfl⟩,?_⟩;conv=>whnf)
     refine aE (fun hb=> ?_) (fun hb=> ?_)
     · have hb:j<64:=by simp at hb;omega
       conv=>whnf
       repeat (refine⟨⟨_,rfl⟩,?_⟩;conv=>whnf)
       refine aA (by simp;omega) ?_
       conv=>whnf
       repeat (refine⟨⟨_,rfl⟩,?_⟩;conv=>whnf)
       simp only [Int.toNat_natCast,Nat.zero_add]
       refine aA (by simp [bI,Nat.ble_eq];omega) ?_
       conv=>whnf
       repeat (refine⟨⟨_,rfl⟩,?_⟩;conv=>whnf)
       refine aA (by simp;omega) ?_
       conv=>whnf
       repeat (refine⟨⟨_,rfl⟩,?_⟩;conv=>whnf)
       simp only [Int.toNat_natCast,Nat.zero_add]
       refine aA (by simp [bI,Nat.ble_eq];omega) ?_
       conv=>whnf
       repeat (refine⟨⟨_,rfl⟩,?_⟩;conv=>whnf)
       refine aA (by simp;omega) ?_
       conv=>whnf
       repeat (refine⟨⟨_,rfl⟩,?_⟩;conv=>whnf)
       simp only [Int.toNat_natCast,Nat.zero_add]
       refine aA (by simp [bI,Nat.ble_eq];omega) ?_
       conv=>whnf
       repeat (refine⟨⟨_,rfl⟩,?_⟩;conv=>whnf)
       refine aA (by simp;omega) ?_
       conv=>whnf
       repeat (refine⟨⟨_,rfl⟩,?_⟩;conv=>whnf)
       simp only [Int.toNat_natCast,Nat.zero_add]
       refine aA (by simp [bI,Nat.ble_eq];omega) ?_
       conv=>whnf
       repeat (refine⟨⟨_,rfl⟩,?_⟩;conv=>whnf)
       have e5:IntKind.i64.wrap ((j:Int)+1)=((j+1:Nat):Int):=by rw [w64 (by omega) (by omega)];omega
       have e6:∀ x,eE .xor .u8 (if j<j then x else P j) 54=xorB (P j) 54:=fun x=>by rw [if_neg (Nat.lt_irrefl _)];rfl
       have e7:∀ x,eE .xor .u8 (if j<j then x else P j) 92=xorB (P j) 92:=fun x=>by rw [if_neg (Nat.lt_irrefl _)];rfl
       refine⟨q - 1,[(1,.vsl 1 k c2 (aB g)),(4,.ptr 0 0 0),(6,.sl 1 0 64 64),(7,.sl 2 0 64 64),(25,.int .i64 (64:Nat)),(26,.int .i64 ((j+1:Nat):Int))],[some ⟨1,32,fun _ _=> .int .u8 0⟩,some ⟨1,64,aB (fun i=>if i<j+1 then xorB (P i) 54 else P i)⟩,some ⟨1,64,aB (fun i=>if i<j+1 then xorB (P i) 92 else P i)⟩],[some 0,some 1,some 2],by omega,⟨j+1,rfl,rfl,by omega⟩,?_⟩
       refine .mk0 ⟨.eq _ _ rfl (.vsl _ _ _ _ rfl (fun _ _ _ _=> .int _ _)),.ptr _ _ _ _ rfl,.sl _ _ _ _ _ rfl,.sl _ _ _ _ _ rfl,Flat.i rfl,Flat.i e5,trivial⟩ ⟨.old 0 0 _ _ rfl rfl ⟨rfl,Nat.le_refl _,fun i j hi hj=> .eq _ _ rfl (.int _ _)⟩,.old 1 1 _ _ rfl rfl ⟨rfl,Nat.le_refl _,fun a b ha hb=> ?_⟩,.old 2 2 _ _ rfl rfl ⟨rfl,Nat.le_refl _,fun a b ha hb=> ?_⟩,trivial⟩ rfl rfl
       · exact updB (a:=fun i=>xorB (P i) 54) (z:=P) hb (e6 _) rfl
       · exact updB (a:=fun i=>xorB (P i) 92) (z:=P) hb (e7 _) rfl
     · have hb:j=64:=by simp at hb;omega
       subst hb
       conv=>whnf
       repeat (refine⟨⟨_,rfl⟩,?_⟩;conv=>whnf)
       refine aA (bM (by simp) rfl rfl (by omega) (by omega)) (fun cap1 hcap1=> ?_)
       conv=>whnf
       repeat (refine⟨⟨_,rfl⟩,?_⟩;conv=>whnf)
       refine S_SumR (n:=64+k) (f:=inF P g) (bA.any rfl (by simp) (fun i hi=> ?_)) (by omega) (fun i hi=> ?_) (fun s1 hs1 hsb1=> ?_)
       · exact catP (fun i h=>by simp only [inF,if_pos h]) (fun i h=>by simp only [inF];rw [if_neg (by omega),show 64+i - 64=i by omega]) (k:=k) (fun i h=>rfl) hi
       · by_cases h:i<64
         · simp only [inF,if_pos h];exact jJ _ _
         · simp only [inF,if_neg h];exact hg _ (by omega)
       rw [rowL]
       conv=>whnf
       repeat (refine⟨⟨_,rfl⟩,?_⟩;conv=>whnf)
       intro cap2 hcap2
       conv=>whnf
       repeat (refine⟨⟨_,rfl⟩,?_⟩;conv=>whnf)
       refine S_SumR (n:=96) (f:=outF P s1) (bA.any rfl (by simp) (fun i hi=> ?_)) (by omega) (fun i hi=> ?_) (fun s2 hs2 hsb2=> ?_)
       · exact catP (fun i h=>by simp only [outF,if_pos h]) (fun i h=>by simp only [outF];rw [if_neg (by omega),show 64+i - 64=i by omega]) (k:=32) (fun i h=>rowAt h rfl) hi
       · by_cases h:i<64
         · simp only [outF,if_pos h];exact jJ _ _
         · simp only [outF,if_neg h];exact hsb1 _
       rw [rowL]
       conv=>whnf
       repeat (refine⟨⟨_,rfl⟩,?_⟩;conv=>whnf)
       have e9:s2=M:=by rw [hs2,hM,hs1]
       subst e9
       exact pJ rfl
 · have hc:¬ 64<n:=by simp at hc;omega
   conv=>whnf
   repeat (refine⟨⟨_,rfl⟩,?_⟩;conv=>whnf)
   refine aR aH (I:=fun q l m=>∃ (j:Nat),l= [(1,.vsl 1 k c2 (aB g)),(4,.ptr 0 0 0),(6,.sl 1 0 64 64),(7,.sl 2 0 64 64),(25,.int .i64 (64:Nat)),(26,.int .i64 j)] /\
    m= [some ⟨1,32,fun _ _=> .int .u8 0⟩,some ⟨1,64,aB (fun i=>if i<j then xorB (P i) 54 else P i)⟩,some ⟨1,64,aB (fun i=>if i<j then xorB (P i) 92 else P i)⟩] /\ q+j=64) 64
    (l0:= [(1,.vsl 1 k c2 (aB g)),(4,.ptr 0 0 0),(6,.sl 1 0 64 64),(7,.sl 2 0 64 64),(25,.int .i64 (64:Nat)),(26,.int .i64 (0:Nat))]) (m0:= [some ⟨1,32,fun _ _=> .int .u8 0⟩,some ⟨1,64,aB (fun i=>if i<0 then xorB (P i) 54 else P i)⟩,some ⟨1,64,aB (fun i=>if i<0 then xorB (P i) 92 else P i)⟩]) [some 0,some 1,some 2] ⟨0,rfl,rfl,rfl⟩ ?_ ?_
   · refine .mk0 ⟨.eq _ _ rfl (.vsl _ _ _ _ rfl (fun _ _ _ _=> .int _ _)),.ptr _ _ _ _ rfl,.sl _ _ _ _ _ rfl,.sl _ _ _ _ _ rfl,Flat.i rfl,Flat.i rfl,trivial⟩ ⟨.old 0 0 _ _ rfl rfl ⟨rfl,Nat.le_refl _,fun i j hi hj=>oneU0 hj rfl⟩,.old 1 1 _ _ rfl rfl ⟨rfl,Nat.le_refl _,fun i j hi hj=> ?_⟩,.old 2 2 _ _ rfl rfl ⟨rfl,Nat.le_refl _,fun i j hi hj=> ?_⟩,trivial⟩ rfl rfl
     · have hj:j<1:=hj
       obtain rfl:j=0:=by omega
       exact keyW1 (P:=P) (f:=f) (n:=n) (a:=fun i=>xorB (P i) 54) hj (by omega) (hP' i hc) rfl
     · have hj:j<1:=hj
       obtain rfl:j=0:=by omega
       exact keyW1 (P:=P) (f:=f) (n:=n) (a:=fun i=>xorB (P i) 92) hj (by omega) (hP' i hc) rfl
   · rintro q l m ⟨j,rfl,rfl,hq⟩
     conv=>whnf
     repeat (refine⟨⟨_,rfl⟩,?_⟩;conv=>whnf)
     refine aE (fun hb=> ?_) (fun hb=> ?_)
     · have hb:j<64:=by simp at hb;omega
       conv=>whnf
       repeat (refine⟨⟨_,rfl⟩,?_⟩;conv=>whnf)
       refine aA (by simp;omega) ?_
       conv=>whnf
       repeat (refine⟨⟨_,rfl⟩,?_⟩;conv=>whnf)
       simp only [Int.toNat_natCast,Nat.zero_add]
       refine aA (by simp [bI,Nat.ble_eq];omega) ?_
       conv=>whnf
       repeat (refine⟨⟨_,rfl⟩,?_⟩;conv=>whnf)
       refine aA (by simp;omega) ?_
       conv=>whnf
       repeat (refine⟨⟨_,rfl⟩,?_⟩;conv=>whnf)
       simp only [Int.toNat_natCast,Nat.zero_add]
       refine aA (by simp [bI,Nat.ble_eq];omega) ?_
       conv=>whnf
       repeat (refine⟨⟨_,rfl⟩,?_⟩;conv=>whnf)
       refine aA (by simp;omega) ?_
       conv=>whnf
       repeat (refine⟨⟨_,rfl⟩,?_⟩;conv=>whnf)
       simp only [Int.toNat_natCast,Nat.zero_add]
       refine aA (by simp [bI,Nat.ble_eq];omega) ?_
       conv=>whnf
       repeat (refine⟨⟨_,rfl⟩,?_⟩;conv=>whnf)
       refine aA (by simp;omega) ?_
       conv=>whnf
       repeat (refine⟨⟨_,rfl⟩,?_⟩;conv=>whnf)
       simp only [Int.toNat_natCast,Nat.zero_add]
       refine aA (by simp [bI,Nat.ble_eq];omega) ?_
       conv=>whnf
       repeat (refine⟨⟨_,rfl⟩,?_⟩;conv=>whnf)
       have e5:IntKind.i64.wrap ((j:Int)+1)=((j+1:Nat):Int):=by rw [w64 (by omega) (by omega)];omega
       have e6:∀ x,eE .xor .u8 (if j<j then x else P j) 54=xorB (P j) 54:=fun x=>by rw [if_neg (Nat.lt_irrefl _)];rfl
       have e7:∀ x,eE .xor .u8 (if j<j then x else P j) 92=xorB (P j) 92:=fun x=>by rw [if_neg (Nat.lt_irrefl _)];rfl
       refine⟨q - 1,[(1,.vsl 1 k c2 (aB g)),(4,.ptr 0 0 0),(6,.sl 1 0 64 64),(7,.sl 2 0 64 64),(25,.int .i64 (64:Nat)),(26,.int .i64 ((j+1:Nat):Int))],[some ⟨1,32,fun _ _=> .int .u8 0⟩,some ⟨1,64,aB (fun i=>if i<j+1 then xorB (P i) 54 else P i)⟩,some ⟨1,64,aB (fun i=>if i<j+1 then xorB (P i) 92 else P i)⟩],[some 0,some 1,some 2],by omega,⟨j+1,rfl,rfl,by omega⟩,?_⟩
       refine .mk0 ⟨.eq _ _ rfl (.vsl _ _ _ _ rfl (fun _ _ _ _=> .int _ _)),.ptr _ _ _ _ rfl,.sl _ _ _ _ _ rfl,.sl _ _ _ _ _ rfl,Flat.i rfl,Flat.i e5,trivial⟩ ⟨.old 0 0 _ _ rfl rfl ⟨rfl,Nat.le_refl _,fun i j hi hj=> .eq _ _ rfl (.int _ _)⟩,.old 1 1 _ _ rfl rfl ⟨rfl,Nat.le_refl _,fun a b ha hb=> ?_⟩,.old 2 2 _ _ rfl rfl ⟨rfl,Nat.le_refl _,fun a b ha hb=> ?_⟩,trivial⟩ rfl rfl
       · exact updB (a:=fun i=>xorB (P i) 54) (z:=P) hb (e6 _) rfl
       · exact updB (a:=fun i=>xorB (P i) 92) (z:=P) hb (e7 _) rfl
     · have hb:j=64:=by simp at hb;omega
       subst hb
       conv=>whnf
       repeat (refine⟨⟨_,rfl⟩,?_⟩;conv=>whnf)
       refine aA (bM (by simp) rfl rfl (by omega) (by omega)) (fun cap1 hcap1=> ?_)
       conv=>whnf
       repeat (refine⟨⟨_,rfl⟩,?_⟩;conv=>whnf)
       refine S_SumR (n:=64+k) (f:=inF P g) (bA.any rfl (by simp) (fun i hi=> ?_)) (by omega) (fun i hi=> ?_) (fun s1 hs1 hsb1=> ?_)
       · exact catP (fun i h=>by simp only [inF,if_pos h]) (fun i h=>by simp only [inF];rw [if_neg (by omega),show 64+i - 64=i by omega]) (k:=k) (fun i h=>rfl) hi
       · by_cases h:i<64
         · simp only [inF,if_pos h];exact jJ _ _
         · simp only [inF,if_neg h];exact hg _ (by omega)
       rw [rowL]
       conv=>whnf
       repeat (refine⟨⟨_,rfl⟩,?_⟩;conv=>whnf)
       intro cap2 hcap2
       conv=>whnf
       repeat (refine⟨⟨_,rfl⟩,?_⟩;conv=>whnf)
       refine S_SumR (n:=96) (f:=outF P s1) (bA.any rfl (by simp) (fun i hi=> ?_)) (by omega) (fun i hi=> ?_) (fun s2 hs2 hsb2=> ?_)
       · exact catP (fun i h=>by simp only [outF,if_pos h]) (fun i h=>by simp only [outF];rw [if_neg (by omega),show 64+i - 64=i by omega]) (k:=32) (fun i h=>rowAt h rfl) hi
       · by_cases h:i<64
         · simp only [outF,if_pos h];exact jJ _ _
         · simp only [outF,if_neg h];exact hsb1 _
       rw [rowL]
       conv=>whnf
       repeat (refine⟨⟨_,rfl⟩,?_⟩;conv=>whnf)
       have e9:s2=M:=by rw [hs2,hM,hs1]
       subst e9
       exact pJ rfl
theorem S_Mac {m:Mem} {x y:AV} {n k:Nat} {f g:Nat->Int} {K:AV->Mem->Prop} (hx:bA m x n f) (hy:bA m y k g) (hn:n<=900000) (hk:k<=900000) (hf:∀ i,i<n->0<=f i/\f i<=255) (hg:∀ i,i<k->0<=g i/\g i<=255)
 (h:∀ s,s=macB n f k g->(∀ i,0<=s i/\s i<=255)->K (.agg (rowL s)) m):ACall Pg vE [x,y] m K:=by
 obtain⟨c1,hl⟩:=hx
 obtain⟨c2,hl2⟩:=hy
 refine aD (S_Mac0 n c1 f k c2 g hn hk hf hg) (.cons _ _ _ _ hl (.cons _ _ _ _ hl2 .nil)) ?_
 rintro v rfl
 exact h _ rfl (sumB_lt _ _)
end Go.Proofs.YtfolpdmbpbbimaaGreat
end

section
namespace Go.Proofs.YtfolpdmbpbbimaaGreat
open Go Go.Wit
def stF (k:Nat) (f:Nat->Int) (i:Nat):Int:=macB k f 8 (beF (i / 32:Nat) 8) (i % 32)
theorem stF_lt {k:Nat} {f:Nat->Int} (i:Nat):0<=stF k f i/\stF k f i<=255:=sumB_lt _ _ _
theorem stW {nv:Bool} {σ:Nat->Option Nat} {k c i j:Nat} {f:Nat->Int} {s:Nat->Int} {h:Nat->Nat->AV} {A:AV} (hj:j<1) (hi:i<32*(c+1)) (hs:s=macB k f 8 (beF (c:Nat) 8)) (hA:A=catG (32*c) (aB (stF k f)) h i j) (hh:∀ t,t<32->h t 0= .int .u8 (s t)):RV nv σ A (aB (stF k f) i j):=by
 subst hA
 obtain rfl:j=0:=by omega
 refine RV.of ?_ (.int _ _)
 by_cases h1:i<32*c
 · rw [cY h1]
 · rw [bL (by omega),hh _ (by omega),hs]
   show _=AV.int .u8 (macB k f 8 (beF (i / 32:Nat) 8) (i % 32))
   rw [show i / 32=c by omega,show i % 32=i - 32*c by omega]
theorem S_DStream0 (k c1:Nat) (f:Nat->Int) (n:Int) (hk:k<=900000) (hf:∀ i,i<k->0<=f i/\f i<=255):
 ACall Pg lE [.vsl 1 k c1 (aB f),.int .i64 n] [] (fun v m'=>∃ n' f' x vs,v= .tup (x::vs)/\((0<=n/\n<=65536/\n'=n.toNat/\f'=stF k f/\vs= [.int .i64 0])\/(¬ (0<=n/\n<=65536)/\n'=0/\vs= [.int .i64 4]))/\RetB n' f' x m'/\Flats true vs):=by
 refine B_draw_Stream ⟨rfl,?_⟩
 have hbad:¬ (0<=n/\n<=65536)->∀ m',∃ n' f' x vs,AV.tup [.nils,.int .i64 4] = .tup (x::vs)/\((0<=n/\n<=65536/\n'=n.toNat/\f'=stF k f/\vs= [.int .i64 0])\/(¬ (0<=n/\n<=65536)/\n'=0/\vs= [.int .i64 4]))/\RetB n' f' x m'/\Flats true vs:=fun h m'=>
  ⟨0,fun _=>0,.nils,_,rfl,.inr ⟨h,rfl,rfl⟩,.inl ⟨rfl,rfl⟩,.cons _ _ (.int _ _) .nil⟩
 conv=>whnf
 repeat (refine⟨⟨[],rfl⟩,?_⟩;conv=>whnf)
 refine aE (fun h0=> ?_) (fun h0=> ?_)
 rotate_left
 · conv=>whnf
   repeat (refine⟨⟨[],rfl⟩,?_⟩;conv=>whnf)
   exact hbad (by simp at h0;omega) []
 conv=>whnf
 repeat (refine⟨⟨[],rfl⟩,?_⟩;conv=>whnf)
 refine aE (fun h1=> ?_) (fun h1=> ?_)
 · conv=>whnf
   repeat (refine⟨⟨[],rfl⟩,?_⟩;conv=>whnf)
   exact hbad (by simp at h1;omega) []
 obtain⟨N,rfl⟩ :∃ N:Nat,n=N:=⟨n.toNat,by simp at h0;omega⟩
 have hN:N<=65536:=by simp at h1;omega
 clear h0 h1 hbad
 conv=>whnf
 repeat (refine⟨⟨[],rfl⟩,?_⟩;conv=>whnf)
 refine aR aH (I:=fun q l m=>∃ (c c':Nat),l= [(0,.vsl 1 k c1 (aB f)),(1,.int .i64 N),(6,.sl 0 0 (32*c) c'),(7,.int .u64 c)] /\ m= [some ⟨1,32*c,aB (stF k f)⟩] /\ q+c=(N+31) / 32) ((N+31) / 32)
  (l0:= [(0,.vsl 1 k c1 (aB f)),(1,.int .i64 N),(6,.sl 0 0 (32*0) 0),(7,.int .u64 (0:Nat))]) (m0:= [some ⟨1,32*0,aB (stF k f)⟩]) [none] ⟨0,0,rfl,rfl,rfl⟩ ?_ ?_
 · exact .mk0 ⟨.eq _ _ rfl (.vsl _ _ _ _ rfl (fun _ _ _ _=> .int _ _)),Flat.i rfl,.nils _ _,Flat.i rfl,trivial⟩ ⟨.ph _ _ _ rfl,trivial⟩ rfl rfl
 · rintro q l m ⟨c,c',rfl,rfl,hq⟩
   conv=>whnf
   repeat (refine⟨⟨[],rfl⟩,?_⟩;conv=>whnf)
   refine aE (fun hb=> ?_) (fun hb=> ?_)
   · have hb:32*c<N:=by simp at hb;omega
     conv=>whnf
     repeat (refine⟨⟨[],rfl⟩,?_⟩;conv=>whnf)
     refine S_number (s:=8) (x:=(c:Int)) (by omega) (by decide) (fun cap2=> ?_)
     conv=>whnf
     repeat (refine⟨⟨[],rfl⟩,?_⟩;conv=>whnf)
     refine S_Mac (f:=f) (g:=beF c 8) bA.vsl (bA.sl rfl (Nat.le_refl 8) fun i hi=>by rw [Nat.zero_add]) hk (by decide) hf (fun _ _=>beF_lt) (fun s hs hsb=> ?_)
     rw [rowL]
     conv=>whnf
     repeat (refine⟨⟨[],rfl⟩,?_⟩;conv=>whnf)
     refine aA (bM (by first | rfl | simp) rfl rfl (by omega) (by omega)) (fun cap4 hcap4=> ?_)
     conv=>whnf
     repeat (refine⟨⟨[],rfl⟩,?_⟩;conv=>whnf)
     have e5:IntKind.u64.wrap ((c:Int)+1)=((c+1:Nat):Int):=by rw [wu64];omega
     refine⟨q - 1,[(0,.vsl 1 k c1 (aB f)),(1,.int .i64 N),(6,.sl 0 0 (32*(c+1)) cap4),(7,.int .u64 ((c+1:Nat):Int))],[some ⟨1,32*(c+1),aB (stF k f)⟩],[some 3],by omega,⟨c+1,cap4,rfl,rfl,by omega⟩,?_⟩
     refine .mk0 ⟨.eq _ _ rfl (.vsl _ _ _ _ rfl (fun _ _ _ _=> .int _ _)),Flat.i rfl,.sl _ _ _ _ _ rfl,Flat.i e5,trivial⟩ ⟨.old 0 3 _ _ rfl rfl ⟨rfl,Nat.le_refl _,fun i j hi hj=> ?_⟩,trivial⟩ rfl rfl
     dsimp only
     refine stW hj hi hs rfl fun t ht=> ?_
     refine rowAtE ht ?_ rfl
     omega
   · have hb:N<=32*c:=by simp at hb;omega
     conv=>whnf
     repeat (refine⟨⟨[],rfl⟩,?_⟩;conv=>whnf)
     refine aA (by simp;omega) ?_
     conv=>whnf
     repeat (refine⟨⟨[],rfl⟩,?_⟩;conv=>whnf)
     refine aA (bM rfl (decide_eq_true (by show 0+0+N<=32*c;omega)) rfl (by show (0+N)*1<=140737488355328;omega) (by show 0+N<=140737488355328;omega)) (fun cap4 hcap4=> ?_)
     conv=>whnf
     repeat (refine⟨⟨[],rfl⟩,?_⟩;conv=>whnf)
     refine⟨N,stF k f,_,_,rfl,.inl ⟨by omega,by omega,rfl,rfl,rfl⟩,.inr ⟨2,cap4,0+N,_,by rw [Nat.zero_add];rfl,rfl,by omega,fun i hi=> ?_⟩,.cons _ _ (.int _ _) .nil⟩
     dsimp only
     rw [bL (by omega)]
     show aB (stF k f) (0+0+(i - 0)) 0=_
     rw [show 0+0+(i - 0)=i by omega]
     rfl
theorem S_DStream {m:Mem} {x:AV} {K:AV->Mem->Prop} {k:Nat} {f:Nat->Int} {n:Int} (hx:bA m x k f) (hk:k<=900000) (hf:∀ i,i<k->0<=f i/\f i<=255)
 (h1:0<=n->n<=65536->∀ cap,memK (m++ [some ⟨1,n.toNat,aB (stF k f)⟩]) (K (.tup [.sl m.length 0 n.toNat cap,.int .i64 0])))
 (h2:¬ (0<=n/\n<=65536)->∀ g cap,memK (m++ [some ⟨1,0,aB g⟩]) (K (.tup [.sl m.length 0 0 cap,.int .i64 4]))):ACall Pg lE [x,.int .i64 n] m K:=by
 simp only [dJ]at h1 h2
 obtain⟨cap,hl⟩:=hx
 refine uK (S_DStream0 k cap f n hk hf) (.cons _ _ _ _ hl (.cons _ _ _ _ aK .nil)) ?_
 rintro n' f' cap' vs (⟨g1,g2,rfl,rfl,rfl⟩ | ⟨h,rfl,rfl⟩)
 · exact h1 g1 g2 cap'
 · exact h2 h f' cap'
theorem S_RStream0 (k c1:Nat) (f:Nat->Int) (N:Nat) (hN:N<=65536) (hk:k<=900000) (hf:∀ i,i<k->0<=f i/\f i<=255):
 ACall Pg eT [.vsl 1 k c1 (aB f),.int .i64 N] [] (fun v m'=>∃ n' f',(n'=N/\f'=stF k f)/\RetB n' f' v m'):=by
 refine tH ⟨rfl,?_⟩
 conv=>whnf
 repeat (refine⟨⟨[],rfl⟩,?_⟩;conv=>whnf)
 refine aR aH (I:=fun q l m=>∃ (c c':Nat),l= [(0,.vsl 1 k c1 (aB f)),(1,.int .i64 N),(5,.sl 0 0 (32*c) c'),(6,.int .u64 c)] /\ m= [some ⟨1,32*c,aB (stF k f)⟩] /\ q+c=(N+31) / 32) ((N+31) / 32)
  (l0:= [(0,.vsl 1 k c1 (aB f)),(1,.int .i64 N),(5,.sl 0 0 (32*0) 0),(6,.int .u64 (0:Nat))]) (m0:= [some ⟨1,32*0,aB (stF k f)⟩]) [none] ⟨0,0,rfl,rfl,rfl⟩ ?_ ?_
 · exact .mk0 ⟨.eq _ _ rfl (.vsl _ _ _ _ rfl (fun _ _ _ _=> .int _ _)),Flat.i rfl,.nils _ _,Flat.i rfl,trivial⟩ ⟨.ph _ _ _ rfl,trivial⟩ rfl rfl
 · rintro q l m ⟨c,c',rfl,rfl,hq⟩
   conv=>whnf
   repeat (refine⟨⟨[],rfl⟩,?_⟩;conv=>whnf)
   refine aE (fun hb=> ?_) (fun hb=> ?_)
   · have hb:32*c<N:=by simp at hb;omega
     conv=>whnf
     repeat (refine⟨⟨[],rfl⟩,?_⟩;conv=>whnf)
     refine S_be (s:=8) (x:=(c:Int)) (by omega) (by decide) (fun cap2=> ?_)
     conv=>whnf
     repeat (refine⟨⟨[],rfl⟩,?_⟩;conv=>whnf)
     refine S_RMac (f:=f) (g:=beF c 8) bA.vsl (bA.sl rfl (Nat.le_refl 8) fun i hi=>by rw [Nat.zero_add]) hk (by decide) hf (fun _ _=>beF_lt) (fun s hs hsb=> ?_)
     rw [rowL]
     conv=>whnf
     repeat (refine⟨⟨[],rfl⟩,?_⟩;conv=>whnf)
     refine aA (bM (by first | rfl | simp) rfl rfl (by omega) (by omega)) (fun cap4 hcap4=> ?_)
     conv=>whnf
     repeat (refine⟨⟨[],rfl⟩,?_⟩;conv=>whnf)
     have e5:IntKind.u64.wrap ((c:Int)+1)=((c+1:Nat):Int):=by rw [wu64];omega
     refine⟨q - 1,[(0,.vsl 1 k c1 (aB f)),(1,.int .i64 N),(5,.sl 0 0 (32*(c+1)) cap4),(6,.int .u64 ((c+1:Nat):Int))],[some ⟨1,32*(c+1),aB (stF k f)⟩],[some 3],by omega,⟨c+1,cap4,rfl,rfl,by omega⟩,?_⟩
     refine .mk0 ⟨.eq _ _ rfl (.vsl _ _ _ _ rfl (fun _ _ _ _=> .int _ _)),Flat.i rfl,.sl _ _ _ _ _ rfl,Flat.i e5,trivial⟩ ⟨.old 0 3 _ _ rfl rfl ⟨rfl,Nat.le_refl _,fun i j hi hj=> ?_⟩,trivial⟩ rfl rfl
     dsimp only
     refine stW hj hi hs rfl fun t ht=> ?_
     refine rowAtE ht ?_ rfl
     omega
   · have hb:N<=32*c:=by simp at hb;omega
     conv=>whnf
     repeat (refine⟨⟨[],rfl⟩,?_⟩;conv=>whnf)
     refine aA (by simp;omega) ?_
     conv=>whnf
     repeat (refine⟨⟨[],rfl⟩,?_⟩;conv=>whnf)
     exact⟨N,_,⟨rfl,rfl⟩,.inr ⟨0,c',32*c,_,rfl,rfl,hb,fun i hi=>rfl⟩⟩
theorem S_RStream {m:Mem} {x:AV} {K:AV->Mem->Prop} {k N:Nat} {f:Nat->Int} (hx:bA m x k f) (hN:N<=65536) (hk:k<=900000) (hf:∀ i,i<k->0<=f i/\f i<=255)
 (h1:∀ cap,memK (m++ [some ⟨1,N,aB (stF k f)⟩]) (K (.sl m.length 0 N cap))):ACall Pg eT [x,.int .i64 N] m K:=by
 simp only [dJ]at h1
 obtain⟨cap,hl⟩:=hx
 refine gZ (S_RStream0 k cap f N hN hk hf) (.cons _ _ _ _ hl (.cons _ _ _ _ aK .nil)) ?_
 rintro n' f' cap' ⟨rfl,rfl⟩
 exact h1 cap'
end Go.Proofs.YtfolpdmbpbbimaaGreat
end

section
namespace Go.Proofs.YtfolpdmbpbbimaaGreat
open Go Go.Wit
def isD (i:Int):Bool:=decide (1<=i) && decide (i<=8)
theorem sA {m:Mem} {K:AV->Mem->Prop} {i:Int} (h:K (.bool (isD i)) m):ACall Pg kE [.int .i64 i] m K:=by
 have h0:ACall Pg kE [.int .i64 i] [] (fun v _=>v= .bool (isD i)/\Flat true v):=by
  refine B_pair_dealer ⟨rfl,?_⟩
  conv=>whnf
  repeat (refine⟨⟨[],rfl⟩,?_⟩;conv=>whnf)
  refine aE (fun h=> ?_) (fun h=> ?_)
  · conv=>whnf
    repeat (refine⟨⟨[],rfl⟩,?_⟩;conv=>whnf)
    have e:decide (1<=i)=true:=by simpa using h
    exact⟨by unfold isD;rw [e];rfl,.bool _⟩
  · conv=>whnf
    repeat (refine⟨⟨[],rfl⟩,?_⟩;conv=>whnf)
    have e:decide (1<=i)=false:=by simpa using h
    exact⟨by unfold isD;rw [e];rfl,.bool _⟩
 refine aD h0 (.cons _ _ _ _ aK .nil) ?_
 rintro v rfl
 exact h
def keyF (P:Pt Fp) (a b:Int):Nat->Int:=catB (pbN P) (pbF P) (fun i=>if i=0 then a else b)
def tnF (P:Pt Fp) (a b:Int) (f:Nat->Int) (i:Nat):Int:=xorB (f i) (stF (pbN P+2) (keyF P a b) i)
theorem keyF_in {P:Pt Fp} {a b:Int} (ha:isD a=true) (hb:isD b=true) (i:Nat) (hi:i<pbN P+2):0<=keyF P a b i/\keyF P a b i<=255:=by
 simp only [isD,Bool.and_eq_true,decide_eq_true_eq]at ha hb
 refine wZ (m:=2) (fun i _=>pbF_lt P i) (fun i _=> ?_) hi
 split <;> omega
theorem isD_u8 {a:Int} (ha:isD a=true):IntKind.u8.wrap a=a:=by
 simp only [isD,Bool.and_eq_true,decide_eq_true_eq]at ha
 rw [IntKind.wrap_u8];omega
theorem rowL_at {f:Nat->Int} {i:Nat} {A:AV} (hi:i<32) (hA:A=(List.map (fun i=>AV.int .u8 (f i)) (List.range 32)).getD (i*1+0) .un):A= .int .u8 (f i):=by
 rw [hA,show i*1+0=i by omega]
 exact rowL_get hi
theorem turnW {nv:Bool} {σ:Nat->Option Nat} {T f g:Nat->Int} {k i j p q r:Nat} {x:Int} {A:AV} (hj:j<1) (hx:x=eE .xor .u8 (if q<k then T q else f q) (g r)) (hT:T k=xorB (f k) (g k)) (hp:p=k) (hq:q=k) (hr:r=k) (hA:A=updG ⟨1,32,aB (fun i=>if i<k then T i else f i)⟩ p 0 1 [.int .u8 x] i j):
 RV nv σ A (aB (fun i=>if i<k+1 then T i else f i) i j):=by
 subst hp hq hr
 exact updB (a:=T) (z:=f) hj (by rw [hx,if_neg (Nat.lt_irrefl _),hT];rfl) hA
theorem outTurn {s z:Nat->Int} {g:Nat->Nat->AV} {l:List AV} (hl:l=List.map (cellG ⟨1,32,updG ⟨1,32,g⟩ 0 0 32 (List.map (cellG ⟨1,32,aB (fun i=>if i<32 then s i else z i)⟩ 0 0) (List.range 32))⟩ 0 0) (List.range 32)):AV.agg l= .agg (rowL s):=by
 have e:List.map (cellG ⟨1,32,aB (fun i=>if i<32 then s i else z i)⟩ 0 0) (List.range 32)=(List.range 32).map fun i=> .int .u8 (s i):=by
  refine List.map_congr_left fun i hi=> ?_
  rw [rE,Nat.zero_add]
  show AV.int .u8 (if i<32 then s i else z i)=_
  rw [if_pos (List.mem_range.1 hi)]
 rw [e]at hl
 exact(pJ hl).1
theorem S_turned0 (P:Pt Fp) (oP:On P) (a b:Int) (ha:isD a=true) (hb:isD b=true) (f:Nat->Int) (hf:∀ i,i<32->0<=f i/\f i<=255):
 ACall Pg eH [ptA P,.int .i64 a,.int .i64 b,.agg (rowL f)] [] (fun v _=>v= .tup [.agg (rowL (tnF P a b f)),.int .i64 0] /\ Flat true v):=by
 have hT:∀ i,tnF P a b f i=xorB (f i) (stF (pbN P+2) (keyF P a b) i):=fun _=>rfl
 generalize tnF P a b f=T at*
 have hk:=keyF_in (P:=P) ha hb
 have hn:=pbN_le P
 have hcell:∀ {n:Nat} {g h:Nat->Nat->AV},(∀ i,g i 0= .int .u8 (pbF P i))->h 0 0= .int .u8 (IntKind.u8.wrap a)->h 1 0= .int .u8 (IntKind.u8.wrap b)->∀ i,i<pbN P+2->catG (pbN P) g h i 0= .int .u8 (keyF P a b i):=fun h0 h1 h2 i hi=>by
  unfold keyF
  by_cases h:i<pbN P
  · rw [cY h,catB_lt h,h0]
  · rw [bL (by omega),catB_ge (by omega)]
    have:i - pbN P=0\/i - pbN P=1:=by omega
    rcases this with e | e
    · rw [e,h1,isD_u8 ha,if_pos rfl]
    · rw [e,h2,isD_u8 hb,if_neg (by decide)]
 unfold rowL
 refine pX ⟨rfl,?_⟩
 conv=>whnf
 repeat (refine⟨⟨_,rfl⟩,?_⟩;conv=>whnf)
 refine sA ?_
 rw [ha]
 conv=>whnf
 repeat (refine⟨⟨_,rfl⟩,?_⟩;conv=>whnf)
 refine sA ?_
 rw [hb]
 conv=>whnf
 repeat (refine⟨⟨_,rfl⟩,?_⟩;conv=>whnf)
 refine S_CBytes oP (fun cap1=> ?_)
 conv=>whnf
 repeat (refine⟨⟨_,rfl⟩,?_⟩;conv=>whnf)
 refine aA (bM (by first | rfl | simp) rfl rfl (by omega) (by omega)) (fun cap2 hcap2=> ?_)
 conv=>whnf
 repeat (refine⟨⟨_,rfl⟩,?_⟩;conv=>whnf)
 refine S_DStream (k:=pbN P+2) (f:=keyF P a b) (n:=32) (bA.any rfl (Nat.le_of_eq (Nat.zero_add _)) fun i hi=> ?_) (by omega) hk (fun _ _ cap3=> ?_) (fun h=>absurd h (by decide))
 · rw [show 0+i=i from Nat.zero_add i]
   dsimp only
   exact hcell (n:=0) (fun _=>rfl) rfl rfl i hi
 conv=>whnf
 repeat (refine⟨⟨_,rfl⟩,?_⟩;conv=>whnf)
 refine aR aH (I:=fun q l m=>∃ (j:Nat),l= [(7,.ptr 0 0 0),(8,.ptr 1 0 0),(9,.int .i64 0),(12,.sl 2 0 32 cap3),(47,.int .i64 j)] /\ m= [some ⟨1,32,aB (fun i=>if i<j then T i else f i)⟩,some ⟨1,32,fun _ _=> .int .u8 0⟩,some ⟨1,32,aB (stF (pbN P+2) (keyF P a b))⟩] /\ q+j=32) 32
  (l0:= [(7,.ptr 0 0 0),(8,.ptr 1 0 0),(9,.int .i64 0),(12,.sl 2 0 32 cap3),(47,.int .i64 (0:Nat))]) (m0:= [some ⟨1,32,aB (fun i=>if i<0 then T i else f i)⟩,some ⟨1,32,fun _ _=> .int .u8 0⟩,some ⟨1,32,aB (stF (pbN P+2) (keyF P a b))⟩]) [some 1,some 2,some 6] ⟨0,rfl,rfl,rfl⟩ ?_ ?_
 · refine .mk0 ⟨.ptr _ _ _ _ rfl,.ptr _ _ _ _ rfl,Flat.i rfl,.sl _ _ _ _ _ rfl,Flat.i rfl,trivial⟩ ⟨.old 0 1 _ _ rfl rfl ⟨rfl,Nat.le_refl _,fun i j hi hj=> ?_⟩,.old 1 2 _ _ rfl rfl ⟨rfl,Nat.le_refl _,fun i j hi hj=>oneU0 hj rfl⟩,.old 2 6 _ _ rfl rfl ⟨rfl,Nat.le_refl _,fun i j hi hj=>RV.of rfl (.int _ _)⟩,trivial⟩ rfl rfl
   have hj:j<1:=hj
   obtain rfl:j=0:=by omega
   exact zeroB (j:=0) (a:=T) (z:=f) (rowL_at hi rfl)
 · rintro q l m ⟨j,rfl,rfl,hq⟩
   conv=>whnf
   repeat (refine⟨⟨_,rfl⟩,?_⟩;conv=>whnf)
   refine aE (fun hb=> ?_) (fun hb=> ?_)
   · have hb:j<32:=by simp at hb;omega
     conv=>whnf
     repeat (refine⟨⟨_,rfl⟩,?_⟩;conv=>whnf)
     refine aA (by simp;omega) ?_
     conv=>whnf
     repeat (refine⟨⟨_,rfl⟩,?_⟩;conv=>whnf)
     refine aA (by simp [bI,Nat.ble_eq];omega) ?_
     conv=>whnf
     repeat (refine⟨⟨_,rfl⟩,?_⟩;conv=>whnf)
     refine aA (by simp;omega) ?_
     conv=>whnf
     repeat (refine⟨⟨_,rfl⟩,?_⟩;conv=>whnf)
     refine aA (by simp [bI,Nat.ble_eq];omega) ?_
     conv=>whnf
     repeat (refine⟨⟨_,rfl⟩,?_⟩;conv=>whnf)
     refine aA (by simp;omega) ?_
     conv=>whnf
     repeat (refine⟨⟨_,rfl⟩,?_⟩;conv=>whnf)
     refine aA (by simp [bI,Nat.ble_eq];omega) ?_
     conv=>whnf
     repeat (refine⟨⟨_,rfl⟩,?_⟩;conv=>whnf)
     have e5:IntKind.i64.wrap ((j:Int)+1)=((j+1:Nat):Int):=by rw [w64 (by omega) (by omega)];omega
     refine⟨q - 1,[(7,.ptr 0 0 0),(8,.ptr 1 0 0),(9,.int .i64 0),(12,.sl 2 0 32 cap3),(47,.int .i64 ((j+1:Nat):Int))],[some ⟨1,32,aB (fun i=>if i<j+1 then T i else f i)⟩,some ⟨1,32,fun _ _=> .int .u8 0⟩,some ⟨1,32,aB (stF (pbN P+2) (keyF P a b))⟩],[some 0,some 1,some 2],by omega,⟨j+1,rfl,rfl,by omega⟩,?_⟩
     exact .mk0 ⟨.ptr _ _ _ _ rfl,.ptr _ _ _ _ rfl,Flat.i rfl,.sl _ _ _ _ _ rfl,Flat.i e5,trivial⟩ ⟨.old 0 0 _ _ rfl rfl ⟨rfl,Nat.le_refl _,fun x y hx hy=>turnW hy rfl (hT j) (Nat.zero_add _) (Nat.zero_add _) (Nat.zero_add _) rfl⟩,.old 1 1 _ _ rfl rfl ⟨rfl,Nat.le_refl _,fun i j hi hj=> .eq _ _ rfl (.int _ _)⟩,.old 2 2 _ _ rfl rfl ⟨rfl,Nat.le_refl _,fun i j hi hj=>RV.of rfl (.int _ _)⟩,trivial⟩ rfl rfl
   · have hb:j=32:=by simp at hb;omega
     subst hb
     conv=>whnf
     repeat (refine⟨⟨_,rfl⟩,?_⟩;conv=>whnf)
     have e0:=outTurn (s:=T) (z:=f) (g:=fun _ _=> .int .u8 0) rfl
     refine⟨congrArg (fun x=>AV.tup [x,.int .i64 0]) e0,?_⟩
     refine Eq.mpr (congrArg (fun x=>Flat true (AV.tup [x,.int .i64 0])) e0) ?_
     exact .tup _ (.cons _ _ fJ (.cons _ _ (.int _ _) .nil))
theorem S_turned {m:Mem} {K:AV->Mem->Prop} {P:Pt Fp} {a b:Int} {f:Nat->Int} (oP:On P) (ha:isD a=true) (hb:isD b=true) (hf:∀ i,i<32->0<=f i/\f i<=255) (h:∀ s,s=tnF P a b f->(∀ i,0<=s i/\s i<=255)->K (.tup [.agg (rowL s),.int .i64 0]) m):ACall Pg eH [ptA P,.int .i64 a,.int .i64 b,.agg (rowL f)] m K:=by
 refine aD (S_turned0 P oP a b ha hb f hf) (.cons _ _ _ _ (aF aW) (.cons _ _ _ _ aK (.cons _ _ _ _ aK (.cons _ _ _ _ (aF fJ) .nil)))) ?_
 rintro v rfl
 exact h _ rfl fun i=>jJ _ _
theorem S_turned_no {m:Mem} {K:AV->Mem->Prop} {i:Bool} {x y:Nat} {a b:Int} {f:Nat->Int} (hab:(isD a && isD b)=false) (h:K (.tup [.agg (rowL fun _=>0),.int .i64 1]) m):ACall Pg eH [rawA i x y,.int .i64 a,.int .i64 b,.agg (rowL f)] m K:=by
  have h0:ACall Pg eH [rawA i x y,.int .i64 a,.int .i64 b,.agg (rowL f)] [] (fun v _=>v= .tup [.agg (rowL fun _=>0),.int .i64 1] /\ Flat true v):=by
    unfold rowL
    refine pX ⟨rfl,?_⟩
    conv=>whnf
    repeat (refine⟨⟨_,rfl⟩,?_⟩;conv=>whnf)
    refine sA ?_
    cases ha:isD a with
    | false =>
      conv=>whnf
      repeat (refine⟨⟨_,rfl⟩,?_⟩;conv=>whnf)
      have e0:=(pJ (s:=fun _=>0) (g:=fun _ j=> [AV.int .u8 0].getD j .un) rfl).1
      refine⟨congrArg (fun x=>AV.tup [x,.int .i64 1]) e0,?_⟩
      refine Eq.mpr (congrArg (fun x=>Flat true (AV.tup [x,.int .i64 1])) e0) ?_
      exact .tup _ (.cons _ _ fJ (.cons _ _ (.int _ _) .nil))
    | true =>
      rw [ha,Bool.true_and]at hab
      conv=>whnf
      repeat (refine⟨⟨_,rfl⟩,?_⟩;conv=>whnf)
      refine sA ?_
      rw [hab]
      conv=>whnf
      repeat (refine⟨⟨_,rfl⟩,?_⟩;conv=>whnf)
      have e0:=(pJ (s:=fun _=>0) (g:=fun _ j=> [AV.int .u8 0].getD j .un) rfl).1
      refine⟨congrArg (fun x=>AV.tup [x,.int .i64 1]) e0,?_⟩
      refine Eq.mpr (congrArg (fun x=>Flat true (AV.tup [x,.int .i64 1])) e0) ?_
      exact .tup _ (.cons _ _ fJ (.cons _ _ (.int _ _) .nil))
  refine aD h0 (.cons _ _ _ _ (aF cU) (.cons _ _ _ _ aK (.cons _ _ _ _ aK (.cons _ _ _ _ (aF fJ) .nil)))) ?_
  rintro v rfl
  exact h
theorem S_turned_bad {m:Mem} {K:AV->Mem->Prop} {i:Bool} {x y:Nat} {a b:Int} {f:Nat->Int} (hx:x<w256) (hy:y<w256) (hbad:Bad i x y) (ha:isD a=true) (hb:isD b=true) (h:K (.tup [.agg (rowL fun _=>0),.int .i64 3]) m):ACall Pg eH [rawA i x y,.int .i64 a,.int .i64 b,.agg (rowL f)] m K:=by
 have h0:ACall Pg eH [rawA i x y,.int .i64 a,.int .i64 b,.agg (rowL f)] [] (fun v _=>v= .tup [.agg (rowL fun _=>0),.int .i64 3] /\ Flat true v):=by
  unfold rowL
  refine pX ⟨rfl,?_⟩
  conv=>whnf
  repeat (refine⟨⟨_,rfl⟩,?_⟩;conv=>whnf)
  refine sA ?_
  rw [ha]
  conv=>whnf
  repeat (refine⟨⟨_,rfl⟩,?_⟩;conv=>whnf)
  refine sA ?_
  rw [hb]
  conv=>whnf
  repeat (refine⟨⟨_,rfl⟩,?_⟩;conv=>whnf)
  refine S_CBytes_bad (i:=i) (x:=x) (y:=y) hx hy hbad (fun cap1 f1=> ?_)
  conv=>whnf
  repeat (refine⟨⟨_,rfl⟩,?_⟩;conv=>whnf)
  have e0:=(pJ (s:=fun _=>0) (g:=fun _ j=> [AV.int .u8 0].getD j .un) rfl).1
  refine⟨congrArg (fun x=>AV.tup [x,.int .i64 3]) e0,?_⟩
  refine Eq.mpr (congrArg (fun x=>Flat true (AV.tup [x,.int .i64 3])) e0) ?_
  exact .tup _ (.cons _ _ fJ (.cons _ _ (.int _ _) .nil))
 refine aD h0 (.cons _ _ _ _ (aF cU) (.cons _ _ _ _ aK (.cons _ _ _ _ aK (.cons _ _ _ _ (aF fJ) .nil)))) ?_
 rintro v rfl
 exact h
end Go.Proofs.YtfolpdmbpbbimaaGreat
end

