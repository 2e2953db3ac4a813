/- Texts of a proof, one behind the other; the last of these: The law JudgeOthers answers true for all that it may be handed: its row; no condition. -/
import Derived.Test.YtfolpdmbpbbimaaGreatZ10
import Derived.Test.YtfolpdmbpbbimaaGreatRows
import Derived.WalkKit
import Derived.ProofKit
import Derived.OpenShut
import Derived.ShutString
import Derived.ChangeOld
import Derived.Below
import Derived.SizedLaws
set_option linter.unusedVariables false
set_option linter.unusedSimpArgs false
set_option maxRecDepth 100000
section
namespace Go.Proofs.YtfolpdmbpbbimaaGreat
open Go Go.Wit
theorem iH {m:Mem} {K:AV->Mem->Prop} (h:K (.bool true) m):ACall Pg cK [] m K:=by
 have h0:ACall Pg cK [] [] (fun v _=>v= .bool true/\Flat true v):=by
  refine vQ ⟨rfl,?_⟩
  conv=>whnf
  repeat (refine⟨⟨_,rfl⟩,?_⟩;conv=>whnf)
  refine S_Place (fun _ p hp=> ?_) (fun h=>absurd h (by decide))
  conv=>whnf
  repeat (refine⟨⟨_,rfl⟩,?_⟩;conv=>whnf)
  refine S_Place (fun _ q hq=> ?_) (fun h=>absurd h (by decide))
  conv=>whnf
  repeat (refine⟨⟨_,rfl⟩,?_⟩;conv=>whnf)
  refine S_Place (fun h=>absurd h (by decide)) (fun _=> ?_)
  have hp:p=0:=by rw [hp];decide
  have hq:q=1:=by rw [hq];decide
  subst hp hq
  conv=>whnf
  repeat (refine⟨⟨_,rfl⟩,?_⟩;conv=>whnf)
  exact⟨rfl,.bool _⟩
 refine aD h0 .nil ?_
 rintro v rfl
 exact h
theorem S_JudgeExact (r cap:Nat) (D:Nat->Dl) (d1 d2:Nat->Nat) (i j:Int) (ki:Bool) (kx ky c s:Nat) (hD:∀ k,k<r->OkZ (D k)) (hkx:kx<w256) (hky:ky<w256) (hc:c<w256) (hs:s<w256):
 ACall Pg gP [.vsl 26 r cap (dlG D d1 d2),.int .i64 i,.int .i64 j,rawA ki kx ky,prA c s] [] (fun v _=>v= .bool true):=by
 refine pW ⟨rfl,?_⟩
 conv=>whnf
 repeat (refine⟨⟨_,rfl⟩,?_⟩;conv=>whnf)
 refine S_Heavy .vsl (fun _=> ?_) (fun hr hN=> ?_)
 · conv=>whnf
   repeat (refine⟨⟨_,rfl⟩,?_⟩;conv=>whnf)
 have hO:∀ k,k<r->OkD (D k):=fun k hk=>(hD k hk).ok (by have:=(hN k hk).1;omega) (by have:=(hN k hk).2;omega)
 conv=>whnf
 repeat (refine⟨⟨_,rfl⟩,?_⟩;conv=>whnf)
 refine S_TwinDealers hr hN (fun cap2 c1 c2=> ?_)
 conv=>whnf
 repeat (refine⟨⟨_,rfl⟩,?_⟩;conv=>whnf)
 refine S_Place (fun hok p hp=> ?_) (fun hok=> ?_)
 · have hp0:0<=p:=by rw [hp];exact(kR hok).2.2.2.2.2.1
   conv=>whnf
   repeat (refine⟨⟨_,rfl⟩,?_⟩;conv=>whnf)
   refine aBy (fun _ q hq=> ?_) (fun h=>absurd (hok.symm.trans h) (by simp))
   obtain rfl:q=p:=by rw [hq,hp]
   conv=>whnf
   repeat (refine⟨⟨_,rfl⟩,?_⟩;conv=>whnf)
   refine kP (by simp;omega) ?_
   conv=>whnf
   repeat (refine⟨⟨_,rfl⟩,?_⟩;conv=>whnf)
   refine dK (by simp;omega) ?_
   conv=>whnf
   repeat (refine⟨⟨_,rfl⟩,?_⟩;conv=>whnf)
   refine kP (by simp) ?_
   conv=>whnf
   repeat (refine⟨⟨_,rfl⟩,?_⟩;conv=>whnf)
   refine S_JFits (r:=r) (D:=D) (cZ.own rfl (Nat.le_refl _)) (by omega) hO hkx hky (fun b e hf=> ?_)
   conv=>whnf
   repeat (refine⟨⟨_,rfl⟩,?_⟩;conv=>whnf)
   refine S_RJFits (r:=r) (D:=D) .vsl (by omega) hO hkx hky (fun b' e' hf'=> ?_)
   obtain⟨rfl,rfl⟩:=hf.same hf'
   conv=>whnf
   repeat (refine⟨⟨_,rfl⟩,?_⟩;conv=>whnf)
   refine dK (by simp) ?_
   conv=>whnf
   repeat (refine⟨⟨_,rfl⟩,?_⟩;conv=>whnf)
   refine kP (by simp) ?_
   conv=>whnf
   repeat (refine⟨⟨_,rfl⟩,?_⟩;conv=>whnf)
   refine vC (r:=r) (D:=D) (cZ.own rfl (Nat.le_refl _)) (by omega) hO hkx hky hc hs (fun z hz=> ?_)
   conv=>whnf
   repeat (refine⟨⟨_,rfl⟩,?_⟩;conv=>whnf)
   refine S_RVerdict (r:=r) (D:=D) .vsl (by omega) hO hkx hky hc hs (fun z' hz'=> ?_)
   obtain rfl:=hz.same hz'
   conv=>whnf
   repeat (refine⟨⟨_,rfl⟩,?_⟩;conv=>whnf)
   refine dK (by simp) ?_
   conv=>whnf
   repeat (refine⟨⟨_,rfl⟩,?_⟩;conv=>whnf)
   refine S_kDealers (r:=r) (D:=D) (cZ.own rfl (Nat.le_refl _)) .vsl (by omega) hO ?_
   conv=>whnf
   repeat (refine⟨⟨_,rfl⟩,?_⟩;conv=>whnf)
   refine iH ?_
   conv=>whnf
   repeat (refine⟨⟨_,rfl⟩,?_⟩;conv=>whnf)
 · conv=>whnf
   repeat (refine⟨⟨_,rfl⟩,?_⟩;conv=>whnf)
   refine aBy (fun h=>absurd (hok.symm.trans h) (by simp)) (fun _=> ?_)
   conv=>whnf
   repeat (refine⟨⟨_,rfl⟩,?_⟩;conv=>whnf)
   refine S_JFits (r:=r) (D:=D) (cZ.own rfl (Nat.le_refl _)) (by omega) hO hkx hky (fun b e hf=> ?_)
   conv=>whnf
   repeat (refine⟨⟨_,rfl⟩,?_⟩;conv=>whnf)
   refine S_RJFits (r:=r) (D:=D) .vsl (by omega) hO hkx hky (fun b' e' hf'=> ?_)
   obtain⟨rfl,rfl⟩:=hf.same hf'
   conv=>whnf
   repeat (refine⟨⟨_,rfl⟩,?_⟩;conv=>whnf)
   refine dK (by simp) ?_
   conv=>whnf
   repeat (refine⟨⟨_,rfl⟩,?_⟩;conv=>whnf)
   refine kP (by simp) ?_
   conv=>whnf
   repeat (refine⟨⟨_,rfl⟩,?_⟩;conv=>whnf)
   refine vC (r:=r) (D:=D) (cZ.own rfl (Nat.le_refl _)) (by omega) hO hkx hky hc hs (fun z hz=> ?_)
   conv=>whnf
   repeat (refine⟨⟨_,rfl⟩,?_⟩;conv=>whnf)
   refine S_RVerdict (r:=r) (D:=D) .vsl (by omega) hO hkx hky hc hs (fun z' hz'=> ?_)
   obtain rfl:=hz.same hz'
   conv=>whnf
   repeat (refine⟨⟨_,rfl⟩,?_⟩;conv=>whnf)
   refine dK (by simp) ?_
   conv=>whnf
   repeat (refine⟨⟨_,rfl⟩,?_⟩;conv=>whnf)
   refine S_kDealers (r:=r) (D:=D) (cZ.own rfl (Nat.le_refl _)) .vsl (by omega) hO ?_
   conv=>whnf
   repeat (refine⟨⟨_,rfl⟩,?_⟩;conv=>whnf)
   refine iH ?_
   conv=>whnf
   repeat (refine⟨⟨_,rfl⟩,?_⟩;conv=>whnf)
theorem zM (avs:List AV) (h:okVs [.sl 26 tDealer,.int .i64,.int .i64,yZ,tProof] avs):∃ avs',iZ avs avs'/\ACall Pg gP avs' [] (fun x _=>x= .bool true):=by
 obtain⟨v1,_,rfl,h1,v2,_,rfl,h2,v3,_,rfl,h3,v4,_,rfl,h4,v5,_,rfl,h5,rfl⟩:=h
 obtain⟨r,cap,D,c1,c2,r1,_,_,hD⟩:=ok_dealers h1
 obtain⟨x,rfl,_,_⟩:=ok_int h2
 obtain⟨y,rfl,_,_⟩:=ok_int h3
 obtain⟨i,a,b,ha,hb,rfl⟩:=ok_point h4
 obtain⟨c,s,hc,hs,rfl⟩:=ok_proof h5
 exact⟨_,.cons r1 (.cons (cR.refl _) (.cons (cR.refl _) (.cons (cR.refl _) (.cons (cR.refl _) .nil)))),S_JudgeExact r cap D c1 c2 x y i a b c s hD ha hb hc hs⟩
end Go.Proofs.YtfolpdmbpbbimaaGreat
end

section
namespace Go.Proofs.YtfolpdmbpbbimaaGreat
open Go Go.Wit
theorem mod3 (a:Int):∃ r:Nat,r<=2/\IntKind.i64.wrap ((IntKind.u64.wrap a).tmod 3)=(r:Int):=by
 have h:0<=IntKind.u64.wrap a:=by rw [IntKind.wrap_u64];omega
 refine⟨((IntKind.u64.wrap a).tmod 3).toNat,?_,?_⟩
 · rw [Int.tmod_eq_emod_of_nonneg h];omega
 · rw [Int.tmod_eq_emod_of_nonneg h,w64 (by omega) (by omega)];omega
theorem modR (a:Int) (R:Nat) (hR:R<=2):∃ w:Nat,w<R+1/\IntKind.i64.wrap ((IntKind.u64.wrap a).tmod (IntKind.u64.wrap (IntKind.i64.wrap (((R+2:Nat):Int) - 1))))=(w:Int):=by
 have h:0<=IntKind.u64.wrap a:=by rw [IntKind.wrap_u64];omega
 have e7:IntKind.u64.wrap (IntKind.i64.wrap (((R+2:Nat):Int) - 1))=((R+1:Nat):Int):=by
  have:R=0\/R=1\/R=2:=by omega
  rcases this with rfl | rfl | rfl <;> decide
 rw [e7]
 have g1:0<=IntKind.u64.wrap a % ((R+1:Nat):Int):=Int.emod_nonneg _ (by omega)
 have g2:IntKind.u64.wrap a % ((R+1:Nat):Int)<((R+1:Nat):Int):=Int.emod_lt_of_pos _ (by omega)
 refine⟨((IntKind.u64.wrap a).tmod ((R+1:Nat):Int)).toNat,?_,?_⟩
 · rw [Int.tmod_eq_emod_of_nonneg h];omega
 · rw [Int.tmod_eq_emod_of_nonneg h,w64 (by omega) (by omega)];omega
theorem keyD_cells {n r t w ns k x N:Nat} {f sp:Nat->Int} {C1 C2:Nat->Nat}:AV.agg (List.map (cellG ⟨26,N,fun i j=>fl0 k (dlG (DP n f r t w ns sp) C1 C2 i j)⟩ (0+(x:Int).toNat) (0+1)) (List.range 9))=ptA (PK n f x):=by
 rw [show 0+(x:Int).toNat=x by simp]
 rfl
theorem num_ij {i j:Nat} (hi:i<16) (hj:j<16):∃ k:Nat,k<w256/\AV.agg [.int .u64 (IntKind.u64.wrap (i:Int)),.int .u64 (IntKind.u64.wrap (j:Int)),.int .u64 0,.int .u64 0] = numA k:=by
 refine⟨i+18446744073709551616*j,Nat.lt_trans (show i+18446744073709551616*j<18446744073709551616*17 by omega) (by decide),?_⟩
 have h0:lim (i+18446744073709551616*j) 0=(i:Int):=by unfold lim;rw [show (18446744073709551616:Nat) ^ 0=1 from rfl];omega
 have h1:lim (i+18446744073709551616*j) 1=(j:Int):=by unfold lim;rw [show (18446744073709551616:Nat) ^ 1=18446744073709551616 from rfl];omega
 have h2:lim (i+18446744073709551616*j) 2=0:=by
  unfold lim
  rw [Nat.div_eq_of_lt (Nat.lt_trans (show i+18446744073709551616*j<18446744073709551616*17 by omega) (by decide))];rfl
 have h3:lim (i+18446744073709551616*j) 3=0:=by
  unfold lim
  rw [Nat.div_eq_of_lt (Nat.lt_trans (show i+18446744073709551616*j<18446744073709551616*17 by omega) (by decide))];rfl
 rw [show IntKind.u64.wrap (i:Int)=i by rw [IntKind.wrap_u64];omega,show IntKind.u64.wrap (j:Int)=j by rw [IntKind.wrap_u64];omega]
 show _=AV.agg [.int .u64 (lim _ 0),.int .u64 (lim _ 1),.int .u64 (lim _ 2),.int .u64 (lim _ 3)]
 rw [h0,h1,h2,h3]
theorem S_JFitsE {m:Mem} {x v:AV} {K:AV->Mem->Prop} {r:Nat} {D:Nat->Dl} {i j:Int} {ki:Bool} {kx ky:Nat} (hv:v=rawA ki kx ky) (hx:cZ m x r D) (hr:r<=1000000) (hD:∀ k,k<r->OkD (D k)) (hkx:kx<w256) (hky:ky<w256)
 (h:∀ b e,FitE r D i j ki kx ky b e->K (.tup [.bool b,.int .i64 e]) m):ACall Pg iI [x,.int .i64 i,.int .i64 j,v] m K:=by
 subst hv;exact S_JFits hx hr hD hkx hky h
theorem S_VerdictE {m:Mem} {x v u:AV} {K:AV->Mem->Prop} {r:Nat} {D:Nat->Dl} {i j:Int} {ki:Bool} {kx ky c s:Nat} (hv:v=rawA ki kx ky) (hu:u=prA c s) (hx:cZ m x r D) (hr:r<=1000000) (hD:∀ k,k<r->OkD (D k)) (hkx:kx<w256) (hky:ky<w256) (hc:c<w256) (hs:s<w256)
 (h:∀ e,VerE r D i j ki kx ky c s e->K (.int .i64 e) m):ACall Pg bF [x,.int .i64 i,.int .i64 j,v,u] m K:=by
 subst hv hu;exact vC hx hr hD hkx hky hc hs h
set_option maxHeartbeats 1000000 in
theorem S_JudgeTrue (n0 t0 whom:Int) (n cap ns cs:Nat) (f sp:Nat->Int) (hf:∀ i,i<n->0<=f i/\f i<=255):
    ACall Pg hZ [.int .i64 n0,.int .i64 t0,.vsl 1 n cap (aB f),.vsl 1 ns cs (fR sp),.int .i64 whom] [] (fun v _=>v= .bool true):=by
  obtain⟨R,hR,eR0⟩:=mod3 n0
  obtain⟨t,ht,et⟩:=mod3 t0
  have eR:IntKind.i64.wrap (2+IntKind.i64.wrap ((IntKind.u64.wrap n0).tmod 3))=((R+2:Nat):Int):=by rw [eR0,w64 (by omega) (by omega)];omega
  obtain⟨w,hwR,hw⟩:=modR whom R hR
  have e7:IntKind.u64.wrap (IntKind.i64.wrap (((R+2:Nat):Int) - 1))=((R+1:Nat):Int):=by
    have:R=0\/R=1\/R=2:=by omega
    rcases this with rfl | rfl | rfl <;> decide
  have e8:(((R+1:Nat):Int) == 0)=false:=by simp;omega
  refine qI ⟨rfl,?_⟩
  conv=>whnf
  repeat (refine⟨⟨_,rfl⟩,?_⟩;conv=>whnf)
  refine aE (fun h1=> ?_) (fun h1=> ?_)
  · conv=>whnf
    repeat (refine⟨⟨_,rfl⟩,?_⟩;conv=>whnf)
    refine aE (fun h2=> ?_) (fun h2=> ?_)
    · conv=>whnf
      repeat (refine⟨⟨_,rfl⟩,?_⟩;conv=>whnf)
    have hn:n<=50:=by simp at h1;omega
    have hns:ns<=10:=by simp at h2;omega
    conv=>whnf
    repeat (refine⟨⟨_,rfl⟩,?_⟩;conv=>whnf)
    rw [eR,et]
    refine S_Posted (R:=R) (t:=t) rfl rfl hR (by omega) (by omega) (by omega) hf hw hwR (fun c C1 C2=> ?_)
    conv=>whnf
    repeat (refine⟨⟨_,rfl⟩,?_⟩;conv=>whnf)
    refine aE (fun _=> ?_) (fun _ h=>absurd h (by omega))
    conv=>whnf
    repeat (refine⟨⟨_,rfl⟩,?_⟩;conv=>whnf)
    refine aR aH (I:=fun q l m=>∃ i:Nat,1<=i/\q+i=R+3/\l= [(0,.int .i64 (R+2:Nat)),(2,.vsl 1 n cap (aB f)),(3,.vsl 1 ns cs (fR sp)),(4,.int .i64 whom),(11,.sl 0 0 (R+2) c),(12,.int .i64 i)] /\ m= [some ⟨26,R+2,dlG (DP n f (R+2) t w ns sp) C1 C2⟩]) (R+2)
      (l0:= [(0,.int .i64 (R+2:Nat)),(2,.vsl 1 n cap (aB f)),(3,.vsl 1 ns cs (fR sp)),(4,.int .i64 whom),(11,.sl 0 0 (R+2) c),(12,.int .i64 (1:Nat))]) (m0:= [some ⟨26,R+2,dlG (DP n f (R+2) t w ns sp) C1 C2⟩]) [some 0] ⟨1,Nat.le_refl _,rfl,rfl,rfl⟩ ?_ ?_
    · exact .mk0 ⟨Flat.i rfl,.eq _ _ rfl aO,.eq _ _ rfl (.vsl _ _ _ _ rfl fun _ _ _ _=> .int _ _),Flat.i rfl,.sl _ _ _ _ _ rfl,Flat.i rfl,trivial⟩ ⟨.old 0 0 _ _ rfl rfl ⟨rfl,Nat.le_refl _,fun i j hi hj=>RV.of rfl (by dsimp only;exact bU)⟩,trivial⟩ rfl rfl
    · rintro q l m ⟨i,hi1,hq,rfl,rfl⟩
      conv=>whnf
      repeat (refine⟨⟨_,rfl⟩,?_⟩;conv=>whnf)
      refine aE (fun hb=> ?_) (fun hb=> ?_)
      · have hi2:i<=R+2:=by simp at hb;omega
        conv=>whnf
        repeat (refine⟨⟨_,rfl⟩,?_⟩;conv=>whnf)
        refine aR aH (I:=fun q l m=>∃ j:Nat,1<=j/\q+j=R+3/\l= [(0,.int .i64 (R+2:Nat)),(2,.vsl 1 n cap (aB f)),(3,.vsl 1 ns cs (fR sp)),(4,.int .i64 whom),(11,.sl 0 0 (R+2) c),(12,.int .i64 i),(13,.int .i64 j)] /\ m= [some ⟨26,R+2,dlG (DP n f (R+2) t w ns sp) C1 C2⟩]) (R+2)
          (l0:= [(0,.int .i64 (R+2:Nat)),(2,.vsl 1 n cap (aB f)),(3,.vsl 1 ns cs (fR sp)),(4,.int .i64 whom),(11,.sl 0 0 (R+2) c),(12,.int .i64 i),(13,.int .i64 (1:Nat))]) (m0:= [some ⟨26,R+2,dlG (DP n f (R+2) t w ns sp) C1 C2⟩]) [some 0] ⟨1,Nat.le_refl _,rfl,rfl,rfl⟩ ?_ ?_
        · exact .mk0 ⟨Flat.i rfl,.eq _ _ rfl aO,.eq _ _ rfl (.vsl _ _ _ _ rfl fun _ _ _ _=> .int _ _),Flat.i rfl,.sl _ _ _ _ _ rfl,Flat.i rfl,Flat.i rfl,trivial⟩ ⟨.old 0 0 _ _ rfl rfl ⟨rfl,Nat.le_refl _,fun i j hi hj=>RV.of rfl (by dsimp only;exact bU)⟩,trivial⟩ rfl rfl
        · rintro q2 l m ⟨j,hj1,hq2,rfl,rfl⟩
          conv=>whnf
          repeat (refine⟨⟨_,rfl⟩,?_⟩;conv=>whnf)
          refine aE (fun hb2=> ?_) (fun hb2=> ?_)
          · have hj2:j<=R+2:=by simp at hb2;omega
            have e5:IntKind.i64.wrap ((j:Int)+1)=((j+1:Nat):Int):=by rw [w64 (by omega) (by omega)];omega
            conv=>whnf
            repeat (refine⟨⟨_,rfl⟩,?_⟩;conv=>whnf)
            refine aE (fun hb3=> ?_) (fun hb3=> ?_)
            · conv=>whnf
              repeat (refine⟨⟨_,rfl⟩,?_⟩;conv=>whnf)
              exact⟨q2 - 1,[(0,.int .i64 (R+2:Nat)),(2,.vsl 1 n cap (aB f)),(3,.vsl 1 ns cs (fR sp)),(4,.int .i64 whom),(11,.sl 0 0 (R+2) c),(12,.int .i64 i),(13,.int .i64 ((j+1:Nat):Int))],[some ⟨26,R+2,dlG (DP n f (R+2) t w ns sp) C1 C2⟩],[some 0],by omega,⟨j+1,by omega,by omega,rfl,rfl⟩,.mk0 ⟨Flat.i rfl,.eq _ _ rfl aO,.eq _ _ rfl (.vsl _ _ _ _ rfl fun _ _ _ _=> .int _ _),Flat.i rfl,.sl _ _ _ _ _ rfl,Flat.i rfl,Flat.i e5,trivial⟩ ⟨.old 0 0 _ _ rfl rfl ⟨rfl,Nat.le_refl _,fun i j hi hj=>RV.of rfl (by dsimp only;exact bU)⟩,trivial⟩ rfl rfl⟩
            · have hij:i ≠ j:=by simp at hb3;omega
              have hok:=pl_ok hi1 hj1 hij hi2 hj2 hR
              have hpl:(plN i j == (w:Int))=decide ((plN i j).toNat=w):=by
                have:=(kR hok).2.2.2.2.2.1
                rw [Bool.eq_iff_iff];simp only [beq_iff_eq,decide_eq_true_eq];omega
              have eim:IntKind.i64.wrap ((i:Int) - 1)=((i - 1:Nat):Int):=by rw [w64 (by omega) (by omega)];omega
              have ejm:IntKind.i64.wrap ((j:Int) - 1)=((j - 1:Nat):Int):=by rw [w64 (by omega) (by omega)];omega
              conv=>whnf
              repeat (refine⟨⟨_,rfl⟩,?_⟩;conv=>whnf)
              refine aR aH (I:=fun q l m=>∃ kk:Nat,q+kk=ns/\l= [(0,.int .i64 (R+2:Nat)),(2,.vsl 1 n cap (aB f)),(3,.vsl 1 ns cs (fR sp)),(4,.int .i64 whom),(11,.sl 0 0 (R+2) c),(12,.int .i64 i),(13,.int .i64 j),(14,.bool (parB sp (i - 1) kk && decide ((plN i j).toNat=w))),(15,.int .i64 kk)] /\ m= [some ⟨26,R+2,dlG (DP n f (R+2) t w ns sp) C1 C2⟩]) ns
                (l0:= [(0,.int .i64 (R+2:Nat)),(2,.vsl 1 n cap (aB f)),(3,.vsl 1 ns cs (fR sp)),(4,.int .i64 whom),(11,.sl 0 0 (R+2) c),(12,.int .i64 i),(13,.int .i64 j),(14,.bool false),(15,.int .i64 (0:Nat))]) (m0:= [some ⟨26,R+2,dlG (DP n f (R+2) t w ns sp) C1 C2⟩]) [some 0] ⟨0,rfl,rfl,rfl⟩ ?_ ?_
              · exact .mk0 ⟨Flat.i rfl,.eq _ _ rfl aO,.eq _ _ rfl (.vsl _ _ _ _ rfl fun _ _ _ _=> .int _ _),Flat.i rfl,.sl _ _ _ _ _ rfl,Flat.i rfl,Flat.i rfl,.eq _ _ rfl (.bool _),Flat.i rfl,trivial⟩ ⟨.old 0 0 _ _ rfl rfl ⟨rfl,Nat.le_refl _,fun i j hi hj=>RV.of rfl (by dsimp only;exact bU)⟩,trivial⟩ rfl rfl
              · rintro q3 l m ⟨kk,hq3,rfl,rfl⟩
                have e6:IntKind.i64.wrap ((kk:Int)+1)=((kk+1:Nat):Int):=by rw [w64 (by omega) (by omega)];omega
                conv=>whnf
                repeat (refine⟨⟨_,rfl⟩,?_⟩;conv=>whnf)
                refine aE (fun hb4=> ?_) (fun hb4=> ?_)
                · have hb4:kk<ns:=by simp at hb4;omega
                  conv=>whnf
                  repeat (refine⟨⟨_,rfl⟩,?_⟩;conv=>whnf)
                  refine aA (by simp only [Bool.and_eq_true,decide_eq_true_eq];omega) ?_
                  conv=>whnf
                  repeat (refine⟨⟨_,rfl⟩,?_⟩;conv=>whnf)
                  refine aE (fun hb5=> ?_) (fun hb5=> ?_)
                  · have hb5:sp kk=((i - 1:Nat):Int):=by rw [<- eim];simpa using hb5
                    conv=>whnf
                    repeat (refine⟨⟨_,rfl⟩,?_⟩;conv=>whnf)
                    refine aA (by rw [e7,e8];rfl) ?_
                    conv=>whnf
                    repeat (refine⟨⟨_,rfl⟩,?_⟩;conv=>whnf)
                    refine aBy (fun _ p hp=> ?_) (fun h=>absurd (h.symm.trans hok) (by simp))
                    conv=>whnf
                    repeat (refine⟨⟨_,rfl⟩,?_⟩;conv=>whnf)
                    refine⟨q3 - 1,[(0,.int .i64 (R+2:Nat)),(2,.vsl 1 n cap (aB f)),(3,.vsl 1 ns cs (fR sp)),(4,.int .i64 whom),(11,.sl 0 0 (R+2) c),(12,.int .i64 i),(13,.int .i64 j),(14,.bool (parB sp (i - 1) (kk+1) && decide ((plN i j).toNat=w))),(15,.int .i64 ((kk+1:Nat):Int))],[some ⟨26,R+2,dlG (DP n f (R+2) t w ns sp) C1 C2⟩],[some 0],by omega,⟨kk+1,by omega,rfl,rfl⟩,.mk0 ⟨Flat.i rfl,.eq _ _ rfl aO,.eq _ _ rfl (.vsl _ _ _ _ rfl fun _ _ _ _=> .int _ _),Flat.i rfl,.sl _ _ _ _ _ rfl,Flat.i rfl,Flat.i rfl,.eq _ _ ?_ (.bool _),Flat.i e6,trivial⟩ ⟨.old 0 0 _ _ rfl rfl ⟨rfl,Nat.le_refl _,fun i j hi hj=>RV.of rfl (by dsimp only;exact bU)⟩,trivial⟩ rfl rfl⟩
                    rw [parB_true hb5,hp]
                    conv=>lhs;whnf
                    rw [hw,hpl]
                    cases parB sp (i - 1) kk <;> cases decide ((plN ↑i ↑j).toNat=w) <;> rfl
                  · have hb5:¬ sp kk=((i - 1:Nat):Int):=by rw [<- eim];simpa using hb5
                    conv=>whnf
                    repeat (refine⟨⟨_,rfl⟩,?_⟩;conv=>whnf)
                    refine⟨q3 - 1,[(0,.int .i64 (R+2:Nat)),(2,.vsl 1 n cap (aB f)),(3,.vsl 1 ns cs (fR sp)),(4,.int .i64 whom),(11,.sl 0 0 (R+2) c),(12,.int .i64 i),(13,.int .i64 j),(14,.bool (parB sp (i - 1) (kk+1) && decide ((plN i j).toNat=w))),(15,.int .i64 ((kk+1:Nat):Int))],[some ⟨26,R+2,dlG (DP n f (R+2) t w ns sp) C1 C2⟩],[some 0],by omega,⟨kk+1,by omega,rfl,rfl⟩,.mk0 ⟨Flat.i rfl,.eq _ _ rfl aO,.eq _ _ rfl (.vsl _ _ _ _ rfl fun _ _ _ _=> .int _ _),Flat.i rfl,.sl _ _ _ _ _ rfl,Flat.i rfl,Flat.i rfl,.eq _ _ ?_ (.bool _),Flat.i e6,trivial⟩ ⟨.old 0 0 _ _ rfl rfl ⟨rfl,Nat.le_refl _,fun i j hi hj=>RV.of rfl (by dsimp only;exact bU)⟩,trivial⟩ rfl rfl⟩
                    rw [wP hb5]
                    conv=>lhs;whnf
                    cases parB sp (i - 1) kk <;> cases decide ((plN ↑i ↑j).toNat=w) <;> rfl
                · have hb4:kk=ns:=by simp at hb4;omega
                  subst hb4
                  conv=>whnf
                  repeat (refine⟨⟨_,rfl⟩,?_⟩;conv=>whnf)
                  refine vD (n:=n) (f:=f) bA.vsl (by omega) (fun cap1=> ?_)
                  conv=>whnf
                  repeat (refine⟨⟨_,rfl⟩,?_⟩;conv=>whnf)
                  refine aA (bM (by first | rfl | simp) rfl rfl (by omega) (by omega)) (fun cap2 hcap2=> ?_)
                  conv=>whnf
                  repeat (refine⟨⟨_,rfl⟩,?_⟩;conv=>whnf)
                  refine iY (n:=n+1) (f:=sdF n f (j - 1)) (bA.slG rfl (Nat.le_of_eq (Nat.zero_add _)) fun i hi=> ?_) (by omega) (sH hf (by omega)) (fun a ha ha1 _=> ?_)
                  · rw [show 0+i=i from Nat.zero_add i]
                    exact nF (by omega) hi rfl (by rw [<- ejm];rfl)
                  conv=>whnf
                  repeat (refine⟨⟨_,rfl⟩,?_⟩;conv=>whnf)
                  rw [eim]
                  refine aA (by simp only [Bool.and_eq_true,decide_eq_true_eq];omega) ?_
                  conv=>whnf
                  repeat (refine⟨⟨_,rfl⟩,?_⟩;conv=>whnf)
                  rw [keyD_cells]
                  refine aA (by simp [bI,Nat.ble_eq];omega) ?_
                  conv=>whnf
                  repeat (refine⟨⟨_,rfl⟩,?_⟩;conv=>whnf)
                  refine kU (n:=a) (P:=PK n f (i - 1)) rfl rfl (Nat.lt_trans ha1 (by decide)) jT (fun Q oQ hQ=> ?_)
                  have hQK:Q=KS n f i j:=by rw [hQ,ha];rfl
                  conv=>whnf
                  repeat (refine⟨⟨_,rfl⟩,?_⟩;conv=>whnf)
                  refine S_JFitsE (r:=R+2) (D:=DP n f (R+2) t w kk sp) (i:=(i:Int)) (j:=(j:Int)) (ki:=isI Q) (kx:=xN Q) (ky:=yN Q) rfl (cZ.own rfl (Nat.le_refl _)) (by omega) (fun k _=>qR (by omega) (by omega)) (xN_w _) (yN_w _) (fun b e hfit=> ?_)
                  obtain⟨rfl,hb6⟩:=fit_DP hi1 hj1 hij hi2 hj2 hR (by omega) (hQK ▸ hfit)
                  conv=>whnf
                  repeat (refine⟨⟨_,rfl⟩,?_⟩;conv=>whnf)
                  rw [eim]
                  refine aA (by simp only [Bool.and_eq_true,decide_eq_true_eq];omega) ?_
                  conv=>whnf
                  repeat (refine⟨⟨_,rfl⟩,?_⟩;conv=>whnf)
                  rw [keyD_cells]
                  refine aA (by simp [bI,Nat.ble_eq];omega) ?_
                  conv=>whnf
                  repeat (refine⟨⟨_,rfl⟩,?_⟩;conv=>whnf)
                  obtain⟨k0,hk0,ek0⟩:=num_ij (i:=i) (j:=j) (by omega) (by omega)
                  refine nY (s:=a) (k:=k0) (b:=PK n f (i - 1)) rfl ?_ rfl (Nat.lt_trans ha1 (by decide)) hk0 jT (fun c1 r1 hc1 hr1 hcn hrn=> ?_)
                  · exact ek0
                  conv=>whnf
                  repeat (refine⟨⟨_,rfl⟩,?_⟩;conv=>whnf)
                  have hho:hoB (PK n f (j - 1)) (PK n f (i - 1)) (KS n f i j) c1 r1=true:=by
                    rw [hr1,hc1,ha]
                    exact hoB_prf jT
                  refine S_VerdictE (r:=R+2) (D:=DP n f (R+2) t w kk sp) (i:=(i:Int)) (j:=(j:Int)) (ki:=isI Q) (kx:=xN Q) (ky:=yN Q) (c:=c1) (s:=r1) rfl rfl (cZ.own rfl (Nat.le_refl _)) (by omega) (fun k _=>qR (by omega) (by omega)) (xN_w _) (yN_w _) (Nat.lt_trans hcn (by decide)) (Nat.lt_trans hrn (by decide)) (fun e hver=> ?_)
                  have he:=ver_DP hi1 hj1 hij hi2 hj2 hR (by omega) hho (hQK ▸ hver)
                  cases hB:(parB sp (i - 1) kk && decide ((plN i j).toNat=w))with
                  | false =>
                    rw [hB]at hb6 he
                    obtain rfl:b=true:=hb6
                    obtain rfl:e=13:=he
                    conv=>whnf
                    repeat (refine⟨⟨_,rfl⟩,?_⟩;conv=>whnf)
                    exact⟨q2 - 1,[(0,.int .i64 (R+2:Nat)),(2,.vsl 1 n cap (aB f)),(3,.vsl 1 kk cs (fR sp)),(4,.int .i64 whom),(11,.sl 0 0 (R+2) c),(12,.int .i64 i),(13,.int .i64 ((j+1:Nat):Int))],[some ⟨26,R+2,dlG (DP n f (R+2) t w kk sp) C1 C2⟩],[some 0],by omega,⟨j+1,by omega,by omega,rfl,rfl⟩,.mk0 ⟨Flat.i rfl,.eq _ _ rfl aO,.eq _ _ rfl (.vsl _ _ _ _ rfl fun _ _ _ _=> .int _ _),Flat.i rfl,.sl _ _ _ _ _ rfl,Flat.i rfl,Flat.i e5,trivial⟩ ⟨.old 0 0 _ _ rfl rfl ⟨rfl,Nat.le_refl _,fun i j hi hj=>RV.of rfl (by dsimp only;exact bU)⟩,trivial⟩ rfl rfl⟩
                  | true =>
                    rw [hB]at hb6 he
                    obtain rfl:b=false:=hb6
                    obtain rfl:e=0:=he
                    conv=>whnf
                    repeat (refine⟨⟨_,rfl⟩,?_⟩;conv=>whnf)
                    exact⟨q2 - 1,[(0,.int .i64 (R+2:Nat)),(2,.vsl 1 n cap (aB f)),(3,.vsl 1 kk cs (fR sp)),(4,.int .i64 whom),(11,.sl 0 0 (R+2) c),(12,.int .i64 i),(13,.int .i64 ((j+1:Nat):Int))],[some ⟨26,R+2,dlG (DP n f (R+2) t w kk sp) C1 C2⟩],[some 0],by omega,⟨j+1,by omega,by omega,rfl,rfl⟩,.mk0 ⟨Flat.i rfl,.eq _ _ rfl aO,.eq _ _ rfl (.vsl _ _ _ _ rfl fun _ _ _ _=> .int _ _),Flat.i rfl,.sl _ _ _ _ _ rfl,Flat.i rfl,Flat.i e5,trivial⟩ ⟨.old 0 0 _ _ rfl rfl ⟨rfl,Nat.le_refl _,fun i j hi hj=>RV.of rfl (by dsimp only;exact bU)⟩,trivial⟩ rfl rfl⟩
          · have hj2:j=R+3:=by simp at hb2;omega
            have e5:IntKind.i64.wrap ((i:Int)+1)=((i+1:Nat):Int):=by rw [w64 (by omega) (by omega)];omega
            conv=>whnf
            repeat (refine⟨⟨_,rfl⟩,?_⟩;conv=>whnf)
            exact⟨q - 1,[(0,.int .i64 (R+2:Nat)),(2,.vsl 1 n cap (aB f)),(3,.vsl 1 ns cs (fR sp)),(4,.int .i64 whom),(11,.sl 0 0 (R+2) c),(12,.int .i64 ((i+1:Nat):Int))],[some ⟨26,R+2,dlG (DP n f (R+2) t w ns sp) C1 C2⟩],[some 0],by omega,⟨i+1,by omega,by omega,rfl,rfl⟩,.mk0 ⟨Flat.i rfl,.eq _ _ rfl aO,.eq _ _ rfl (.vsl _ _ _ _ rfl fun _ _ _ _=> .int _ _),Flat.i rfl,.sl _ _ _ _ _ rfl,Flat.i e5,trivial⟩ ⟨.old 0 0 _ _ rfl rfl ⟨rfl,Nat.le_refl _,fun i j hi hj=>RV.of rfl (by dsimp only;exact bU)⟩,trivial⟩ rfl rfl⟩
      · have hi2:i=R+3:=by simp at hb;omega
        conv=>whnf
        repeat (refine⟨⟨_,rfl⟩,?_⟩;conv=>whnf)
        refine iH ?_
        conv=>whnf
        repeat (refine⟨⟨_,rfl⟩,?_⟩;conv=>whnf)
  · conv=>whnf
    repeat (refine⟨⟨_,rfl⟩,?_⟩;conv=>whnf)
theorem S_row_JudgeTrue (avs:List AV) (h:okVs [.int .i64,.int .i64,.sl 1 (.int .u8),.sl 1 (.int .i64),.int .i64] avs):∃ avs',iZ avs avs'/\ACall Pg hZ avs' [] (fun x _=>x= .bool true):=by
 obtain⟨v1,_,rfl,h1,v2,_,rfl,h2,v3,_,rfl,h3,v4,_,rfl,h4,v5,_,rfl,h5,rfl⟩:=h
 obtain⟨n0,rfl,_,_⟩:=ok_int h1
 obtain⟨t0,rfl,_,_⟩:=ok_int h2
 obtain⟨n,cap,f,r3,_,_,hf⟩:=ok_bytes h3
 obtain⟨ns,cs,sp,r4,_,_,_⟩:=ok_ints h4
 obtain⟨x,rfl,_,_⟩:=ok_int h5
 exact⟨_,.cons (cR.refl _) (.cons (cR.refl _) (.cons r3 (.cons r4 (.cons (cR.refl _) .nil)))),S_JudgeTrue n0 t0 x n cap ns cs f sp hf⟩
end Go.Proofs.YtfolpdmbpbbimaaGreat
end

section
namespace Go.Proofs.YtfolpdmbpbbimaaGreat
open Go Go.Wit
theorem bad51:Bad false 5 1:=by
  intro P oP e
  obtain⟨h1,h2,h3⟩:=kZ (by decide) (by decide) (xN_w P) (yN_w P) e
  cases P with
  | inf=>cases h1
  | aff x y =>
    have hx:x=(5:Fp):=Fin.ext (h2.symm.trans (by decide +kernel))
    have hy:y=(1:Fp):=Fin.ext (h3.symm.trans (by decide +kernel))
    subst hx hy
    exact absurd (show (1:Fp)*1=5*5*5+7 from oP) (by decide +kernel)
theorem dM {m:Mem} {x v u:AV} {K:AV->Mem->Prop} {r:Nat} {D:Nat->Dl} {i j:Int} {ki:Bool} {kx ky c s:Nat} (hv:v=rawA ki kx ky) (hu:u=prA c s) (hx:cZ m x r D) (hr:r<=1000000) (hD:∀ k,k<r->OkD (D k)) (hkx:kx<w256) (hky:ky<w256) (hc:c<w256) (hs:s<w256)
 (h:∀ e,VerE r D i j ki kx ky c s e->K (.int .i64 e) m):ACall Pg bF [x,.int .i64 i,.int .i64 j,v,u] m K:=by
 subst hv hu;exact vC hx hr hD hkx hky hc hs h
theorem raw51:AV.agg [.bool false,.int .u64 5,.int .u64 0,.int .u64 0,.int .u64 0,.int .u64 1,.int .u64 0,.int .u64 0,.int .u64 0] = rawA false 5 1:=by
 show _=AV.agg [.bool false,.int .u64 (lim 5 0),.int .u64 (lim 5 1),.int .u64 (lim 5 2),.int .u64 (lim 5 3),.int .u64 (lim 1 0),.int .u64 (lim 1 1),.int .u64 (lim 1 2),.int .u64 (lim 1 3)]
 rw [show lim 5 0=5 by decide,show lim 5 1=0 by decide,show lim 5 2=0 by decide,show lim 5 3=0 by decide,show lim 1 0=1 by decide,show lim 1 1=0 by decide,show lim 1 2=0 by decide,show lim 1 3=0 by decide]
noncomputable def unP (D:Nat->Dl) (k:Nat):Dl:=if k=0 then {D k with ps:=false} else D k
theorem shows_un {m:Mem} {l r c N:Nat} {D:Nat->Dl} {c1 c2:Nat->Nat} (h:m[l]? = some (some ⟨26,N,updG ⟨26,N,dlG D c1 c2⟩ 0 12 1 [.bool false]⟩)) (hr:r<=N):cZ m (.sl l 0 r c) r (unP D):=by
 refine⟨c,c1,c2,?_⟩
 refine Lend.slR l 0 r c ⟨26,N,_⟩ _ (List.mem_range.2 (bJ h)) h (by show 0+r<=N;omega) (fun i j hi hj=> ?_)
 rw [Nat.zero_add]
 show Lend _ _ _ (updG ⟨26,N,dlG D c1 c2⟩ 0 12 1 [.bool false] i j) _
 rw [uC (by decide)]
 have e:(if i=0/\j=12 then AV.bool false else dlG D c1 c2 i j)=dlG (unP D) c1 c2 i j:=by
  unfold unP dlG
  by_cases hi0:i=0
  · subst hi0
    simp only [true_and,if_true]
    replace hj:j<26:=hj
    revert j
    exact lt26 rfl rfl rfl rfl rfl rfl rfl rfl rfl rfl rfl rfl rfl rfl rfl rfl rfl rfl rfl rfl rfl rfl rfl rfl rfl rfl
  · simp only [hi0,false_and,if_false]
 rw [e]
 exact aF bU
theorem ok_un {D:Nat->Dl} {k:Nat} (h:OkD (D k)):OkD (unP D k):=by
 unfold unP
 split <;> exact h
theorem S_RAddF {m:Mem} {x y:AV} {K:AV->Mem->Prop} {a b:Nat} (hx:x=numA a) (hy:y=numA b) (ha:a<w256) (hb:b<w256) (h:∀ s c:Nat,a+b=s+c*w256->s<w256->c<=1->K (.tup [numA s,.int .u64 c]) m):ACall Pg cP [x,y] m K:=by
 subst hx hy;exact S_RAdd ha hb h
theorem num5:AV.agg [.int .u64 5,.int .u64 0,.int .u64 0,.int .u64 0] = numA 5:=by
 show _=AV.agg [.int .u64 (lim 5 0),.int .u64 (lim 5 1),.int .u64 (lim 5 2),.int .u64 (lim 5 3)]
 rw [show lim 5 0=5 by decide,show lim 5 1=0 by decide,show lim 5 2=0 by decide,show lim 5 3=0 by decide]
set_option maxHeartbeats 1000000 in
theorem S_JudgeFalse (whom:Int) (n cap:Nat) (f:Nat->Int) (hf:∀ i,i<n->0<=f i/\f i<=255):
 ACall Pg gO [.vsl 1 n cap (aB f),.int .i64 whom] [] (fun v _=>v= .bool true):=by
 obtain⟨w,hwR,hw⟩:=modR whom 1 (by decide)
 refine pV ⟨rfl,?_⟩
 conv=>whnf
 repeat (refine⟨⟨_,rfl⟩,?_⟩;conv=>whnf)
 refine aE (fun h1=> ?_) (fun h1=> ?_)
 · conv=>whnf
   repeat (refine⟨⟨_,rfl⟩,?_⟩;conv=>whnf)
 · have hn:n<=50:=by simp at h1;omega
   conv=>whnf
   repeat (refine⟨⟨_,rfl⟩,?_⟩;conv=>whnf)
   refine S_PostedW (R:=1) (t:=1) (l0:=0) (Ns:=1) (ns:=1) (sp:=fun _=>0) rfl rfl rfl (fun i hi=>by have h:i=0:=(by omega);subst h;rfl) (by decide) (by decide) (by decide) (by omega) (by decide) hf hw hwR (fun c C1 C2=> ?_)
   conv=>whnf
   repeat (refine⟨⟨_,rfl⟩,?_⟩;conv=>whnf)
   refine aE (fun _=> ?_) (fun _ h=>absurd h (by omega))
   conv=>whnf
   repeat (refine⟨⟨_,rfl⟩,?_⟩;conv=>whnf)
   refine vD (n:=n) (f:=f) bA.vsl (by omega) (fun cap1=> ?_)
   conv=>whnf
   repeat (refine⟨⟨_,rfl⟩,?_⟩;conv=>whnf)
   refine aA (bM (by first | rfl | simp) rfl rfl (by omega) (by omega)) (fun cap2 hcap2=> ?_)
   conv=>whnf
   repeat (refine⟨⟨_,rfl⟩,?_⟩;conv=>whnf)
   refine iY (n:=n+1) (f:=sdF n f 1) (bA.slG rfl (Nat.le_of_eq (Nat.zero_add _)) fun i hi=> ?_) (by omega) (sH hf (by omega)) (fun a ha ha1 _=> ?_)
   · rw [show 0+i=i from Nat.zero_add i]
     exact nF (by omega) hi rfl rfl
   conv=>whnf
   repeat (refine⟨⟨_,rfl⟩,?_⟩;conv=>whnf)
   refine kU (n:=a) (P:=PK n f 0) rfl rfl (Nat.lt_trans ha1 (by decide)) jT (fun Q oQ hQ=> ?_)
   have hQK:Q=KS n f 1 2:=by rw [hQ,ha];rfl
   conv=>whnf
   repeat (refine⟨⟨_,rfl⟩,?_⟩;conv=>whnf)
   refine nY (s:=a) (k:=5) (b:=PK n f 0) rfl num5 rfl (Nat.lt_trans ha1 (by decide)) (by decide) jT (fun c1 r1 hc1 hr1 hcn hrn=> ?_)
   conv=>whnf
   repeat (refine⟨⟨_,rfl⟩,?_⟩;conv=>whnf)
   refine lL (fun nn hnn=> ?_)
   conv=>whnf
   repeat (refine⟨⟨_,rfl⟩,?_⟩;conv=>whnf)
   refine S_RAddF (a:=c1) (b:=nn) rfl rfl (Nat.lt_trans hcn (by decide)) (by rw [hnn];decide) (fun s cy hs hs1 hcy=> ?_)
   conv=>whnf
   repeat (refine⟨⟨_,rfl⟩,?_⟩;conv=>whnf)
   refine aE (fun hcy0=> ?_) (fun hcy0=> ?_)
   · have hcy0:cy=0:=by simpa using hcy0
     have hs2:nN<=s:=by rw [hcy0]at hs;omega
     conv=>whnf
     repeat (refine⟨⟨_,rfl⟩,?_⟩;conv=>whnf)
     refine dM (r:=3) (D:=DP n f 3 1 w 1 (fun _=>0)) (i:=1) (j:=2) (ki:=isI Q) (kx:=xN Q) (ky:=yN Q) (c:=s) (s:=r1) rfl rfl (cZ.own rfl (Nat.le_refl _)) (by omega) (fun k _=>qR (by omega) (by omega)) (xN_w _) (yN_w _) hs1 (Nat.lt_trans hrn (by decide)) (fun e hver=> ?_)
     obtain rfl:e=12:=ver_no (R:=1) (i:=1) (j:=2) (by decide) (by decide) (by decide) (by decide) (by decide) (by decide) (by decide) (hoB_big hs2) (hQK ▸ hver)
     conv=>whnf
     repeat (refine⟨⟨_,rfl⟩,?_⟩;conv=>whnf)
     refine dM (r:=3) (D:=DP n f 3 1 w 1 (fun _=>0)) (i:=1) (j:=1) (ki:=isI Q) (kx:=xN Q) (ky:=yN Q) (c:=c1) (s:=r1) rfl rfl (cZ.own rfl (Nat.le_refl _)) (by omega) (fun k _=>qR (by omega) (by omega)) (xN_w _) (yN_w _) (Nat.lt_trans hcn (by decide)) (Nat.lt_trans hrn (by decide)) (fun e hver=> ?_)
     obtain rfl:e=1:=ver_arg (by decide) hver
     conv=>whnf
     repeat (refine⟨⟨_,rfl⟩,?_⟩;conv=>whnf)
     refine dM (r:=3) (D:=DP n f 3 1 w 1 (fun _=>0)) (i:=1) (j:=4) (ki:=isI Q) (kx:=xN Q) (ky:=yN Q) (c:=c1) (s:=r1) rfl rfl (cZ.own rfl (Nat.le_refl _)) (by omega) (fun k _=>qR (by omega) (by omega)) (xN_w _) (yN_w _) (Nat.lt_trans hcn (by decide)) (Nat.lt_trans hrn (by decide)) (fun e hver=> ?_)
     obtain rfl:e=5:=aBh (by decide) (fun h=>absurd h.2.1 (by decide)) hver
     conv=>whnf
     repeat (refine⟨⟨_,rfl⟩,?_⟩;conv=>whnf)
     refine dM (r:=3) (D:=DP n f 3 1 w 1 (fun _=>0)) (i:=1) (j:=2) (ki:=false) (kx:=5) (ky:=1) (c:=c1) (s:=r1) ?_ rfl (cZ.own rfl (Nat.le_refl _)) (by omega) (fun k _=>qR (by omega) (by omega)) (by decide) (by decide) (Nat.lt_trans hcn (by decide)) (Nat.lt_trans hrn (by decide)) (fun e hver=> ?_)
     · exact Eq.trans rfl raw51
     obtain rfl:e=3:=ver_point (by decide) (has_DP (R:=1) (i:=1) (j:=2) (by decide) (by decide) (by decide) (by decide) (by decide) (by decide)) bad51 hver
     conv=>whnf
     repeat (refine⟨⟨_,rfl⟩,?_⟩;conv=>whnf)
     refine sM (r:=3) (D:=DP n f 3 1 w 1 (fun _=>0)) (d1:=C1) (d2:=C2) rfl (by decide) (by decide) (fun k _=>⟨by show 3 - 1<=20;decide,by show 1+1<=8;decide⟩) (fun c3 e1 e2=> ?_)
     conv=>whnf
     repeat (refine⟨⟨_,rfl⟩,?_⟩;conv=>whnf)
     refine dM (r:=3) (D:=unP (DP n f 3 1 w 1 (fun _=>0))) (i:=1) (j:=2) (ki:=isI Q) (kx:=xN Q) (ky:=yN Q) (c:=c1) (s:=r1) rfl rfl (shows_un rfl (Nat.le_refl _)) (by omega) (fun k _=>ok_un (qR (by omega) (by omega))) (xN_w _) (yN_w _) (Nat.lt_trans hcn (by decide)) (Nat.lt_trans hrn (by decide)) (fun e hver=> ?_)
     obtain rfl:e=5:=aBh (by decide) (fun h=>Bool.noConfusion (show false=true from h.2.2.1)) hver
     conv=>whnf
     repeat (refine⟨⟨_,rfl⟩,?_⟩;conv=>whnf)
     refine iH ?_
     conv=>whnf
     repeat (refine⟨⟨_,rfl⟩,?_⟩;conv=>whnf)
   · conv=>whnf
     repeat (refine⟨⟨_,rfl⟩,?_⟩;conv=>whnf)
     refine dM (r:=3) (D:=DP n f 3 1 w 1 (fun _=>0)) (i:=1) (j:=1) (ki:=isI Q) (kx:=xN Q) (ky:=yN Q) (c:=c1) (s:=r1) rfl rfl (cZ.own rfl (Nat.le_refl _)) (by omega) (fun k _=>qR (by omega) (by omega)) (xN_w _) (yN_w _) (Nat.lt_trans hcn (by decide)) (Nat.lt_trans hrn (by decide)) (fun e hver=> ?_)
     obtain rfl:e=1:=ver_arg (by decide) hver
     conv=>whnf
     repeat (refine⟨⟨_,rfl⟩,?_⟩;conv=>whnf)
     refine dM (r:=3) (D:=DP n f 3 1 w 1 (fun _=>0)) (i:=1) (j:=4) (ki:=isI Q) (kx:=xN Q) (ky:=yN Q) (c:=c1) (s:=r1) rfl rfl (cZ.own rfl (Nat.le_refl _)) (by omega) (fun k _=>qR (by omega) (by omega)) (xN_w _) (yN_w _) (Nat.lt_trans hcn (by decide)) (Nat.lt_trans hrn (by decide)) (fun e hver=> ?_)
     obtain rfl:e=5:=aBh (by decide) (fun h=>absurd h.2.1 (by decide)) hver
     conv=>whnf
     repeat (refine⟨⟨_,rfl⟩,?_⟩;conv=>whnf)
     refine dM (r:=3) (D:=DP n f 3 1 w 1 (fun _=>0)) (i:=1) (j:=2) (ki:=false) (kx:=5) (ky:=1) (c:=c1) (s:=r1) ?_ rfl (cZ.own rfl (Nat.le_refl _)) (by omega) (fun k _=>qR (by omega) (by omega)) (by decide) (by decide) (Nat.lt_trans hcn (by decide)) (Nat.lt_trans hrn (by decide)) (fun e hver=> ?_)
     · exact Eq.trans rfl raw51
     obtain rfl:e=3:=ver_point (by decide) (has_DP (R:=1) (i:=1) (j:=2) (by decide) (by decide) (by decide) (by decide) (by decide) (by decide)) bad51 hver
     conv=>whnf
     repeat (refine⟨⟨_,rfl⟩,?_⟩;conv=>whnf)
     refine sM (r:=3) (D:=DP n f 3 1 w 1 (fun _=>0)) (d1:=C1) (d2:=C2) rfl (by decide) (by decide) (fun k _=>⟨by show 3 - 1<=20;decide,by show 1+1<=8;decide⟩) (fun c3 e1 e2=> ?_)
     conv=>whnf
     repeat (refine⟨⟨_,rfl⟩,?_⟩;conv=>whnf)
     refine dM (r:=3) (D:=unP (DP n f 3 1 w 1 (fun _=>0))) (i:=1) (j:=2) (ki:=isI Q) (kx:=xN Q) (ky:=yN Q) (c:=c1) (s:=r1) rfl rfl (shows_un rfl (Nat.le_refl _)) (by omega) (fun k _=>ok_un (qR (by omega) (by omega))) (xN_w _) (yN_w _) (Nat.lt_trans hcn (by decide)) (Nat.lt_trans hrn (by decide)) (fun e hver=> ?_)
     obtain rfl:e=5:=aBh (by decide) (fun h=>Bool.noConfusion (show false=true from h.2.2.1)) hver
     conv=>whnf
     repeat (refine⟨⟨_,rfl⟩,?_⟩;conv=>whnf)
     refine iH ?_
     conv=>whnf
     repeat (refine⟨⟨_,rfl⟩,?_⟩;conv=>whnf)
theorem zL (avs:List AV) (h:okVs [.sl 1 (.int .u8),.int .i64] avs):∃ avs',iZ avs avs'/\ACall Pg gO avs' [] (fun x _=>x= .bool true):=by
 obtain⟨v1,_,rfl,h1,v2,_,rfl,h2,rfl⟩:=h
 obtain⟨n,cap,f,r1,_,_,hf⟩:=ok_bytes h1
 obtain⟨x,rfl,_,_⟩:=ok_int h2
 exact⟨_,.cons r1 (.cons (cR.refl _) .nil),S_JudgeFalse x n cap f hf⟩
end Go.Proofs.YtfolpdmbpbbimaaGreat
end

section
namespace Go.Proofs.YtfolpdmbpbbimaaGreat
open Go Go.Wit
theorem num9:AV.agg [.int .u64 9,.int .u64 0,.int .u64 0,.int .u64 0] = numA 9:=by
 show _=AV.agg [.int .u64 (lim 9 0),.int .u64 (lim 9 1),.int .u64 (lim 9 2),.int .u64 (lim 9 3)]
 rw [show lim 9 0=9 by decide,show lim 9 1=0 by decide,show lim 9 2=0 by decide,show lim 9 3=0 by decide]
theorem ver_hold {r c s:Nat} {D:Nat->Dl} {i j e:Int} {A B Q:Pt Fp} (hA:rawA (D (i.toNat - 1)).i (D (i.toNat - 1)).x (D (i.toNat - 1)).y=ptA A) (hB:rawA (D (j.toNat - 1)).i (D (j.toNat - 1)).x (D (j.toNat - 1)).y=ptA B) (h:VerE r D i j (isI Q) (xN Q) (yN Q) c s e) (he:e=0):hoB B A Q c s=true:=by
 subst he
 obtain⟨b,e0,hf,h⟩:=h
 rcases h with⟨g1,g⟩ | ⟨_,_,g⟩ | ⟨_,A',B',P',oA,oB,oP,eA,eB,eP,g⟩
 · exact absurd g.symm g1
 · cases g
 · obtain rfl:A=A':=gE (hA.symm.trans eA)
   obtain rfl:B=B':=gE (hB.symm.trans eB)
   obtain rfl:Q=P':=gE eP
   by_cases hh:hoB B A Q c s=true
   · exact hh
   · rw [if_neg hh]at g;cases g
set_option maxHeartbeats 400000 in
theorem S_JudgeOthers (whom:Int) (n cap:Nat) (f:Nat->Int) (hf:∀ i,i<n->0<=f i/\f i<=255):
 ACall Pg gA [.vsl 1 n cap (aB f),.int .i64 whom] [] (fun v _=>v= .bool true):=by
 obtain⟨w,hwR,hw⟩:=modR whom 1 (by decide)
 have hw2:IntKind.i64.wrap ((IntKind.u64.wrap whom).tmod 2)=(w:Int):=hw
 refine pC ⟨rfl,?_⟩
 conv=>whnf
 repeat (refine⟨⟨_,rfl⟩,?_⟩;conv=>whnf)
 refine aE (fun h1=> ?_) (fun h1=> ?_)
 · conv=>whnf
   repeat (refine⟨⟨_,rfl⟩,?_⟩;conv=>whnf)
 · have hn:n<=50:=by simp at h1;omega
   conv=>whnf
   repeat (refine⟨⟨_,rfl⟩,?_⟩;conv=>whnf)
   refine S_PostedW (R:=1) (t:=1) (l0:=0) (Ns:=1) (ns:=1) (sp:=fun _=>0) rfl rfl rfl (fun i hi=>by have h:i=0:=(by omega);subst h;rfl) (by decide) (by decide) (by decide) (by omega) (by decide) hf hw hwR (fun c C1 C2=> ?_)
   conv=>whnf
   repeat (refine⟨⟨_,rfl⟩,?_⟩;conv=>whnf)
   refine aE (fun _=> ?_) (fun _ h=>absurd h (by omega))
   conv=>whnf
   repeat (refine⟨⟨_,rfl⟩,?_⟩;conv=>whnf)
   refine vD (n:=n) (f:=f) bA.vsl (by omega) (fun cap1=> ?_)
   conv=>whnf
   repeat (refine⟨⟨_,rfl⟩,?_⟩;conv=>whnf)
   refine aA (bM (by first | rfl | simp) rfl rfl (by omega) (by omega)) (fun cap2 hcap2=> ?_)
   conv=>whnf
   repeat (refine⟨⟨_,rfl⟩,?_⟩;conv=>whnf)
   rw [hw2]
   have hw01:w=0\/w=1:=by omega
   rcases hw01 with rfl | rfl
   · refine iY (n:=n+1) (f:=sdF n f 2) (bA.slG rfl (Nat.le_of_eq (Nat.zero_add _)) fun i hi=> ?_) (by omega) (sH hf (by omega)) (fun a ha ha1 _=> ?_)
     · rw [show 0+i=i from Nat.zero_add i]
       exact nF (by omega) hi rfl rfl
     conv=>whnf
     repeat (refine⟨⟨_,rfl⟩,?_⟩;conv=>whnf)
     refine kU (n:=a) (P:=PK n f 0) rfl rfl (Nat.lt_trans ha1 (by decide)) jT (fun Q oQ hQ=> ?_)
     have hQK:Q=KS n f 1 3:=by rw [hQ,ha];rfl
     conv=>whnf
     repeat (refine⟨⟨_,rfl⟩,?_⟩;conv=>whnf)
     refine nY (s:=a) (k:=9) (b:=PK n f 0) rfl num9 rfl (Nat.lt_trans ha1 (by decide)) (by decide) jT (fun c1 r1 hc1 hr1 hcn hrn=> ?_)
     conv=>whnf
     repeat (refine⟨⟨_,rfl⟩,?_⟩;conv=>whnf)
     have hho:hoB (PK n f (3 - 1)) (PK n f (1 - 1)) (KS n f 1 3) c1 r1=true:=by
      rw [hr1,hc1,ha]
      exact hoB_prf jT
     refine dM (r:=3) (D:=DP n f 3 1 0 1 (fun _=>0)) (i:=1) (j:=3) (ki:=isI Q) (kx:=xN Q) (ky:=yN Q) (c:=c1) (s:=r1) rfl rfl (cZ.own rfl (Nat.le_refl _)) (by omega) (fun k _=>qR (by omega) (by omega)) (xN_w _) (yN_w _) (Nat.lt_trans hcn (by decide)) (Nat.lt_trans hrn (by decide)) (fun e hver=> ?_)
     obtain rfl:e=13:=(ver_DP (R:=1) (i:=1) (j:=3) (by decide) (by decide) (by decide) (by decide) (by decide) (by decide) (by decide) hho (hQK ▸ hver)).trans (by decide)
     conv=>whnf
     repeat (refine⟨⟨_,rfl⟩,?_⟩;conv=>whnf)
     refine vD (n:=n) (f:=f) bA.vsl (by omega) (fun cap3=> ?_)
     conv=>whnf
     repeat (refine⟨⟨_,rfl⟩,?_⟩;conv=>whnf)
     refine aA (bM (by first | rfl | simp) rfl rfl (by omega) (by omega)) (fun cap4 hcap4=> ?_)
     conv=>whnf
     repeat (refine⟨⟨_,rfl⟩,?_⟩;conv=>whnf)
     refine iY (n:=n+1) (f:=sdF n f 1) (bA.slG rfl (Nat.le_of_eq (Nat.zero_add _)) fun i hi=> ?_) (by omega) (sH hf (by omega)) (fun a2 ha2 ha21 _=> ?_)
     · rw [show 0+i=i from Nat.zero_add i]
       exact nF (by omega) hi rfl rfl
     conv=>whnf
     repeat (refine⟨⟨_,rfl⟩,?_⟩;conv=>whnf)
     refine aE (fun _=> ?_) (fun _=> ?_)
     · conv=>whnf
       repeat (refine⟨⟨_,rfl⟩,?_⟩;conv=>whnf)
       refine iH ?_
       conv=>whnf
       repeat (refine⟨⟨_,rfl⟩,?_⟩;conv=>whnf)
     conv=>whnf
     repeat (refine⟨⟨_,rfl⟩,?_⟩;conv=>whnf)
     refine kU (n:=a2) (P:=PK n f 0) rfl rfl (Nat.lt_trans ha21 (by decide)) jT (fun Q2 oQ2 hQ2=> ?_)
     have hQK2:Q2=KS n f 1 2:=by rw [hQ2,ha2];rfl
     conv=>whnf
     repeat (refine⟨⟨_,rfl⟩,?_⟩;conv=>whnf)
     refine nY (s:=a2) (k:=9) (b:=PK n f 0) rfl num9 rfl (Nat.lt_trans ha21 (by decide)) (by decide) jT (fun c2 r2 hc2 hr2 hcn2 hrn2=> ?_)
     conv=>whnf
     repeat (refine⟨⟨_,rfl⟩,?_⟩;conv=>whnf)
     have hho2:hoB (PK n f (2 - 1)) (PK n f (1 - 1)) (KS n f 1 2) c2 r2=true:=by
      rw [hr2,hc2,ha2]
      exact hoB_prf jT
     refine dM (r:=3) (D:=DP n f 3 1 0 1 (fun _=>0)) (i:=1) (j:=2) (ki:=isI Q2) (kx:=xN Q2) (ky:=yN Q2) (c:=c2) (s:=r2) rfl rfl (cZ.own rfl (Nat.le_refl _)) (by omega) (fun k _=>qR (by omega) (by omega)) (xN_w _) (yN_w _) (Nat.lt_trans hcn2 (by decide)) (Nat.lt_trans hrn2 (by decide)) (fun e hver=> ?_)
     obtain rfl:e=0:=(ver_DP (R:=1) (i:=1) (j:=2) (by decide) (by decide) (by decide) (by decide) (by decide) (by decide) (by decide) hho2 (hQK2 ▸ hver)).trans (by decide)
     conv=>whnf
     repeat (refine⟨⟨_,rfl⟩,?_⟩;conv=>whnf)
     refine dM (r:=3) (D:=DP n f 3 1 0 1 (fun _=>0)) (i:=1) (j:=2) (ki:=isI Q) (kx:=xN Q) (ky:=yN Q) (c:=c1) (s:=r1) rfl rfl (cZ.own rfl (Nat.le_refl _)) (by omega) (fun k _=>qR (by omega) (by omega)) (xN_w _) (yN_w _) (Nat.lt_trans hcn (by decide)) (Nat.lt_trans hrn (by decide)) (fun e hver=> ?_)
     conv=>whnf
     repeat (refine⟨⟨_,rfl⟩,?_⟩;conv=>whnf)
     refine aE (fun he=> ?_) (fun he=> ?_)
     · have he:e=0:=by simpa using he
       subst he
       conv=>whnf
       repeat (refine⟨⟨_,rfl⟩,?_⟩;conv=>whnf)
       have eBi:0+(IntKind.i64.wrap (IntKind.i64.wrap (2+((0:Nat):Int)) - 1)).toNat=2 - 1:=by decide
       refine S_RHoldsD (a:=PK n f (0+(IntKind.i64.wrap (IntKind.i64.wrap (2+((0:Nat):Int)) - 1)).toNat)) (b:=PK n f 0) (k:=Q) (c:=c1) (r:=r1) rfl rfl rfl rfl (Nat.lt_trans hcn (by decide)) (Nat.lt_trans hrn (by decide)) jT jT oQ (fun x hx=> ?_)
       rw [eBi]at hx
       obtain rfl:x=true:=hx.trans (ver_hold (D:=DP n f 3 1 0 1 (fun _=>0)) (i:=1) (j:=2) (A:=PK n f 0) (B:=PK n f (2 - 1)) (Q:=Q) (c:=c1) (s:=r1) (DP_pt 0).2.1 (DP_pt (2 - 1)).2.1 hver rfl)
       conv=>whnf
       repeat (refine⟨⟨_,rfl⟩,?_⟩;conv=>whnf)
       refine iH ?_
       conv=>whnf
       repeat (refine⟨⟨_,rfl⟩,?_⟩;conv=>whnf)
     · conv=>whnf
       repeat (refine⟨⟨_,rfl⟩,?_⟩;conv=>whnf)
       refine iH ?_
       conv=>whnf
       repeat (refine⟨⟨_,rfl⟩,?_⟩;conv=>whnf)
   · refine iY (n:=n+1) (f:=sdF n f 1) (bA.slG rfl (Nat.le_of_eq (Nat.zero_add _)) fun i hi=> ?_) (by omega) (sH hf (by omega)) (fun a ha ha1 _=> ?_)
     · rw [show 0+i=i from Nat.zero_add i]
       exact nF (by omega) hi rfl rfl
     conv=>whnf
     repeat (refine⟨⟨_,rfl⟩,?_⟩;conv=>whnf)
     refine kU (n:=a) (P:=PK n f 0) rfl rfl (Nat.lt_trans ha1 (by decide)) jT (fun Q oQ hQ=> ?_)
     have hQK:Q=KS n f 1 2:=by rw [hQ,ha];rfl
     conv=>whnf
     repeat (refine⟨⟨_,rfl⟩,?_⟩;conv=>whnf)
     refine nY (s:=a) (k:=9) (b:=PK n f 0) rfl num9 rfl (Nat.lt_trans ha1 (by decide)) (by decide) jT (fun c1 r1 hc1 hr1 hcn hrn=> ?_)
     conv=>whnf
     repeat (refine⟨⟨_,rfl⟩,?_⟩;conv=>whnf)
     have hho:hoB (PK n f (2 - 1)) (PK n f (1 - 1)) (KS n f 1 2) c1 r1=true:=by
      rw [hr1,hc1,ha]
      exact hoB_prf jT
     refine dM (r:=3) (D:=DP n f 3 1 1 1 (fun _=>0)) (i:=1) (j:=2) (ki:=isI Q) (kx:=xN Q) (ky:=yN Q) (c:=c1) (s:=r1) rfl rfl (cZ.own rfl (Nat.le_refl _)) (by omega) (fun k _=>qR (by omega) (by omega)) (xN_w _) (yN_w _) (Nat.lt_trans hcn (by decide)) (Nat.lt_trans hrn (by decide)) (fun e hver=> ?_)
     obtain rfl:e=13:=(ver_DP (R:=1) (i:=1) (j:=2) (by decide) (by decide) (by decide) (by decide) (by decide) (by decide) (by decide) hho (hQK ▸ hver)).trans (by decide)
     conv=>whnf
     repeat (refine⟨⟨_,rfl⟩,?_⟩;conv=>whnf)
     refine vD (n:=n) (f:=f) bA.vsl (by omega) (fun cap3=> ?_)
     conv=>whnf
     repeat (refine⟨⟨_,rfl⟩,?_⟩;conv=>whnf)
     refine aA (bM (by first | rfl | simp) rfl rfl (by omega) (by omega)) (fun cap4 hcap4=> ?_)
     conv=>whnf
     repeat (refine⟨⟨_,rfl⟩,?_⟩;conv=>whnf)
     refine iY (n:=n+1) (f:=sdF n f 2) (bA.slG rfl (Nat.le_of_eq (Nat.zero_add _)) fun i hi=> ?_) (by omega) (sH hf (by omega)) (fun a2 ha2 ha21 _=> ?_)
     · rw [show 0+i=i from Nat.zero_add i]
       exact nF (by omega) hi rfl rfl
     conv=>whnf
     repeat (refine⟨⟨_,rfl⟩,?_⟩;conv=>whnf)
     refine aE (fun _=> ?_) (fun _=> ?_)
     · conv=>whnf
       repeat (refine⟨⟨_,rfl⟩,?_⟩;conv=>whnf)
       refine iH ?_
       conv=>whnf
       repeat (refine⟨⟨_,rfl⟩,?_⟩;conv=>whnf)
     conv=>whnf
     repeat (refine⟨⟨_,rfl⟩,?_⟩;conv=>whnf)
     refine kU (n:=a2) (P:=PK n f 0) rfl rfl (Nat.lt_trans ha21 (by decide)) jT (fun Q2 oQ2 hQ2=> ?_)
     have hQK2:Q2=KS n f 1 3:=by rw [hQ2,ha2];rfl
     conv=>whnf
     repeat (refine⟨⟨_,rfl⟩,?_⟩;conv=>whnf)
     refine nY (s:=a2) (k:=9) (b:=PK n f 0) rfl num9 rfl (Nat.lt_trans ha21 (by decide)) (by decide) jT (fun c2 r2 hc2 hr2 hcn2 hrn2=> ?_)
     conv=>whnf
     repeat (refine⟨⟨_,rfl⟩,?_⟩;conv=>whnf)
     have hho2:hoB (PK n f (3 - 1)) (PK n f (1 - 1)) (KS n f 1 3) c2 r2=true:=by
      rw [hr2,hc2,ha2]
      exact hoB_prf jT
     refine dM (r:=3) (D:=DP n f 3 1 1 1 (fun _=>0)) (i:=1) (j:=3) (ki:=isI Q2) (kx:=xN Q2) (ky:=yN Q2) (c:=c2) (s:=r2) rfl rfl (cZ.own rfl (Nat.le_refl _)) (by omega) (fun k _=>qR (by omega) (by omega)) (xN_w _) (yN_w _) (Nat.lt_trans hcn2 (by decide)) (Nat.lt_trans hrn2 (by decide)) (fun e hver=> ?_)
     obtain rfl:e=0:=(ver_DP (R:=1) (i:=1) (j:=3) (by decide) (by decide) (by decide) (by decide) (by decide) (by decide) (by decide) hho2 (hQK2 ▸ hver)).trans (by decide)
     conv=>whnf
     repeat (refine⟨⟨_,rfl⟩,?_⟩;conv=>whnf)
     refine dM (r:=3) (D:=DP n f 3 1 1 1 (fun _=>0)) (i:=1) (j:=3) (ki:=isI Q) (kx:=xN Q) (ky:=yN Q) (c:=c1) (s:=r1) rfl rfl (cZ.own rfl (Nat.le_refl _)) (by omega) (fun k _=>qR (by omega) (by omega)) (xN_w _) (yN_w _) (Nat.lt_trans hcn (by decide)) (Nat.lt_trans hrn (by decide)) (fun e hver=> ?_)
     conv=>whnf
     repeat (refine⟨⟨_,rfl⟩,?_⟩;conv=>whnf)
     refine aE (fun he=> ?_) (fun he=> ?_)
     · have he:e=0:=by simpa using he
       subst he
       conv=>whnf
       repeat (refine⟨⟨_,rfl⟩,?_⟩;conv=>whnf)
       have eBi:0+(IntKind.i64.wrap (IntKind.i64.wrap (2+((1:Nat):Int)) - 1)).toNat=3 - 1:=by decide
       refine S_RHoldsD (a:=PK n f (0+(IntKind.i64.wrap (IntKind.i64.wrap (2+((1:Nat):Int)) - 1)).toNat)) (b:=PK n f 0) (k:=Q) (c:=c1) (r:=r1) rfl rfl rfl rfl (Nat.lt_trans hcn (by decide)) (Nat.lt_trans hrn (by decide)) jT jT oQ (fun x hx=> ?_)
       rw [eBi]at hx
       obtain rfl:x=true:=hx.trans (ver_hold (D:=DP n f 3 1 1 1 (fun _=>0)) (i:=1) (j:=3) (A:=PK n f 0) (B:=PK n f (3 - 1)) (Q:=Q) (c:=c1) (s:=r1) (DP_pt 0).2.1 (DP_pt (3 - 1)).2.1 hver rfl)
       conv=>whnf
       repeat (refine⟨⟨_,rfl⟩,?_⟩;conv=>whnf)
       refine iH ?_
       conv=>whnf
       repeat (refine⟨⟨_,rfl⟩,?_⟩;conv=>whnf)
     · conv=>whnf
       repeat (refine⟨⟨_,rfl⟩,?_⟩;conv=>whnf)
       refine iH ?_
       conv=>whnf
       repeat (refine⟨⟨_,rfl⟩,?_⟩;conv=>whnf)
theorem xC (avs:List AV) (h:okVs [.sl 1 (.int .u8),.int .i64] avs):∃ avs',iZ avs avs'/\ACall Pg gA avs' [] (fun x _=>x= .bool true):=by
 obtain⟨v1,_,rfl,h1,v2,_,rfl,h2,rfl⟩:=h
 obtain⟨n,cap,f,r1,_,_,hf⟩:=ok_bytes h1
 obtain⟨x,rfl,_,_⟩:=ok_int h2
 exact⟨_,.cons r1 (.cons (cR.refl _) .nil),S_JudgeOthers x n cap f hf⟩
end Go.Proofs.YtfolpdmbpbbimaaGreat
end

section
namespace Go.Proofs.YtfolpdmbpbbimaaGreat.judgeOthers
open Go.ChangeShapes Go.WideShapes Go.ChangeAt Go.RowKit Go.Wit
theorem own:ownKnob Tryz.prog.godebug=none:=by kernel_rfl
theorem laid:laidOutB Tryz.prog=true:=by kernel_rfl
set_option maxRecDepth 100000 in
theorem lifted (os:Os) (started:os.Started) (H:Type) (enc:TypeId × Value->H):
 ReturnsInHanded {} Tryz.checked os 7 .any (Rows.judgeOthersSpec.pre6 enc Tryz.prog Tryz.f7 Rows.judgeOthersRow.domain false) (Rows.judgeOthersSpec.post enc Tryz.prog Tryz.f7 false true false false):=by
 refine returnsInHanded_of_change_sized (C:=Tryz.checked) own started (by kernel_rfl) Tryz.func7
  (ChangeSpec.witness6 (enc:=enc) (C:=Tryz.checked) false ⟨#[],#[.slice none 0 0,.int .i64 0],[]⟩ 12 (by kernel_rfl) (by kernel_rfl) (by kernel_rfl) (by kernel_rfl)) ?_
 intro W base args ds gs before hval0 hW hcnd hsz0 _
 have hval:∀ (j:Nat) t v,Tryz.f7.params[j]? = some t->args[j]? = some v->Value.okWide Tryz.prog W .any base t v:=hval0
 have hW':=hW
 obtain⟨p,q,hA0,hV,rfl,hfz,hnd⟩:=hW
 have hA:DataW.TrodAll enc Tryz.prog W 0 (fun _=>true) true Tryz.f7.params.toList args.toList ds p:=hA0
 obtain⟨rfl,rfl⟩:=trodVars_none hV
 have l0:ds.length=2:=uD hA
 obtain⟨d1,ds1,rfl,l1⟩:=dC l0
 obtain⟨d2,ds2,rfl,l2⟩:=dC l1
 obtain rfl:=rR l2
 refine(aBp (tys:= [.sl 1 (.int .u8),.int .i64]) (by kernel_rfl) (fun j t v h1 h2=>hval j t v (by simpa using h1) (by simpa using h2)) hA xC).mono fun e W' ⟨he,bel⟩=> ?_
 subst he
 exact⟨_,rfl,_,_,_,[],_,[],hW',trodAll_mk1 (shut_bool Tryz.underlying4 _),qO laid bel (by kernel_rfl) hA,rfl,bel.frame _,fun h=>by cases h⟩
theorem over:Rows.judgeOthersRow.holds Tryz.pinned (OpenSpec.ofChange Rows.judgeOthersSpec):=
 OpenClaim.holds_of_wide 7 Tryz.f7 rfl rfl rfl rfl rfl rfl rfl ⟨rfl,rfl,rfl,rfl,rfl⟩ rfl rfl rfl rfl rfl (by kernel_rfl) Tryz.func7 (by kernel_rfl)
  (of_decide_eq_true (by kernel_rfl)) (by unfold Func.isWrapper;first | (rw [if_pos (by decide +kernel)];kernel_rfl) | (rw [if_neg (by decide +kernel)];exact⟨rfl,rfl⟩))
  (fun os started H enc _=>lifted os started H enc)
theorem proved:Rows.JudgeOthersSaid:=over
#print axioms proved
end Go.Proofs.YtfolpdmbpbbimaaGreat.judgeOthers
namespace Go.Proofs.YtfolpdmbpbbimaaGreat
theorem judgeOthers_holds:Rows.JudgeOthersSaid:=judgeOthers.proved
end Go.Proofs.YtfolpdmbpbbimaaGreat
end

