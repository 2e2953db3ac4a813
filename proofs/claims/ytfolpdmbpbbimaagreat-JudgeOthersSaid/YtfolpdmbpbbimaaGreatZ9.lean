/- Texts of a proof, one behind the other; the last of these: What a dealer posts, in any memory; no condition. -/
import Derived.Test.YtfolpdmbpbbimaaGreatZ8
set_option linter.unusedVariables false
set_option linter.unusedSimpArgs false
set_option maxRecDepth 100000
section
namespace Go.Proofs.YtfolpdmbpbbimaaGreat
open Go Go.Wit
theorem S_turnedAny {m:Mem} {K:AV->Mem->Prop} {i:Bool} {x y:Nat} {a b:Int} {f:Nat->Int} (hx:x<w256) (hy:y<w256) (hf:∀ i,i<32->0<=f i/\f i<=255)
    (h1:(isD a && isD b)=false->K (.tup [.agg (rowL fun _=>0),.int .i64 1]) m)
    (h2:isD a=true->isD b=true->Bad i x y->K (.tup [.agg (rowL fun _=>0),.int .i64 3]) m)
    (h3:isD a=true->isD b=true->∀ P s,On P->rawA i x y=ptA P->s=tnF P a b f->(∀ i,0<=s i/\s i<=255)->K (.tup [.agg (rowL s),.int .i64 0]) m):ACall Pg eH [rawA i x y,.int .i64 a,.int .i64 b,.agg (rowL f)] m K:=by
  cases hab:(isD a && isD b)with
  | false=>exact S_turned_no hab (h1 hab)
  | true =>
    rw [Bool.and_eq_true]at hab
    by_cases hP:∃ P,On P/\rawA i x y=ptA P
    · obtain⟨P,oP,e⟩:=hP
      rw [e]
      exact S_turned oP hab.1 hab.2 hf fun s hs hb=>h3 hab.1 hab.2 P s oP e hs hb
    · have hbad:Bad i x y:=fun P oP e=>hP ⟨P,oP,e⟩
      exact S_turned_bad hx hy hbad hab.1 hab.2 (h2 hab.1 hab.2 hbad)
theorem flat_ne {n:Nat} {e:Int}:Flat true (.tup [numA n,.int .i64 e]):= .tup _ (.cons _ _ aL (.cons _ _ (.int _ _) .nil))
theorem S_LOfE {m:Mem} {K:AV->Mem->Prop} {x:AV} {f:Nat->Int} (hx:x= .agg (rowL f)) (hf:∀ i,i<32->0<=f i/\f i<=255) (h:∀ n,n=ofZ f->n<w256->K (numA n) m):ACall Pg mE [x] m K:=by
 subst hx;exact S_LOf hf h
theorem S_Open0 (i:Bool) (x y:Nat) (a b:Int) (f:Nat->Int) (hx:x<w256) (hy:y<w256) (hf:∀ i,i<32->0<=f i/\f i<=255):ACall Pg mD [rawA i x y,.int .i64 a,.int .i64 b,.agg (rowL f)] [] (fun v _=>
 (((isD a && isD b)=false/\v= .tup [numA 0,.int .i64 1])\/(isD a=true/\isD b=true/\Bad i x y/\v= .tup [numA 0,.int .i64 3])\/
  (isD a=true/\isD b=true/\∃ P,On P/\rawA i x y=ptA P/\v= .tup [numA (ofZ (tnF P a b f)),.int .i64 0]))/\Flat true v):=by
 have er:AV.agg (rowL f)= .agg ((List.range 32).map fun i=> .int .u8 (f i)):=rfl
 rw [er]
 refine B_pair_Open ⟨rfl,?_⟩
 conv=>whnf
 repeat (refine⟨⟨_,rfl⟩,?_⟩;conv=>whnf)
 refine S_turnedAny (i:=i) (x:=x) (y:=y) (f:=f) hx hy hf (fun h=> ?_) (fun h1 h2 h3=> ?_) (fun h1 h2 P t oP eP ht hbt=> ?_)
 · rw [rowL]
   conv=>whnf
   repeat (refine⟨⟨_,rfl⟩,?_⟩;conv=>whnf)
   exact⟨.inl ⟨h,rfl⟩,flat_ne (n:=0)⟩
 · rw [rowL]
   conv=>whnf
   repeat (refine⟨⟨_,rfl⟩,?_⟩;conv=>whnf)
   exact⟨.inr (.inl ⟨h1,h2,h3,rfl⟩),flat_ne (n:=0)⟩
 · rw [rowL]
   conv=>whnf
   repeat (refine⟨⟨_,rfl⟩,?_⟩;conv=>whnf)
   have e0:=(pJ (s:=t) (g:=fun _ j=> [AV.int .u8 0].getD j .un) rfl).1
   refine S_LOfE e0 (fun i _=>hbt i) (fun n hn hn1=> ?_)
   rw [ht]at hn
   conv=>whnf
   repeat (refine⟨⟨_,rfl⟩,?_⟩;conv=>whnf)
   refine⟨.inr (.inr ⟨h1,h2,P,oP,eP,by rw [<- hn];rfl⟩),flat_ne (n:=n)⟩
theorem S_Open {m:Mem} {K:AV->Mem->Prop} {i:Bool} {x y:Nat} {a b:Int} {f:Nat->Int} (hx:x<w256) (hy:y<w256) (hf:∀ i,i<32->0<=f i/\f i<=255)
 (h1:(isD a && isD b)=false->K (.tup [numA 0,.int .i64 1]) m)
 (h2:isD a=true->isD b=true->Bad i x y->K (.tup [numA 0,.int .i64 3]) m)
 (h3:isD a=true->isD b=true->∀ P n,On P->rawA i x y=ptA P->n=ofZ (tnF P a b f)->K (.tup [numA n,.int .i64 0]) m):ACall Pg mD [rawA i x y,.int .i64 a,.int .i64 b,.agg (rowL f)] m K:=by
 refine aD (S_Open0 i x y a b f hx hy hf) (.cons _ _ _ _ (aF cU) (.cons _ _ _ _ aK (.cons _ _ _ _ aK (.cons _ _ _ _ (aF fJ) .nil)))) ?_
 rintro v (⟨h,rfl⟩ | ⟨g1,g2,g3,rfl⟩ | ⟨g1,g2,P,oP,e,rfl⟩)
 · exact h1 h
 · exact h2 g1 g2 g3
 · exact h3 g1 g2 P _ oP e rfl
theorem S_RStreamE {m:Mem} {x:AV} {K:AV->Mem->Prop} {k k2 N:Nat} (e:k2=k) {f:Nat->Int} (hx:bA m x k2 f) (hN:N<=65536) (hk:k<=900000) (hf:∀ i,i<k->0<=f i/\f i<=255)
 (h1:∀ cap,memK (m++ [some ⟨1,N,aB (stF k f)⟩]) (K (.sl m.length 0 N cap))):ACall Pg eT [x,.int .i64 N] m K:=by
 subst e;exact S_RStream hx hN hk hf h1
theorem key_cells {P:Pt Fp} {a b:Int} (ha:isD a=true) (hb:isD b=true) {g h:Nat->Nat->AV} {i:Nat} (hi:i<pbN P+2) (hg:∀ i,i<pbN P->g i 0= .int .u8 (pbF P i)) (h0:h 0 0= .int .u8 (IntKind.u8.wrap a)) (h1:h 1 0= .int .u8 (IntKind.u8.wrap b)) {z:Nat->Nat->AV}:catG (0+pbN P) (catG 0 z g) h i 0= .int .u8 (keyF P a b i):=by
 unfold keyF
 rw [Nat.zero_add]
 by_cases h:i<pbN P
 · rw [cY h,catB_lt h,bL (Nat.zero_le _),Nat.sub_zero,hg i h]
 · rw [bL (by omega),catB_ge (by omega)]
   have:i - pbN P=0\/i - pbN P=1:=by omega
   rcases this with e | e
   · rw [e,h0,isD_u8 ha,if_pos rfl]
   · rw [e,h1,isD_u8 hb,if_neg (by decide)]
theorem S_Rstr0 (P:Pt Fp) (a b:Int) (ha:isD a=true) (hb:isD b=true):ACall Pg gK [ptA P,.int .i64 a,.int .i64 b] [] (fun v m'=>∃ n' f',(n'=32/\f'=stF (pbN P+2) (keyF P a b))/\RetB n' f' v m'):=by
 have hk:=keyF_in (P:=P) ha hb
 have hn:=pbN_le P
 refine tD ⟨rfl,?_⟩
 conv=>whnf
 repeat (refine⟨⟨_,rfl⟩,?_⟩;conv=>whnf)
 refine S_PBytes (P:=P) (fun cap1=> ?_)
 conv=>whnf
 repeat (refine⟨⟨_,rfl⟩,?_⟩;conv=>whnf)
 refine aA (bM (by first | rfl | simp) (decide_eq_true (by show 0+pbN P<=pbN P;omega)) rfl (by omega) (by omega)) (fun cap2 hcap2=> ?_)
 conv=>whnf
 repeat (refine⟨⟨_,rfl⟩,?_⟩;conv=>whnf)
 refine aA (bM (by first | rfl | simp) rfl rfl (by omega) (by omega)) (fun cap3 hcap3=> ?_)
 conv=>whnf
 repeat (refine⟨⟨_,rfl⟩,?_⟩;conv=>whnf)
 refine S_RStreamE (k:=pbN P+2) (k2:=0+pbN P+2) (by omega) (f:=keyF P a b) (N:=32) (bA.any rfl (Nat.le_of_eq (Nat.zero_add _)) fun i hi=> ?_) (by decide) (by omega) hk (fun cap4=> ?_)
 · rw [show 0+i=i from Nat.zero_add i]
   dsimp only
   exact key_cells ha hb (by omega) (fun i hi=>by show AV.int .u8 (pbF P (0+i))=_;rw [Nat.zero_add]) rfl rfl
 conv=>whnf
 repeat (refine⟨⟨_,rfl⟩,?_⟩;conv=>whnf)
 exact⟨32,_,⟨rfl,rfl⟩,.inr ⟨_,cap4,32,_,rfl,rfl,Nat.le_refl _,fun i hi=>rfl⟩⟩
theorem S_Rstr {m:Mem} {K:AV->Mem->Prop} {P:Pt Fp} {a b:Int} (ha:isD a=true) (hb:isD b=true) (h1:∀ cap,memK (m++ [some ⟨1,32,aB (stF (pbN P+2) (keyF P a b))⟩]) (K (.sl m.length 0 32 cap))):ACall Pg gK [ptA P,.int .i64 a,.int .i64 b] m K:=by
 simp only [dJ]at h1
 refine gZ (S_Rstr0 P a b ha hb) (.cons _ _ _ _ (aF aW) (.cons _ _ _ _ aK (.cons _ _ _ _ aK .nil))) ?_
 rintro n' f' cap' ⟨rfl,rfl⟩
 exact h1 cap'
theorem S_RSeal0 (P:Pt Fp) (a b:Int) (n:Nat) (ha:isD a=true) (hb:isD b=true):ACall Pg fV [ptA P,.int .i64 a,.int .i64 b,numA n] [] (fun v _=>v= .agg (rowL (tnF P a b (kB n)))/\Flat true v):=by
 have hT:∀ i,tnF P a b (kB n) i=xorB (kB n i) (stF (pbN P+2) (keyF P a b) i):=fun _=>rfl
 generalize tnF P a b (kB n)=T at*
 refine xI ⟨rfl,?_⟩
 conv=>whnf
 repeat (refine⟨⟨_,rfl⟩,?_⟩;conv=>whnf)
 refine S_RBytes (a:=n) (fun s hs hb0=> ?_)
 rw [<- hs]at hT
 rw [rowL]
 conv=>whnf
 repeat (refine⟨⟨_,rfl⟩,?_⟩;conv=>whnf)
 refine S_Rstr (P:=P) ha hb (fun cap3=> ?_)
 conv=>whnf
 repeat (refine⟨⟨_,rfl⟩,?_⟩;conv=>whnf)
 refine aR aH (I:=fun q l m=>∃ (j:Nat),l= [(8,.ptr 1 0 0),(9,.ptr 0 0 0),(10,.sl 2 0 32 cap3),(11,.int .i64 j)] /\ m= [some ⟨1,32,aB (fun i=>if i<j then T i else s i)⟩,some ⟨1,32,fun _ _=> .int .u8 0⟩,some ⟨1,32,aB (stF (pbN P+2) (keyF P a b))⟩] /\ q+j=32) 32
  (l0:= [(8,.ptr 1 0 0),(9,.ptr 0 0 0),(10,.sl 2 0 32 cap3),(11,.int .i64 (0:Nat))]) (m0:= [some ⟨1,32,aB (fun i=>if i<0 then T i else s i)⟩,some ⟨1,32,fun _ _=> .int .u8 0⟩,some ⟨1,32,aB (stF (pbN P+2) (keyF P a b))⟩]) [some 3,some 2,some 4] ⟨0,rfl,rfl,rfl⟩ ?_ ?_
 · refine .mk0 ⟨.ptr _ _ _ _ rfl,.ptr _ _ _ _ rfl,.sl _ _ _ _ _ rfl,Flat.i rfl,trivial⟩ ⟨.old 0 3 _ _ rfl rfl ⟨rfl,Nat.le_refl _,fun i j hi hj=> ?_⟩,.old 1 2 _ _ rfl rfl ⟨rfl,Nat.le_refl _,fun i j hi hj=>oneU0 hj rfl⟩,.old 2 4 _ _ rfl rfl ⟨rfl,Nat.le_refl _,fun i j hi hj=>RV.of rfl (.int _ _)⟩,trivial⟩ rfl rfl
   have hj:j<1:=hj
   obtain rfl:j=0:=by omega
   exact zeroB (j:=0) (a:=T) (z:=s) (rowAtE (p:=i) hi rfl rfl)
 · rintro q l m ⟨j,rfl,rfl,hq⟩
   conv=>whnf
   repeat (refine⟨⟨_,rfl⟩,?_⟩;conv=>whnf)
   refine aE (fun hb=> ?_) (fun hb=> ?_)
   · have hb:j<32:=by simp at hb;omega
     conv=>whnf
     repeat (refine⟨⟨_,rfl⟩,?_⟩;conv=>whnf)
     refine aA (by simp;omega) ?_
     conv=>whnf
     repeat (refine⟨⟨_,rfl⟩,?_⟩;conv=>whnf)
     refine aA (by simp [bI,Nat.ble_eq];omega) ?_
     conv=>whnf
     repeat (refine⟨⟨_,rfl⟩,?_⟩;conv=>whnf)
     refine aA (by simp;omega) ?_
     conv=>whnf
     repeat (refine⟨⟨_,rfl⟩,?_⟩;conv=>whnf)
     refine aA (by simp [bI,Nat.ble_eq];omega) ?_
     conv=>whnf
     repeat (refine⟨⟨_,rfl⟩,?_⟩;conv=>whnf)
     refine aA (by simp;omega) ?_
     conv=>whnf
     repeat (refine⟨⟨_,rfl⟩,?_⟩;conv=>whnf)
     refine aA (by simp [bI,Nat.ble_eq];omega) ?_
     conv=>whnf
     repeat (refine⟨⟨_,rfl⟩,?_⟩;conv=>whnf)
     have e5:IntKind.i64.wrap ((j:Int)+1)=((j+1:Nat):Int):=by rw [w64 (by omega) (by omega)];omega
     refine⟨q - 1,[(8,.ptr 1 0 0),(9,.ptr 0 0 0),(10,.sl 2 0 32 cap3),(11,.int .i64 ((j+1:Nat):Int))],[some ⟨1,32,aB (fun i=>if i<j+1 then T i else s i)⟩,some ⟨1,32,fun _ _=> .int .u8 0⟩,some ⟨1,32,aB (stF (pbN P+2) (keyF P a b))⟩],[some 0,some 1,some 2],by omega,⟨j+1,rfl,rfl,by omega⟩,?_⟩
     exact .mk0 ⟨.ptr _ _ _ _ rfl,.ptr _ _ _ _ rfl,.sl _ _ _ _ _ rfl,Flat.i e5,trivial⟩ ⟨.old 0 0 _ _ rfl rfl ⟨rfl,Nat.le_refl _,fun x y hx hy=>turnW hy rfl (hT j) (Nat.zero_add _) (Nat.zero_add _) (Nat.zero_add _) rfl⟩,.old 1 1 _ _ rfl rfl ⟨rfl,Nat.le_refl _,fun i j hi hj=> .eq _ _ rfl (.int _ _)⟩,.old 2 2 _ _ rfl rfl ⟨rfl,Nat.le_refl _,fun i j hi hj=>RV.of rfl (.int _ _)⟩,trivial⟩ rfl rfl
   · have hb:j=32:=by simp at hb;omega
     subst hb
     conv=>whnf
     repeat (refine⟨⟨_,rfl⟩,?_⟩;conv=>whnf)
     have e0:=outTurn (s:=T) (z:=s) (g:=fun _ _=> .int .u8 0) rfl
     refine⟨e0,?_⟩
     exact Eq.mpr (congrArg (Flat true) e0) fJ
theorem ofZ_congr' {f g:Nat->Int} (h:∀ i,i<32->f i=g i):ofZ f=ofZ g:=by
 unfold ofZ wV
 rw [h (24+0) (by decide),h (24+1) (by decide),h (24+2) (by decide),h (24+3) (by decide),h (24+4) (by decide),h (24+5) (by decide),h (24+6) (by decide),h (24+7) (by decide),h (16+0) (by decide),h (16+1) (by decide),h (16+2) (by decide),h (16+3) (by decide),h (16+4) (by decide),h (16+5) (by decide),h (16+6) (by decide),h (16+7) (by decide),h (8+0) (by decide),h (8+1) (by decide),h (8+2) (by decide),h (8+3) (by decide),h (8+4) (by decide),h (8+5) (by decide),h (8+6) (by decide),h (8+7) (by decide),h (0+0) (by decide),h (0+1) (by decide),h (0+2) (by decide),h (0+3) (by decide),h (0+4) (by decide),h (0+5) (by decide),h (0+6) (by decide),h (0+7) (by decide)]
theorem S_RSeal {m:Mem} {K:AV->Mem->Prop} {P:Pt Fp} {a b:Int} {n:Nat} (ha:isD a=true) (hb:isD b=true) (h:∀ s,s=tnF P a b (kB n)->(∀ i,0<=s i/\s i<=255)->K (.agg (rowL s)) m):ACall Pg fV [ptA P,.int .i64 a,.int .i64 b,numA n] m K:=by
 refine aD (S_RSeal0 P a b n ha hb) (.cons _ _ _ _ (aF aW) (.cons _ _ _ _ aK (.cons _ _ _ _ aK (.cons _ _ _ _ aG .nil)))) ?_
 rintro v rfl
 exact h _ rfl fun i=>jJ _ _
theorem tnF_congr {P:Pt Fp} {a b:Int} {f g:Nat->Int} {i:Nat} (h:f i=g i):tnF P a b f i=tnF P a b g i:=by unfold tnF;rw [h]
theorem S_ROpen0 (P:Pt Fp) (a b:Int) (f:Nat->Int) (ha:isD a=true) (hb:isD b=true) (hf:∀ i,i<32->0<=f i/\f i<=255):ACall Pg fW [ptA P,.int .i64 a,.int .i64 b,.agg (rowL f)] [] (fun v _=>v=numA (ofZ (tnF P a b f))/\Flat true v):=by
 have er:AV.agg (rowL f)= .agg ((List.range 32).map fun i=> .int .u8 (f i)):=rfl
 rw [er]
 refine xJ ⟨rfl,?_⟩
 conv=>whnf
 repeat (refine⟨⟨_,rfl⟩,?_⟩;conv=>whnf)
 refine S_ROf (f:=f) hf (fun n hn hn1=> ?_)
 conv=>whnf
 repeat (refine⟨⟨_,rfl⟩,?_⟩;conv=>whnf)
 refine S_RSeal (P:=P) (n:=n) ha hb (fun s hs hbs=> ?_)
 conv=>whnf
 repeat (refine⟨⟨_,rfl⟩,?_⟩;conv=>whnf)
 refine S_ROf (f:=s) (fun i _=>hbs i) (fun k hk hk1=> ?_)
 have e:ofZ (tnF P a b f)=k:=by
  rw [hk,hs]
  exact ofZ_congr' fun i hi=>tnF_congr (by rw [hn];exact(byteZ_ofZ hf hi).symm)
 rw [e]
 conv=>whnf
 repeat (refine⟨⟨_,rfl⟩,?_⟩;conv=>whnf)
 exact⟨rfl,aL⟩
theorem S_ROpen {m:Mem} {K:AV->Mem->Prop} {P:Pt Fp} {a b:Int} {f:Nat->Int} (ha:isD a=true) (hb:isD b=true) (hf:∀ i,i<32->0<=f i/\f i<=255) (h:∀ n,n=ofZ (tnF P a b f)->K (numA n) m):ACall Pg fW [ptA P,.int .i64 a,.int .i64 b,.agg (rowL f)] m K:=by
 refine aD (S_ROpen0 P a b f ha hb hf) (.cons _ _ _ _ (aF aW) (.cons _ _ _ _ aK (.cons _ _ _ _ aK (.cons _ _ _ _ (aF fJ) .nil)))) ?_
 rintro v rfl
 exact h _ rfl
end Go.Proofs.YtfolpdmbpbbimaaGreat
end

section
namespace Go.Proofs.YtfolpdmbpbbimaaGreat
open Go Go.Wit
theorem flat_be {b:Bool} {e:Int}:Flat true (.tup [.bool b,.int .i64 e]):= .tup _ (.cons _ _ (.bool _) (.cons _ _ (.int _ _) .nil))
theorem S_At {m:Mem} {a:AV} {K:AV->Mem->Prop} {n x:Nat} {P:Nat->Pt Fp} (ha:bZ m a 9 n (ptsG P)) (hx:x<w256) (oP:∀ i,i<n->On (P i)) (hn:n<=64) (h:∀ R,On R->R=polyP P x n->K (.tup [ptA R,.int .i64 0]) m):ACall Pg vF [a,numA x] m K:=by
 obtain⟨cap,hl⟩:=ha
 refine aD (S_At0 n cap P x hx oP hn) (.cons _ _ _ _ hl (.cons _ _ _ _ aG .nil)) ?_
 rintro v rfl
 exact h _ (On.polyP oP) rfl
def eq9 (i:Bool) (x y:Nat) (j:Bool) (u v:Nat):Bool:=(i == j) && (lim x 0 == lim u 0 && (lim x 1 == lim u 1 && (lim x 2 == lim u 2 && (lim x 3 == lim u 3 && (lim y 0 == lim v 0 && (lim y 1 == lim v 1 && (lim y 2 == lim v 2 && (lim y 3 == lim v 3 && true))))))))
theorem eq9_iff {i j:Bool} {x y u v:Nat} (hx:x<w256) (hy:y<w256) (hu:u<w256) (hv:v<w256):eq9 i x y j u v=decide (i=j/\x=u/\y=v):=by
 have e:eq9 i x y j u v=((i == j) && (eqX x u && eqX y v)):=by
  unfold eq9 eqX
  simp [Bool.and_assoc]
 rw [e,lU hx hu,lU hy hv]
 cases i <;> cases j <;> simp
theorem eq9_pt {P Q:Pt Fp}:eq9 (isI P) (xN P) (yN P) (isI Q) (xN Q) (yN Q)=true ↔ P=Q:=by
 rw [eq9_iff (xN_w P) (yN_w P) (xN_w Q) (yN_w Q),decide_eq_true_iff]
 constructor
 · rintro⟨a,b,c⟩;exact gE (by rw [ptA,ptA,a,b,c])
 · rintro rfl;exact⟨rfl,rfl,rfl⟩
theorem S_Fits0 (n cap:Nat) (P:Nat->Pt Fp) (x y:Nat) (hx:x<w256) (hy:y<w256) (oP:∀ i,i<n->On (P i)) (hn:n<=64):ACall Pg mH [.vsl 9 n cap (ptsG P),numA x,numA y] [] (fun v _=>((nmul y gG=polyP P x n/\v= .tup [.bool true,.int .i64 0])\/(nmul y gG ≠ polyP P x n/\v= .tup [.bool false,.int .i64 0]))/\Flat true v):=by
 refine B_feld_Fits ⟨rfl,?_⟩
 conv=>whnf
 repeat (refine⟨⟨[],rfl⟩,?_⟩;conv=>whnf)
 refine S_At (P:=P) (bZ.vsl fun _ _ _ _=>bK) hx oP hn (fun R oR hR=> ?_)
 conv=>whnf
 repeat (refine⟨⟨[],rfl⟩,?_⟩;conv=>whnf)
 refine T_Base hy (fun Q oQ hQ=> ?_)
 conv=>whnf
 repeat (refine⟨⟨[],rfl⟩,?_⟩;conv=>whnf)
 rw [<- hQ,<- hR]
 show ((Q=R/\AV.tup [.bool (eq9 (isI Q) (xN Q) (yN Q) (isI R) (xN R) (yN R)),.int .i64 0] = .tup [.bool true,.int .i64 0])\/(Q ≠ R/\AV.tup [.bool (eq9 (isI Q) (xN Q) (yN Q) (isI R) (xN R) (yN R)),.int .i64 0] = .tup [.bool false,.int .i64 0]))/\Flat true (AV.tup [.bool (eq9 (isI Q) (xN Q) (yN Q) (isI R) (xN R) (yN R)),.int .i64 0])
 refine⟨?_,flat_be⟩
 by_cases e:Q=R
 · exact .inl ⟨e,by rw [eq9_pt.2 e]⟩
 · exact .inr ⟨e,by rw [show eq9 (isI Q) (xN Q) (yN Q) (isI R) (xN R) (yN R)=false by rw [Bool.eq_false_iff];exact fun h=>e (eq9_pt.1 h)]⟩
theorem S_Fits {m:Mem} {a:AV} {K:AV->Mem->Prop} {n x y:Nat} {P:Nat->Pt Fp} (ha:bZ m a 9 n (ptsG P)) (hx:x<w256) (hy:y<w256) (oP:∀ i,i<n->On (P i)) (hn:n<=64) (h1:nmul y gG=polyP P x n->K (.tup [.bool true,.int .i64 0]) m) (h2:nmul y gG ≠ polyP P x n->K (.tup [.bool false,.int .i64 0]) m):ACall Pg mH [a,numA x,numA y] m K:=by
 obtain⟨cap,hl⟩:=ha
 refine aD (S_Fits0 n cap P x y hx hy oP hn) (.cons _ _ _ _ hl (.cons _ _ _ _ aG (.cons _ _ _ _ aG .nil))) ?_
 rintro v (⟨e,rfl⟩ | ⟨e,rfl⟩)
 · exact h1 e
 · exact h2 e
def sumN (c:Nat->Nat) (x:Nat):Nat->Nat:=Nat.rec (motive:=fun _=>Nat) 0 (fun k ih=>ih+x ^ k*c k)
def horN (c:Nat->Nat) (x n:Nat):Nat->Nat:=Nat.rec (motive:=fun _=>Nat) 0 (fun t ih=>ih*x+c (n - 1 - t))
theorem sumN_succ {c:Nat->Nat} {x k:Nat}:sumN c x (k+1)=sumN c x k+x ^ k*c k:=rfl
theorem horN_succ {c:Nat->Nat} {x n t:Nat}:horN c x n (t+1)=horN c x n t*x+c (n - 1 - t):=rfl
theorem horN_sum {c:Nat->Nat} {x n:Nat}:∀ t,t<=n->sumN c x (n - t)+x ^ (n - t)*horN c x n t=sumN c x n
  | 0,_=>by show sumN c x n+_*0=_;rw [Nat.mul_zero,Nat.add_zero]
  | t + 1, h => by
    have ih:=horN_sum t (c:=c) (x:=x) (n:=n) (by omega)
    have e:n - t=n - (t+1)+1:=by omega
    rw [e,sumN_succ,Nat.pow_succ]at ih
    rw [<- ih,horN_succ,show n - 1 - t=n - (t+1) by omega,Nat.mul_add,Nat.mul_assoc,Nat.mul_comm x (horN c x n t),Nat.add_assoc,Nat.add_comm (x ^ (n - (t+1))*c (n - (t+1)))]
theorem horN_all {c:Nat->Nat} {x n:Nat}:horN c x n n=sumN c x n:=by
 have:=horN_sum (c:=c) (x:=x) (n:=n) n (Nat.le_refl _)
 rw [Nat.sub_self,Nat.pow_zero,Nat.one_mul]at this
 rw [<- this];show _=0+_;rw [Nat.zero_add]
theorem polyP_sum {c:Nat->Nat} {x:Nat}:∀ n,polyP (fun i=>nmul (c i) gG) x n=nmul (sumN c x n) gG
 | 0=>rfl
 | n+1=>by rw [wN,polyP_sum n,sumN_succ,gH crvP on_G,<- kO crvP on_G]
theorem mod_hor {a x c n:Nat}:(a % n*x % n+c) % n=(a*x+c) % n:=by
 rw [Nat.mod_mul_mod,Nat.mod_add_mod]
end Go.Proofs.YtfolpdmbpbbimaaGreat
end

section
namespace Go.Proofs.YtfolpdmbpbbimaaGreat
open Go Go.Wit
structure Dl where
 ac:Int
 i:Bool
 x:Nat
 y:Nat
 lb:ByteArray
 hd:Int
 ps:Bool
 ns:Nat
 S:Nat->Nat->Int
 nc:Nat
 I:Nat->Bool
 X:Nat->Nat
 Y:Nat->Nat
 bd:Bool
 st:Bool
 j:Bool
 u:Nat
 v:Nat
def dlL (d:Dl) (sl co:AV):List AV:= [.int .i64 d.ac,.bool d.i,.int .u64 (lim d.x 0),.int .u64 (lim d.x 1),.int .u64 (lim d.x 2),.int .u64 (lim d.x 3),.int .u64 (lim d.y 0),.int .u64 (lim d.y 1),.int .u64 (lim d.y 2),.int .u64 (lim d.y 3),
 .str d.lb,.int .i64 d.hd,.bool d.ps,sl,co,.bool d.bd,.bool d.st,.bool d.j,.int .u64 (lim d.u 0),.int .u64 (lim d.u 1),.int .u64 (lim d.u 2),.int .u64 (lim d.u 3),.int .u64 (lim d.v 0),.int .u64 (lim d.v 1),.int .u64 (lim d.v 2),.int .u64 (lim d.v 3)]
def dlG (D:Nat->Dl) (c1 c2:Nat->Nat):Nat->Nat->AV:=fun k j=>(dlL (D k) (.vsl 32 (D k).ns (c1 k) (dB (D k).S)) (.vsl 9 (D k).nc (c2 k) (dA (D k).I (D k).X (D k).Y))).getD j .un
theorem flat_dlL {nv:Bool} {d:Dl} {sl co:AV} (h1:Flat nv sl) (h2:Flat nv co) (j:Nat):Flat nv ((dlL d sl co).getD j .un):=by
 by_cases hj:j<26
 · have:j=0\/j=1\/j=2\/j=3\/j=4\/j=5\/j=6\/j=7\/j=8\/j=9\/j=10\/j=11\/j=12\/j=13\/j=14\/j=15\/j=16\/j=17\/j=18\/j=19\/j=20\/j=21\/j=22\/j=23\/j=24\/j=25:=by omega
   rcases this with rfl | rfl | rfl | rfl | rfl | rfl | rfl | rfl | rfl | rfl | rfl | rfl | rfl | rfl | rfl | rfl | rfl | rfl | rfl | rfl | rfl | rfl | rfl | rfl | rfl | rfl
   all_goals first
    | exact h1
    | exact h2
    | exact .int _ _
    | exact .bool _
    | exact .str _
 · rw [List.getD_eq_getElem?_getD,List.getElem?_eq_none (by show 26<=j;omega)];exact .un
theorem bU {D:Nat->Dl} {c1 c2:Nat->Nat} {k j:Nat}:Flat false (dlG D c1 c2 k j):=flat_dlL lH uP j
theorem eF {n cap:Nat} {D:Nat->Dl} {c1 c2:Nat->Nat}:Flat false (.vsl 26 n cap (dlG D c1 c2)):= .vsl _ _ _ _ rfl fun _ _ _ _=>bU
def cZ (m:Mem) (x:AV) (n:Nat) (D:Nat->Dl):Prop:= ∃ cap c1 c2,Lend (fun _=>none) (List.range m.length) m x (.vsl 26 n cap (dlG D c1 c2))
theorem cZ.vsl {m:Mem} {n cap:Nat} {D:Nat->Dl} {c1 c2:Nat->Nat}:cZ m (.vsl 26 n cap (dlG D c1 c2)) n D:=⟨cap,c1,c2,aF eF⟩
theorem cZ.nils {m:Mem} {D:Nat->Dl}:cZ m .nils 0 D:=⟨0,fun _=>0,fun _=>0,.nils _ _⟩
def selN (me k:Nat):Nat:=if k<me then k else k - 1
def othN (me q:Nat):Nat:=if q+1<me then q+1 else q+2
theorem selN_0 {me:Nat}:selN me 0=0:=by unfold selN;split <;> rfl
noncomputable def ptOf (d:Dl):Pt Fp:=by
 classical
 exact if h:∃ P,On P/\rawA d.i d.x d.y=ptA P then h.choose else .inf
theorem ptOf_eq {d:Dl} {P:Pt Fp} (oP:On P) (h:rawA d.i d.x d.y=ptA P):ptOf d=P:=by
 classical
 have hh:∃ P,On P/\rawA d.i d.x d.y=ptA P:=⟨P,oP,h⟩
 unfold ptOf
 rw [dif_pos hh]
 exact gE (hh.choose_spec.2.symm.trans h)
noncomputable def sealN (n:Nat) (f:Nat->Int) (t:Nat) (D:Nat->Dl) (me q:Nat):Nat->Int:=tnF (nmul (secN n f) (ptOf (D (othN me q - 1)))) me (othN me q) (kB (sumN (coN n f) (othN me q) (t+1) % nN))
theorem S_CheckD {m:Mem} {K:AV->Mem->Prop} {v:AV} {i:Bool} {x y:Nat} (hv:v=rawA i x y) (hx:x<w256) (hy:y<w256) (h1:∀ P,On P->rawA i x y=ptA P->K (.int .i64 0) m) (h2:Bad i x y->K (.int .i64 3) m):ACall Pg bG [v] m K:=by
 subst hv;exact tB hx hy h1 h2
abbrev actZ:List AV:= [.int .i64 0,.bool false,.int .u64 0,.int .u64 0,.int .u64 0,.int .u64 0,.int .u64 0,.int .u64 0,.int .u64 0,.int .u64 0,.str nB,.nils,.nils,.int .i64 0,.int .u64 0,.int .u64 0,.int .u64 0,.int .u64 0,.int .u64 0,.int .u64 0,.int .u64 0,.int .u64 0]
theorem flat_get {nv:Bool}:∀ {l:List AV} {n:Nat},Flats nv l->Flat nv (l.getD n .un)
 | [],n,_=>by simp;exact .un
 | a::r,0,h=>by cases h with | cons _ _ h1 _=>simpa using h1
 | a::r,n+1,h=>by cases h with | cons _ _ _ h2=>simpa using flat_get (n:=n) h2
theorem flat_actZ {nv:Bool}:Flats nv actZ:=by
 repeat (first | exact .nil | refine .cons _ _ (.int _ _) ?_ | refine .cons _ _ (.bool _) ?_ | refine .cons _ _ (.str _) ?_ | refine .cons _ _ .nils ?_)
theorem xA {nv:Bool} {σ:Nat->Option Nat} {i j:Nat} {A:AV} (hi:i<1) (hj:j<22) (hA:A=lstG 22 actZ i j):RV nv σ A (lstG 22 actZ i j):=
 RV.of hA (flat_get flat_actZ)
theorem act_blk0 {nv:Bool} {σ:Nat->Option Nat} {i j:Nat} {A:AV} (hi:i<1) (hA:A=actZ.getD j .un):RV nv σ A (lstG 22 actZ i j):=by
 obtain rfl:i=0:=by omega
 refine RV.of ?_ (flat_get flat_actZ)
 rw [hA];show _=actZ.getD (0*22+j) .un
 rw [Nat.zero_mul,Nat.zero_add]
theorem isD_nat {i:Nat} (h1:1<=i) (h2:i<=8):isD (i:Int)=true:=by
 unfold isD;rw [decide_eq_true (by omega),decide_eq_true (by omega)];rfl
theorem all32 {p:Nat->Prop} (h:p 0/\p 1/\p 2/\p 3/\p 4/\p 5/\p 6/\p 7/\p 8/\p 9/\p 10/\p 11/\p 12/\p 13/\p 14/\p 15/\p 16/\p 17/\p 18/\p 19/\p 20/\p 21/\p 22/\p 23/\p 24/\p 25/\p 26/\p 27/\p 28/\p 29/\p 30/\p 31):∀ j,j<32->p j:=fun j hj=>by
 have:j=0\/j=1\/j=2\/j=3\/j=4\/j=5\/j=6\/j=7\/j=8\/j=9\/j=10\/j=11\/j=12\/j=13\/j=14\/j=15\/j=16\/j=17\/j=18\/j=19\/j=20\/j=21\/j=22\/j=23\/j=24\/j=25\/j=26\/j=27\/j=28\/j=29\/j=30\/j=31:=by omega
 rcases this with rfl | rfl | rfl | rfl | rfl | rfl | rfl | rfl | rfl | rfl | rfl | rfl | rfl | rfl | rfl | rfl | rfl | rfl | rfl | rfl | rfl | rfl | rfl | rfl | rfl | rfl | rfl | rfl | rfl | rfl | rfl | rfl
 all_goals simp [h]
theorem seal_row {nv:Bool} {σ:Nat->Option Nat} {A:AV} {S:Nat->Nat->Int} {k i j:Nat} {s:Nat->Int} {g:Nat->Nat->AV} (hi:i<k+1) (hj:j<32) (hs:∀ j,j<32->s j=S k j) (hA:A=catG k (dB S) g i j) (hg:∀ j,j<32->g 0 j= .int .u8 (s j)):RV nv σ A (dB S i j):=by
 refine RV.of (hA.trans ?_) eJ
 by_cases h:i<k
 · rw [cY h]
 · have h:i=k:=by omega
   subst h
   rw [bL (Nat.le_refl _),Nat.sub_self,hg j hj,hs j hj];rfl
end Go.Proofs.YtfolpdmbpbbimaaGreat
end

section
namespace Go.Proofs.YtfolpdmbpbbimaaGreat
open Go Go.Wit
theorem T_rBase {m:Mem} {K:AV->Mem->Prop} {n:Nat} (hn:n<w256) (h:∀ P,On P->P=nmul n gG->K (ptA P) m):ACall Pg bW [numA n] m K:=
 S_rBase hn (h _ (on_G.nmul crvP n) rfl)
theorem T_rTimes {m:Mem} {K:AV->Mem->Prop} {n:Nat} {P:Pt Fp} (hn:n<w256) (oP:On P) (h:∀ R,On R->R=nmul n P->K (ptA R) m):ACall Pg aS [numA n,ptA P] m K:=
 S_rTimes hn oP (h _ (oP.nmul crvP n) rfl)
theorem T_rSum {m:Mem} {K:AV->Mem->Prop} {P Q:Pt Fp} (oP:On P) (oQ:On Q) (h:∀ R,On R->R=padd P Q->K (ptA R) m):ACall Pg gT [ptA P,ptA Q] m K:=
 S_rSum oP oQ (h _ (oP.add crvP oQ) rfl)
theorem S_RCommit0 (n cap:Nat) (c:Nat->Nat) (hc:∀ i,i<n->c i<w256) (hn:n<=1000000):ACall Pg gL [.vsl 4 n cap (kI c)] [] (fun v m'=>∃ n' G,(n'=n/\G=ptsG (fun i=>nmul (c i) gG))/\RetG 9 n' G v m'):=by
 obtain⟨P,hP⟩ :∃ P:Nat->Pt Fp,P=fun i=>nmul (c i) gG:=⟨_,rfl⟩
 rw [<- hP]
 refine tE ⟨rfl,?_⟩
 conv=>whnf
 repeat (refine⟨⟨[],rfl⟩,?_⟩;conv=>whnf)
 refine aR aH (I:=fun q l m=>∃ (k c':Nat),l= [(0,.vsl 4 n cap (kI c)),(4,.int .i64 k),(3,.sl 0 0 k c')] /\ m= [some ⟨9,k,ptsG P⟩] /\ q+k=n) n
  (l0:= [(0,.vsl 4 n cap (kI c)),(4,.int .i64 (0:Nat)),(3,.sl 0 0 0 0)]) (m0:= [some ⟨9,0,ptsG P⟩]) [none] ⟨0,0,rfl,rfl,rfl⟩ ?_ ?_
 · refine .mk0 ⟨.eq _ _ rfl (.vsl _ _ _ _ rfl (fun _ _ _ _=>dU)),Flat.i rfl,.nils _ _,trivial⟩ ⟨.ph _ _ _ rfl,trivial⟩ rfl rfl
 · rintro q l m ⟨k,c',rfl,rfl,hq⟩
   conv=>whnf
   repeat (refine⟨⟨[],rfl⟩,?_⟩;conv=>whnf)
   refine aE (fun hb=> ?_) (fun hb=> ?_)
   · have hb:k<n:=by simp at hb;omega
     conv=>whnf
     repeat (refine⟨⟨[],rfl⟩,?_⟩;conv=>whnf)
     refine aA (by simp;omega) ?_
     conv=>whnf
     repeat (refine⟨⟨[],rfl⟩,?_⟩;conv=>whnf)
     refine T_rBase (n:=c k) (hc k hb) (fun Q oQ hQ=> ?_)
     conv=>whnf
     repeat (refine⟨⟨[],rfl⟩,?_⟩;conv=>whnf)
     refine aA (bM (decide_eq_true (Nat.le_refl _)) rfl rfl (by omega) (by omega)) (fun cap' hcap=> ?_)
     conv=>whnf
     repeat (refine⟨⟨[],rfl⟩,?_⟩;conv=>whnf)
     have e5:IntKind.i64.wrap ((k:Int)+1)=((k+1:Nat):Int):=by rw [w64 (by omega) (by omega)];omega
     refine⟨q - 1,[(0,.vsl 4 n cap (kI c)),(4,.int .i64 ((k+1:Nat):Int)),(3,.sl 0 0 (k+1) cap')],[some ⟨9,k+1,ptsG P⟩],[some 2],by omega,⟨k+1,cap',rfl,rfl,by omega⟩,?_⟩
     refine .mk0 ⟨.eq _ _ rfl (.vsl _ _ _ _ rfl (fun _ _ _ _=>dU)),Flat.i e5,.sl _ _ _ _ _ rfl,trivial⟩ ⟨.old 0 2 _ _ rfl rfl ⟨rfl,Nat.le_refl _,fun i j hi hj=> ?_⟩,trivial⟩ rfl rfl
     have hPk:P k=Q:=by rw [hP,hQ]
     have hi:i<k+1:=hi
     have hj:j<9:=hj
     have e:=cat_pts (P:=P) (k:=k) (g:=fun i j=>(rawL (isI Q) (xN Q) (yN Q)).getD (i*9+j) .un) hi (fun h j=>by subst h;rw [Nat.sub_self,Nat.zero_mul,Nat.zero_add,<- hPk];rfl) j
     refine .eq _ _ ?_ ?_
     · refine Eq.trans ?_ e
       dsimp only
       by_cases hik:i<k
       · rw [cY hik,cY hik]
       · rw [bL (by omega),bL (by omega),Nat.zero_add]
         rfl
     · have:Flat false (ptsG P i j):=bK
       rw [<- e]at this
       dsimp only
       by_cases hik:i<k
       · rw [cY hik];exact bK
       · rw [bL (by omega)]at this ⊢
         rw [Nat.zero_add]
         exact this
   · have hb:k=n:=by simp at hb;omega
     subst hb
     conv=>whnf
     repeat (refine⟨⟨[],rfl⟩,?_⟩;conv=>whnf)
     exact⟨k,ptsG P,⟨rfl,rfl⟩,.inr ⟨0,c',k,_,rfl,rfl,Nat.le_refl _,fun _ _ _ _=>rfl⟩⟩
theorem S_RCommit {m:Mem} {x:AV} {K:AV->Mem->Prop} {n:Nat} {c:Nat->Nat} (hx:bZ m x 4 n (kI c)) (hc:∀ i,i<n->c i<w256) (hn:n<=1000000)
 (h1:∀ P cap,P=(fun i=>nmul (c i) gG)->memK (m++ [some ⟨9,n,ptsG P⟩]) (K (.sl m.length 0 n cap))):ACall Pg gL [x] m K:=by
 simp only [dJ]at h1
 obtain⟨cap,hl⟩:=hx
 refine lift_G (S_RCommit0 n cap c hc hn) (fun n G hR i j _ _=>by rw [hR.2];exact bK) (.cons _ _ _ _ hl .nil) ?_
 rintro n' G cap' ⟨rfl,rfl⟩
 exact h1 _ cap' rfl
theorem S_rPoints0 (n cap:Nat) (P:Nat->Pt Fp) (oP:∀ i,i<n->On (P i)) (hn:n<=140737488355328):ACall Pg cS [.vsl 9 n cap (ptsG P)] [] (fun v _=>v= .bool true/\Flat true v):=by
 refine mK ⟨rfl,?_⟩
 conv=>whnf
 repeat (refine⟨⟨[],rfl⟩,?_⟩;conv=>whnf)
 refine aR aH (I:=fun q l m=>∃ (k:Nat),l= [(0,.vsl 9 n cap (ptsG P)),(2,.bool false),(3,.int .i64 k)] /\ m= [] /\ q+k=n) n
  (l0:= [(0,.vsl 9 n cap (ptsG P)),(2,.bool false),(3,.int .i64 (0:Nat))]) (m0:= []) [] ⟨0,rfl,rfl,rfl⟩ ?_ ?_
 · exact .mk0 ⟨.eq _ _ rfl (.vsl _ _ _ _ rfl (fun _ _ _ _=>bK)),Flat.b rfl,Flat.i rfl,trivial⟩ trivial rfl rfl
 · rintro q l m ⟨k,rfl,rfl,hq⟩
   conv=>whnf
   repeat (refine⟨⟨[],rfl⟩,?_⟩;conv=>whnf)
   refine aE (fun hb=> ?_) (fun hb=> ?_)
   · have hb:k<n:=by simp at hb;omega
     conv=>whnf
     repeat (refine⟨⟨[],rfl⟩,?_⟩;conv=>whnf)
     refine aA (by simp;omega) ?_
     conv=>whnf
     repeat (refine⟨⟨[],rfl⟩,?_⟩;conv=>whnf)
     refine S_rCheck_ok (P:=P k) (oP k hb) ?_
     conv=>whnf
     repeat (refine⟨⟨[],rfl⟩,?_⟩;conv=>whnf)
     have e5:IntKind.i64.wrap ((k:Int)+1)=((k+1:Nat):Int):=by rw [w64 (by omega) (by omega)];omega
     refine⟨q - 1,[(0,.vsl 9 n cap (ptsG P)),(2,.bool false),(3,.int .i64 ((k+1:Nat):Int))],[],[],by omega,⟨k+1,rfl,rfl,by omega⟩,?_⟩
     exact .mk0 ⟨.eq _ _ rfl (.vsl _ _ _ _ rfl (fun _ _ _ _=>bK)),Flat.b rfl,Flat.i e5,trivial⟩ trivial rfl rfl
   · conv=>whnf
     repeat (refine⟨⟨[],rfl⟩,?_⟩;conv=>whnf)
     exact⟨rfl,.bool _⟩
theorem S_rPoints_bad0 (n cap:Nat) (I:Nat->Bool) (X Y:Nat->Nat) (hX:∀ i,i<n->X i<w256) (hY:∀ i,i<n->Y i<w256) (b:Nat) (hbn:b<n) (hb:Bad (I b) (X b) (Y b)) (hn:n<=140737488355328):ACall Pg cS [.vsl 9 n cap (dA I X Y)] [] (fun v _=>v= .bool false/\Flat true v):=by
 refine mK ⟨rfl,?_⟩
 conv=>whnf
 repeat (refine⟨⟨[],rfl⟩,?_⟩;conv=>whnf)
 refine aR aH (I:=fun q l m=>∃ (k:Nat),l= [(0,.vsl 9 n cap (dA I X Y)),(2,.bool false),(3,.int .i64 k)] /\ m= [] /\ q+k=n/\k<=b) n
  (l0:= [(0,.vsl 9 n cap (dA I X Y)),(2,.bool false),(3,.int .i64 (0:Nat))]) (m0:= []) [] ⟨0,rfl,rfl,rfl,Nat.zero_le _⟩ ?_ ?_
 · exact .mk0 ⟨.eq _ _ rfl (.vsl _ _ _ _ rfl (fun _ _ _ _=>dG)),Flat.b rfl,Flat.i rfl,trivial⟩ trivial rfl rfl
 · rintro q l m ⟨k,rfl,rfl,hq,hkb⟩
   conv=>whnf
   repeat (refine⟨⟨[],rfl⟩,?_⟩;conv=>whnf)
   refine aE (fun hc=> ?_) (fun hc=> ?_)
   · have hc:k<n:=by simp at hc;omega
     conv=>whnf
     repeat (refine⟨⟨[],rfl⟩,?_⟩;conv=>whnf)
     refine aA (by simp;omega) ?_
     conv=>whnf
     repeat (refine⟨⟨[],rfl⟩,?_⟩;conv=>whnf)
     refine aBw (i:=I k) (x:=X k) (y:=Y k) (hX k hc) (hY k hc) (fun P oP e=> ?_) (fun hbk=> ?_)
     · have hne:k ≠ b:=fun h=>hb P oP (h ▸ e)
       conv=>whnf
       repeat (refine⟨⟨[],rfl⟩,?_⟩;conv=>whnf)
       have e5:IntKind.i64.wrap ((k:Int)+1)=((k+1:Nat):Int):=by rw [w64 (by omega) (by omega)];omega
       refine⟨q - 1,[(0,.vsl 9 n cap (dA I X Y)),(2,.bool false),(3,.int .i64 ((k+1:Nat):Int))],[],[],by omega,⟨k+1,rfl,rfl,by omega,by omega⟩,?_⟩
       exact .mk0 ⟨.eq _ _ rfl (.vsl _ _ _ _ rfl (fun _ _ _ _=>dG)),Flat.b rfl,Flat.i e5,trivial⟩ trivial rfl rfl
     · conv=>whnf
       repeat (refine⟨⟨[],rfl⟩,?_⟩;conv=>whnf)
       exact⟨rfl,.bool _⟩
   · have hc:¬ k<n:=by simp at hc;omega
     omega
theorem S_rPoints {m:Mem} {x:AV} {K:AV->Mem->Prop} {n:Nat} {P:Nat->Pt Fp} (hx:bZ m x 9 n (ptsG P)) (oP:∀ i,i<n->On (P i)) (hn:n<=140737488355328) (h:K (.bool true) m):ACall Pg cS [x] m K:=by
 obtain⟨cap,hl⟩:=hx
 refine aD (S_rPoints0 n cap P oP hn) (.cons _ _ _ _ hl .nil) ?_
 rintro v rfl
 exact h
theorem S_rPoints_bad {m:Mem} {x:AV} {K:AV->Mem->Prop} {n:Nat} {I:Nat->Bool} {X Y:Nat->Nat} (hx:bZ m x 9 n (dA I X Y)) (hX:∀ i,i<n->X i<w256) (hY:∀ i,i<n->Y i<w256) {b:Nat} (hbn:b<n) (hb:Bad (I b) (X b) (Y b)) (hn:n<=140737488355328) (h:K (.bool false) m):ACall Pg cS [x] m K:=by
 obtain⟨cap,hl⟩:=hx
 refine aD (S_rPoints_bad0 n cap I X Y hX hY b hbn hb hn) (.cons _ _ _ _ hl .nil) ?_
 rintro v rfl
 exact h
noncomputable def horP (P:Nat->Pt Fp) (x n:Nat):Nat->Pt Fp:=Nat.rec (motive:=fun _=>Pt Fp) .inf (fun t ih=>padd (nmul x ih) (P (n - 1 - t)))
theorem horP_succ {P:Nat->Pt Fp} {x n t:Nat}:horP P x n (t+1)=padd (nmul x (horP P x n t)) (P (n - 1 - t)):=rfl
theorem On.horP {P:Nat->Pt Fp} {x n:Nat} (oP:∀ i,i<n->On (P i)):∀ t,t<=n->On (horP P x n t)
 | 0,_=>trivial
 | t+1,h=>((On.horP oP t (by omega)).nmul crvP x).add crvP (oP _ (by omega))
theorem horP_poly {P:Nat->Pt Fp} {x n:Nat} (oP:∀ i,i<n->On (P i)):∀ t,t<=n->padd (polyP P x (n - t)) (nmul (x ^ (n - t)) (horP P x n t))=polyP P x n
  | 0,_=>by show padd (polyP P x n) (nmul _ .inf)=_;rw [aBl,jY]
  | t + 1, h => by
    have ih:=horP_poly (x:=x) oP t (by omega)
    have oH:=On.horP (x:=x) oP t (by omega)
    have e:n - t=n - (t+1)+1:=by omega
    have oA:On (polyP P x (n - (t+1))):=On.polyP fun i hi=>oP i (by omega)
    have oK:=oP (n - (t+1)) (by omega)
    rw [e,wN,Nat.pow_succ,kO crvP oH]at ih
    rw [<- ih,horP_succ,show n - 1 - t=n - (t+1) by omega,nmul_padd crvP (oH.nmul crvP x) oK,bV crvP oA (oK.nmul crvP _) ((oH.nmul crvP x).nmul crvP _),nQ (nmul (x ^ (n - (t+1))) (P (n - (t+1))))]
theorem horP_all {P:Nat->Pt Fp} {x n:Nat} (oP:∀ i,i<n->On (P i)):horP P x n n=polyP P x n:=by
 have:=horP_poly (x:=x) oP n (Nat.le_refl _)
 rw [Nat.sub_self,Nat.pow_zero,nmul_one',polyP_0,iM]at this
 exact this
theorem S_RAt0 (n cap:Nat) (P:Nat->Pt Fp) (x:Nat) (hx:x<w256) (oP:∀ i,i<n->On (P i)) (hn:n<=140737488355328):ACall Pg kC [.vsl 9 n cap (ptsG P),numA x] [] (fun v _=>v=ptA (polyP P x n)/\Flat true v):=by
 refine B_witanref06_At ⟨rfl,?_⟩
 conv=>whnf
 repeat (refine⟨⟨[],rfl⟩,?_⟩;conv=>whnf)
 refine S_rInf ?_
 conv=>whnf
 repeat (refine⟨⟨[],rfl⟩,?_⟩;conv=>whnf)
 have e10:IntKind.i64.wrap ((n:Int) - 1)=(n:Int) - 1:=w64 (by omega) (by omega)
 refine aR aH (I:=fun q l m=>∃ (v:Int) (t:Nat) (O:Pt Fp),l= [(0,.vsl 9 n cap (ptsG P)),(3,.ptr 0 0 0),(4,.ptr 1 0 0),(5,.ptr 2 0 0),(6,.int .i64 v)] /\
  m= [some ⟨1,4,lstG 1 (numL x)⟩,some ⟨9,1,lstG 9 z9⟩,some ⟨9,1,lstG 9 (rawL (isI O) (xN O) (yN O))⟩] /\ q+t=n/\v=(q:Int) - 1/\O=horP P x n t) n
  (l0:= [(0,.vsl 9 n cap (ptsG P)),(3,.ptr 0 0 0),(4,.ptr 1 0 0),(5,.ptr 2 0 0),(6,.int .i64 ((n:Int) - 1))])
  (m0:= [some ⟨1,4,lstG 1 (numL x)⟩,some ⟨9,1,lstG 9 z9⟩,some ⟨9,1,lstG 9 (rawL (isI .inf) (xN .inf) (yN .inf))⟩]) [some 0,some 1,some 2] ⟨_,0,.inf,rfl,rfl,rfl,rfl,rfl⟩ ?_ ?_
 · refine .mk0 ⟨.eq _ _ rfl (.vsl _ _ _ _ rfl (fun _ _ _ _=>bK)),.ptr _ _ _ _ rfl,.ptr _ _ _ _ rfl,.ptr _ _ _ _ rfl,Flat.i e10,trivial⟩ ⟨.old 0 0 _ _ rfl rfl ⟨rfl,Nat.le_refl _,fun i j hi hj=> .eq _ _ rfl aJ⟩,
    .old 1 1 _ _ rfl rfl ⟨rfl,Nat.le_refl _,fun i j hi hj=>rv_one (l:=z9) hi flat_z9⟩,.old 2 2 _ _ rfl rfl ⟨rfl,Nat.le_refl _,fun i j hi hj=> .eq _ _ rfl flat_ptG9⟩,trivial⟩ rfl rfl
 · rintro q l m ⟨v,t,O,rfl,rfl,hq,hv,hO⟩
   conv=>whnf
   repeat (refine⟨⟨[],rfl⟩,?_⟩;conv=>whnf)
   refine aE (fun hb=> ?_) (fun hb=> ?_)
   · have hb:v >= 0:=of_decide_eq_true hb
     obtain⟨k,rfl⟩ :∃ k,q=k+1:=⟨q - 1,by omega⟩
     obtain rfl:v=(k:Int):=by omega
     have oO:On O:=by rw [hO];exact On.horP oP t (by omega)
     conv=>whnf
     repeat (refine⟨⟨[],rfl⟩,?_⟩;conv=>whnf)
     refine aA (by simp;omega) ?_
     conv=>whnf
     repeat (refine⟨⟨[],rfl⟩,?_⟩;conv=>whnf)
     refine aBx hx (fun r hr=> ?_)
     have hr1:r<w256:=by rw [hr];exact Nat.lt_trans (Nat.mod_lt _ (by decide)) (by decide)
     conv=>whnf
     repeat (refine⟨⟨[],rfl⟩,?_⟩;conv=>whnf)
     refine T_rTimes (P:=O) hr1 oO (fun T oT hT=> ?_)
     conv=>whnf
     repeat (refine⟨⟨[],rfl⟩,?_⟩;conv=>whnf)
     refine T_rSum (Q:=P k) oT (oP k (by omega)) (fun S oS hS=> ?_)
     have hS:S=horP P x n (t+1):=by rw [hS,hT,hr,mR oO,horP_succ,hO,show n - 1 - t=k by omega]
     conv=>whnf
     repeat (refine⟨⟨[],rfl⟩,?_⟩;conv=>whnf)
     have e5:IntKind.i64.wrap ((k:Int) - 1)=(k:Int) - 1:=w64 (by omega) (by omega)
     refine⟨k,_,_,[some 0,some 1,some 2],Nat.lt_succ_self _,⟨(k:Int) - 1,t+1,S,rfl,rfl,by omega,rfl,hS⟩,?_⟩
     exact .mk0 ⟨.eq _ _ rfl (.vsl _ _ _ _ rfl (fun _ _ _ _=>bK)),.ptr _ _ _ _ rfl,.ptr _ _ _ _ rfl,.ptr _ _ _ _ rfl,Flat.i e5,trivial⟩ ⟨.old 0 0 _ _ rfl rfl ⟨rfl,Nat.le_refl _,fun i j hi hj=> .eq _ _ rfl lI⟩,
      .old 1 1 _ _ rfl rfl ⟨rfl,Nat.le_refl _,fun i j hi hj=> .eq _ _ rfl flat_z9⟩,.old 2 2 _ _ rfl rfl ⟨rfl,Nat.le_refl _,fun i j hi hj=> .eq _ _ rfl flat_ptG9⟩,trivial⟩ rfl rfl
   · have hb:¬ v >= 0:=of_decide_eq_false hb
     obtain rfl:q=0:=by omega
     obtain rfl:t=n:=by omega
     rw [horP_all oP]at hO
     conv=>whnf
     repeat (refine⟨⟨[],rfl⟩,?_⟩;conv=>whnf)
     rw [<- hO]
     exact⟨rfl,aW⟩
theorem S_RAt {m:Mem} {a:AV} {K:AV->Mem->Prop} {n x:Nat} {P:Nat->Pt Fp} (ha:bZ m a 9 n (ptsG P)) (hx:x<w256) (oP:∀ i,i<n->On (P i)) (hn:n<=140737488355328) (h:∀ R,On R->R=polyP P x n->K (ptA R) m):ACall Pg kC [a,numA x] m K:=by
 obtain⟨cap,hl⟩:=ha
 refine aD (S_RAt0 n cap P x hx oP hn) (.cons _ _ _ _ hl (.cons _ _ _ _ aG .nil)) ?_
 rintro v rfl
 exact h _ (On.polyP oP) rfl
theorem S_rsame0 (i j:Bool) (x y u v:Nat) (hx:x<w256) (hy:y<w256) (hu:u<w256) (hv:v<w256):ACall Pg iQ [rawA i x y,rawA j u v] [] (fun r _=>((i=j/\x=u/\y=v/\r= .bool true)\/(¬ (i=j/\x=u/\y=v)/\r= .bool false))/\Flat true r):=by
 refine xH ⟨rfl,?_⟩
 conv=>whnf
 refine aE (p:=_) (q:=_) (fun h=> ?_) (fun h=> ?_)
 · conv=>whnf
   refine c_eq_t hx hu (fun h1=> ?_) (fun h1=> ?_)
   · conv=>whnf
     have hij:i=j:=by cases i <;> cases j <;> first | rfl | exact absurd h (by decide)
     show ((i=j/\x=u/\y=v/\AV.bool (eqX y v)= .bool true)\/(¬ (i=j/\x=u/\y=v)/\AV.bool (eqX y v)= .bool false))/\Flat true (AV.bool (eqX y v))
     refine⟨?_,.bool _⟩
     rw [lU hy hv]
     by_cases e:y=v
     · exact .inl ⟨hij,h1,e,by rw [decide_eq_true e]⟩
     · exact .inr ⟨fun h=>e h.2.2,by rw [decide_eq_false e]⟩
   · conv=>whnf
     exact⟨.inr ⟨fun h=>h1 h.2.1,rfl⟩,.bool _⟩
 · conv=>whnf
   refine⟨.inr ⟨fun h1=> ?_,rfl⟩,.bool _⟩
   obtain⟨rfl,-,-⟩:=h1
   revert h
   cases i <;> decide
theorem S_rsame {m:Mem} {K:AV->Mem->Prop} {P Q:Pt Fp} (h1:P=Q->K (.bool true) m) (h2:P ≠ Q->K (.bool false) m):ACall Pg iQ [ptA P,ptA Q] m K:=by
 refine aD (S_rsame0 _ _ _ _ _ _ (xN_w P) (yN_w P) (xN_w Q) (yN_w Q)) (.cons _ _ _ _ (aF aW) (.cons _ _ _ _ (aF aW) .nil)) ?_
 rintro r (⟨a,b,c,rfl⟩ | ⟨a,rfl⟩)
 · exact h1 (gE (by rw [ptA,ptA,a,b,c]))
 · exact h2 fun e=>a (by subst e;exact⟨rfl,rfl,rfl⟩)
theorem S_RFits0 (n cap:Nat) (P:Nat->Pt Fp) (x y:Nat) (hx:x<w256) (hy:y<w256) (oP:∀ i,i<n->On (P i)) (hn:n<=140737488355328):ACall Pg fX [.vsl 9 n cap (ptsG P),numA x,numA y] [] (fun v _=>((nmul y gG=polyP P x n/\v= .bool true)\/(nmul y gG ≠ polyP P x n/\v= .bool false))/\Flat true v):=by
 refine xK ⟨rfl,?_⟩
 conv=>whnf
 repeat (refine⟨⟨[],rfl⟩,?_⟩;conv=>whnf)
 refine T_rBase hy (fun Q oQ hQ=> ?_)
 conv=>whnf
 repeat (refine⟨⟨[],rfl⟩,?_⟩;conv=>whnf)
 refine S_RAt (P:=P) (bZ.vsl fun _ _ _ _=>bK) hx oP hn (fun R oR hR=> ?_)
 rw [<- hQ,<- hR]
 conv=>whnf
 repeat (refine⟨⟨[],rfl⟩,?_⟩;conv=>whnf)
 refine S_rsame (P:=Q) (Q:=R) (fun e=> ?_) (fun e=> ?_)
 · conv=>whnf
   repeat (refine⟨⟨[],rfl⟩,?_⟩;conv=>whnf)
   exact⟨.inl ⟨e,rfl⟩,.bool _⟩
 · conv=>whnf
   repeat (refine⟨⟨[],rfl⟩,?_⟩;conv=>whnf)
   exact⟨.inr ⟨e,rfl⟩,.bool _⟩
theorem S_RFits {m:Mem} {a:AV} {K:AV->Mem->Prop} {n x y:Nat} {P:Nat->Pt Fp} (ha:bZ m a 9 n (ptsG P)) (hx:x<w256) (hy:y<w256) (oP:∀ i,i<n->On (P i)) (hn:n<=140737488355328) (h1:nmul y gG=polyP P x n->K (.bool true) m) (h2:nmul y gG ≠ polyP P x n->K (.bool false) m):ACall Pg fX [a,numA x,numA y] m K:=by
 obtain⟨cap,hl⟩:=ha
 refine aD (S_RFits0 n cap P x y hx hy oP hn) (.cons _ _ _ _ hl (.cons _ _ _ _ aG (.cons _ _ _ _ aG .nil))) ?_
 rintro v (⟨e,rfl⟩ | ⟨e,rfl⟩)
 · exact h1 e
 · exact h2 e
theorem S_TwinPoints0 (n cap:Nat) (I:Nat->Bool) (X Y:Nat->Nat) (hn:n<=1000000):ACall Pg fA [.vsl 9 n cap (dA I X Y)] [] (fun v m'=>∃ n' G,(n'=n/\G=dA I X Y)/\RetG 9 n' G v m'):=by
 refine qJ ⟨rfl,?_⟩
 conv=>whnf
 repeat (refine⟨⟨[],rfl⟩,?_⟩;conv=>whnf)
 refine aA (bM rfl rfl rfl (by omega) (by omega)) (fun cap' hcap=> ?_)
 conv=>whnf
 repeat (refine⟨⟨[],rfl⟩,?_⟩;conv=>whnf)
 refine⟨n,dA I X Y,⟨rfl,rfl⟩,.inr ⟨0,cap',_,_,by first | rfl | (rw [Nat.zero_add];rfl) | rw [Nat.zero_add],rfl,by omega,fun i j hi hj=> ?_⟩⟩
 rw [bL (by omega)];rfl
theorem jP {m:Mem} {x:AV} {K:AV->Mem->Prop} {n:Nat} {I:Nat->Bool} {X Y:Nat->Nat} (hx:bZ m x 9 n (dA I X Y)) (hn:n<=1000000) (hK:∀ cap,memK (m++ [some ⟨9,n,dA I X Y⟩]) (K (.sl m.length 0 n cap))):ACall Pg fA [x] m K:=by
 simp only [dJ]at hK
 obtain⟨cap,hl⟩:=hx
 refine lift_G (S_TwinPoints0 n cap I X Y hn) (fun n G hR i j _ _=>by rw [hR.2];exact dG) (.cons _ _ _ _ hl .nil) ?_
 rintro n' G cap' ⟨rfl,rfl⟩
 exact hK cap'
theorem S_kPoints0 (n c1 c2:Nat) (I:Nat->Bool) (X Y:Nat->Nat) (hX:∀ i,i<n->X i<w256) (hY:∀ i,i<n->Y i<w256) (hn:n<=140737488355328):ACall Pg iD [.vsl 9 n c1 (dA I X Y),.vsl 9 n c2 (dA I X Y)] [] (fun v _=>v= .bool true/\Flat true v):=by
 refine vS ⟨rfl,?_⟩
 conv=>whnf
 repeat (refine⟨⟨[],rfl⟩,?_⟩;conv=>whnf)
 refine aE (fun h=>by exfalso;simp at h) (fun h=> ?_)
 conv=>whnf
 repeat (refine⟨⟨[],rfl⟩,?_⟩;conv=>whnf)
 refine aR aH (I:=fun q l m=>∃ (k:Nat),l= [(0,.vsl 9 n c1 (dA I X Y)),(1,.vsl 9 n c2 (dA I X Y)),(5,.int .i64 k)] /\ m= [] /\ q+k=n) n
  (l0:= [(0,.vsl 9 n c1 (dA I X Y)),(1,.vsl 9 n c2 (dA I X Y)),(5,.int .i64 (0:Nat))]) (m0:= []) [] ⟨0,rfl,rfl,rfl⟩ ?_ ?_
 · exact .mk0 ⟨.eq _ _ rfl (.vsl _ _ _ _ rfl (fun _ _ _ _=>dG)),.eq _ _ rfl (.vsl _ _ _ _ rfl (fun _ _ _ _=>dG)),Flat.i rfl,trivial⟩ trivial rfl rfl
 · rintro q l m ⟨k,rfl,rfl,hq⟩
   conv=>whnf
   repeat (refine⟨⟨[],rfl⟩,?_⟩;conv=>whnf)
   refine aE (fun hb=> ?_) (fun hb=> ?_)
   · have hb:k<n:=by simp at hb;omega
     conv=>whnf
     repeat (refine⟨⟨[],rfl⟩,?_⟩;conv=>whnf)
     refine aA (by simp;omega) ?_
     conv=>whnf
     repeat (refine⟨⟨[],rfl⟩,?_⟩;conv=>whnf)
     refine aA (by simp;omega) ?_
     conv=>whnf
     repeat (refine⟨⟨[],rfl⟩,?_⟩;conv=>whnf)
     refine S_kPoint_eq (i:=I k) (x:=X k) (y:=Y k) (hX k hb) (hY k hb) ?_
     conv=>whnf
     repeat (refine⟨⟨[],rfl⟩,?_⟩;conv=>whnf)
     have e5:IntKind.i64.wrap ((k:Int)+1)=((k+1:Nat):Int):=by rw [w64 (by omega) (by omega)];omega
     refine⟨q - 1,[(0,.vsl 9 n c1 (dA I X Y)),(1,.vsl 9 n c2 (dA I X Y)),(5,.int .i64 ((k+1:Nat):Int))],[],[],by omega,⟨k+1,rfl,rfl,by omega⟩,?_⟩
     exact .mk0 ⟨.eq _ _ rfl (.vsl _ _ _ _ rfl (fun _ _ _ _=>dG)),.eq _ _ rfl (.vsl _ _ _ _ rfl (fun _ _ _ _=>dG)),Flat.i e5,trivial⟩ trivial rfl rfl
   · conv=>whnf
     repeat (refine⟨⟨[],rfl⟩,?_⟩;conv=>whnf)
     exact⟨rfl,.bool _⟩
theorem S_kPoints {m:Mem} {x y:AV} {K:AV->Mem->Prop} {n:Nat} {I:Nat->Bool} {X Y:Nat->Nat} (hx:bZ m x 9 n (dA I X Y)) (hy:bZ m y 9 n (dA I X Y)) (hX:∀ i,i<n->X i<w256) (hY:∀ i,i<n->Y i<w256) (hn:n<=140737488355328) (h:K (.bool true) m):ACall Pg iD [x,y] m K:=by
 obtain⟨c1,hl⟩:=hx
 obtain⟨c2,hl2⟩:=hy
 refine aD (S_kPoints0 n c1 c2 I X Y hX hY hn) (.cons _ _ _ _ hl (.cons _ _ _ _ hl2 .nil)) ?_
 rintro v rfl
 exact h
end Go.Proofs.YtfolpdmbpbbimaaGreat
end

section
namespace Go.Proofs.YtfolpdmbpbbimaaGreat
open Go Go.Wit
theorem map_get {es:Nat} {g:Nat->AV} {l:List AV} (h:(List.range es).map g=l) {j:Nat} (hj:j<es):g j=l.getD j .un:=by
 subst h
 rw [List.getD_eq_getElem?_getD,List.getElem?_map,List.getElem?_range hj]
 rfl
theorem ok_pointsL {av:AV} (h:okV (.sl 9 yZ) av):∃ (n cap:Nat) (I:Nat->Bool) (X Y:Nat->Nat),cR av (.vsl 9 n cap (dA I X Y))/\n<=cap/\cap<=Go.maxLen/\(∀ i,i<n->X i<w256)/\∀ i,i<n->Y i<w256:=by
 simp only [okV]at h
 unfold okC at h
 obtain⟨n,cap,get,he,h1,h2,h3⟩:=h
 obtain rfl:=List.head_eq_of_cons_eq he
 classical
 have sp:∀ i,i<n->∃ p:Bool × Nat × Nat,p.2.1<w256/\p.2.2<w256/\(List.range 9).map (get i)=rawL p.1 p.2.1 p.2.2:=fun i hi=>by
  obtain⟨b,x,y,hx,hy,e⟩:=uG (h3 i hi)
  exact⟨(b,x,y),hx,hy,e⟩
 refine⟨n,cap,fun i=>if hi:i<n then (sp i hi).choose.1 else false,fun i=>if hi:i<n then (sp i hi).choose.2.1 else 0,fun i=>if hi:i<n then (sp i hi).choose.2.2 else 0,cR.vsl (fun i j hi hj=>cR.of_eq ?_),h1,h2,fun i hi=> ?_,fun i hi=> ?_⟩
 · have:=(sp i hi).choose_spec.2.2
   unfold dA
   simp only [dif_pos hi]
   exact map_get this hj
 · simp only [dif_pos hi];exact(sp i hi).choose_spec.1
 · simp only [dif_pos hi];exact(sp i hi).choose_spec.2.1
theorem bZ.own {m:Mem} {l es n cap N:Nat} {G:Nat->Nat->AV} (h:m[l]? = some (some ⟨es,N,G⟩)) (hn:n<=N) (hf:∀ i j,Flat false (G i j)):bZ m (.sl l 0 n cap) es n G:=
 bZ.sl h (by omega) fun i j _ _=>⟨by rw [Nat.zero_add],hf i j⟩
end Go.Proofs.YtfolpdmbpbbimaaGreat
end

section
namespace Go.Proofs.YtfolpdmbpbbimaaGreat
open Go Go.Wit
def rowsG (N C:Nat->Nat) (I:Nat->Nat->Bool) (X Y:Nat->Nat->Nat):Nat->Nat->AV:=fun k _=> .vsl 9 (N k) (C k) (dA (I k) (X k) (Y k))
theorem bZ.raws {m:Mem} {n cap:Nat} {I:Nat->Bool} {X Y:Nat->Nat} {P:Nat->Pt Fp} (h:∀ i,i<n->rawL (I i) (X i) (Y i)=rawL (isI (P i)) (xN (P i)) (yN (P i))):bZ m (.vsl 9 n cap (dA I X Y)) 9 n (ptsG P):=
 ⟨cap,.vsl _ _ _ _ _ fun i j hi hj=>⟨by unfold ptsG dA;rw [h i hi],bK⟩⟩
def ShowsR (m:Mem) (x:AV) (r:Nat) (N:Nat->Nat) (I:Nat->Nat->Bool) (X Y:Nat->Nat->Nat):Prop:= ∃ cap C,Lend (fun _=>none) (List.range m.length) m x (.vsl 1 r cap (rowsG N C I X Y))
theorem ShowsR.nils {m:Mem} {N:Nat->Nat} {I:Nat->Nat->Bool} {X Y:Nat->Nat->Nat}:ShowsR m .nils 0 N I X Y:=⟨0,fun _=>0,.nils _ _⟩
theorem ShowsR.sl {m:Mem} {l off r cap M:Nat} {N:Nat->Nat} {I:Nat->Nat->Bool} {X Y:Nat->Nat->Nat} {g:Nat->Nat->AV} (h:m[l]? = some (some ⟨1,M,g⟩)) (hn:off+r<=M) (hG:∀ i,i<r->bZ m (g (off+i) 0) 9 (N i) (dA (I i) (X i) (Y i))):ShowsR m (.sl l off r cap) r N I X Y:=by
 have hC:∃ C:Nat->Nat,∀ i,i<r->Lend (fun _=>none) (List.range m.length) m (g (off+i) 0) (.vsl 9 (N i) (C i) (dA (I i) (X i) (Y i))):=by
  refine⟨fun i=>if h:i<r then Classical.choose (hG i h)else 0,fun i hi=> ?_⟩
  dsimp only
  rw [dif_pos hi]
  exact Classical.choose_spec (hG i hi)
 obtain⟨C,hC⟩:=hC
 refine⟨cap,C,.slR l off r cap ⟨1,M,g⟩ _ (List.mem_range.2 (bJ h)) h hn fun i j hi hj=> ?_⟩
 have hj:j<1:=hj
 obtain rfl:j=0:=by omega
 exact hC i hi
end Go.Proofs.YtfolpdmbpbbimaaGreat
end

section
namespace Go.Proofs.YtfolpdmbpbbimaaGreat
open Go Go.Wit
def plOk (i j:Int):Bool:=isD i && (isD j && !(i == j))
def plN (i j:Int):Int:=if j<i then j - 1 else j - 2
theorem kR {i j:Int} (h:plOk i j=true):1<=i/\i<=8/\1<=j/\j<=8/\i ≠ j/\0<=plN i j/\plN i j<=6:=by
 simp only [plOk,isD,Bool.and_eq_true,decide_eq_true_eq,Bool.not_eq_true',beq_eq_false_iff_ne,ne_eq]at h
 unfold plN
 split <;> omega
theorem S_jdealer {m:Mem} {K:AV->Mem->Prop} {i:Int} (h:K (.bool (isD i)) m):ACall Pg jC [.int .i64 i] m K:=by
 have h0:ACall Pg jC [.int .i64 i] [] (fun v _=>v= .bool (isD i)/\Flat true v):=by
  refine B_judge_dealer ⟨rfl,?_⟩
  conv=>whnf
  repeat (refine⟨⟨_,rfl⟩,?_⟩;conv=>whnf)
  refine aE (fun h=> ?_) (fun h=> ?_)
  · conv=>whnf
    repeat (refine⟨⟨_,rfl⟩,?_⟩;conv=>whnf)
    have e:decide (1<=i)=true:=by simpa using h
    exact⟨by unfold isD;rw [e];rfl,.bool _⟩
  · conv=>whnf
    repeat (refine⟨⟨_,rfl⟩,?_⟩;conv=>whnf)
    have e:decide (1<=i)=false:=by simpa using h
    exact⟨by unfold isD;rw [e];rfl,.bool _⟩
 refine aD h0 (.cons _ _ _ _ aK .nil) ?_
 rintro v rfl
 exact h
theorem S_Place0 (i j:Int):ACall Pg fN [.int .i64 i,.int .i64 j] [] (fun v _=>((plOk i j=true/\v= .tup [.int .i64 (plN i j),.int .i64 0])\/(plOk i j=false/\v= .tup [.int .i64 0,.int .i64 1]))/\Flat true v):=by
  refine B_judge_Place ⟨rfl,?_⟩
  conv=>whnf
  repeat (refine⟨⟨_,rfl⟩,?_⟩;conv=>whnf)
  refine S_jdealer ?_
  cases hi:isD i with
  | false =>
    conv=>whnf
    repeat (refine⟨⟨_,rfl⟩,?_⟩;conv=>whnf)
    exact⟨.inr ⟨by simp [plOk,hi],rfl⟩,flat_ii⟩
  | true =>
    conv=>whnf
    repeat (refine⟨⟨_,rfl⟩,?_⟩;conv=>whnf)
    refine S_jdealer ?_
    cases hj:isD j with
    | false =>
      conv=>whnf
      repeat (refine⟨⟨_,rfl⟩,?_⟩;conv=>whnf)
      exact⟨.inr ⟨by simp [plOk,hi,hj],rfl⟩,flat_ii⟩
    | true =>
      conv=>whnf
      repeat (refine⟨⟨_,rfl⟩,?_⟩;conv=>whnf)
      refine aE (fun h=> ?_) (fun h=> ?_)
      · have h:i=j:=by simpa using h
        conv=>whnf
        repeat (refine⟨⟨_,rfl⟩,?_⟩;conv=>whnf)
        exact⟨.inr ⟨by simp [plOk,h],rfl⟩,flat_ii⟩
      · have h:¬ i=j:=by simpa using h
        have hok:plOk i j=true:=by simp [plOk,hi,hj,h]
        have hb:=kR hok
        conv=>whnf
        repeat (refine⟨⟨_,rfl⟩,?_⟩;conv=>whnf)
        refine aE (fun h2=> ?_) (fun h2=> ?_)
        · have h2:=of_decide_eq_true h2
          conv=>whnf
          repeat (refine⟨⟨_,rfl⟩,?_⟩;conv=>whnf)
          refine⟨.inl ⟨hok,?_⟩,flat_ii⟩
          rw [w64 (by omega) (by omega)]
          unfold plN;rw [if_pos h2]
        · have h2:=of_decide_eq_false h2
          conv=>whnf
          repeat (refine⟨⟨_,rfl⟩,?_⟩;conv=>whnf)
          refine⟨.inl ⟨hok,?_⟩,flat_ii⟩
          rw [w64 (by omega) (by omega)]
          unfold plN;rw [if_neg h2]
theorem S_Place {m:Mem} {K:AV->Mem->Prop} {i j:Int} (h1:plOk i j=true->∀ p,p=plN i j->K (.tup [.int .i64 p,.int .i64 0]) m) (h2:plOk i j=false->K (.tup [.int .i64 0,.int .i64 1]) m):ACall Pg fN [.int .i64 i,.int .i64 j] m K:=by
 refine aD (S_Place0 i j) (.cons _ _ _ _ aK (.cons _ _ _ _ aK .nil)) ?_
 rintro v (⟨h,rfl⟩ | ⟨h,rfl⟩)
 · exact h1 h _ rfl
 · exact h2 h
def comP (d:Dl):Prop:= ∀ k,k<d.nc->∃ P,On P/\rawA (d.I k) (d.X k) (d.Y k)=ptA P
def posP (d:Dl) (p:Int):Prop:=d.ps=true/\p<d.ns/\d.nc<=64/\comP d
def OkD (d:Dl):Prop:=d.x<w256/\d.y<w256/\d.u<w256/\d.v<w256/\(∀ k,k<d.nc->d.X k<w256)/\(∀ k,k<d.nc->d.Y k<w256)/\(∀ k,k<d.ns->∀ b,b<32->0<=d.S k b/\d.S k b<=255)/\d.ns<=1000000/\d.nc<=1000000
def dlA (d:Dl) (c1 c2:Nat):AV:= .agg (dlL d (.vsl 32 d.ns c1 (dB d.S)) (.vsl 9 d.nc c2 (dA d.I d.X d.Y)))
theorem flats_of:∀ {nv:Bool} {l:List AV},(∀ j,Flat nv (l.getD j .un))->Flats nv l
 | _,[],_=> .nil
 | nv,a::r,h=> .cons _ _ (by simpa using h 0) (flats_of fun j=>by simpa using h (j+1))
theorem flat_dlA {d:Dl} {c1 c2:Nat}:Flat false (dlA d c1 c2):= .agg _ (flats_of fun j=>flat_dlL lH uP j)
theorem S_posted0 (d:Dl) (c1 c2:Nat) (p:Int) (hX:∀ k,k<d.nc->d.X k<w256) (hY:∀ k,k<d.nc->d.Y k<w256):ACall Pg kQ [dlA d c1 c2,.int .i64 p] [] (fun v _=>((posP d p/\v= .bool true)\/(¬ posP d p/\v= .bool false))/\Flat true v):=by
  obtain⟨ac,i,x,y,lb,hd,ps,ns,S,nc,I,X,Y,bd,st,j,u,v⟩:=d
  dsimp only at hX hY
  refine B_judge_posted ⟨rfl,?_⟩
  cases ps with
  | false =>
    conv=>whnf
    repeat (refine⟨⟨_,rfl⟩,?_⟩;conv=>whnf)
    exact⟨.inr ⟨fun h=>Bool.noConfusion h.1,rfl⟩,.bool _⟩
  | true =>
    conv=>whnf
    repeat (refine⟨⟨_,rfl⟩,?_⟩;conv=>whnf)
    refine aE (fun h1=> ?_) (fun h1=> ?_)
    rotate_left
    · have h1:p >= (ns:Int):=lS h1
      conv=>whnf
      repeat (refine⟨⟨_,rfl⟩,?_⟩;conv=>whnf)
      exact⟨.inr ⟨fun h=>absurd h.2.1 (by show ¬ p<(ns:Int);omega),rfl⟩,.bool _⟩
    have h1:¬ p >= (ns:Int):=nR h1
    conv=>whnf
    repeat (refine⟨⟨_,rfl⟩,?_⟩;conv=>whnf)
    refine aE (fun h2=> ?_) (fun h2=> ?_)
    · have h2:(nc:Int) > 64:=of_decide_eq_true h2
      conv=>whnf
      repeat (refine⟨⟨_,rfl⟩,?_⟩;conv=>whnf)
      exact⟨.inr ⟨fun h=>absurd h.2.2.1 (by show ¬ nc<=64;omega),rfl⟩,.bool _⟩
    have h2:¬ (nc:Int) > 64:=of_decide_eq_false h2
    conv=>whnf
    repeat (refine⟨⟨_,rfl⟩,?_⟩;conv=>whnf)
    refine aR aH (I:=fun q l m=>∃ (k:Nat),l= [(24,.vsl 9 nc c2 (dA I X Y)),(25,.int .i64 nc),(26,.int .i64 k)] /\ m= [] /\ q+k=nc/\∀ j,j<k->∃ P,On P/\rawA (I j) (X j) (Y j)=ptA P) nc
      (l0:= [(24,.vsl 9 nc c2 (dA I X Y)),(25,.int .i64 nc),(26,.int .i64 (0:Nat))]) (m0:= []) [] ⟨0,rfl,rfl,rfl,fun j hj=>by omega⟩ ?_ ?_
    · exact .mk0 ⟨.eq _ _ rfl uP,Flat.i rfl,Flat.i rfl,trivial⟩ trivial rfl rfl
    · rintro q l m ⟨k,rfl,rfl,hq,hA⟩
      conv=>whnf
      repeat (refine⟨⟨_,rfl⟩,?_⟩;conv=>whnf)
      refine aE (fun hb=> ?_) (fun hb=> ?_)
      · have hb:k<nc:=by simp at hb;omega
        conv=>whnf
        repeat (refine⟨⟨_,rfl⟩,?_⟩;conv=>whnf)
        refine aA (by simp;omega) ?_
        conv=>whnf
        repeat (refine⟨⟨_,rfl⟩,?_⟩;conv=>whnf)
        refine S_CheckD (i:=I k) (x:=X k) (y:=Y k) rfl (hX k hb) (hY k hb) (fun P oP eP=> ?_) (fun hbad=> ?_)
        · conv=>whnf
          repeat (refine⟨⟨_,rfl⟩,?_⟩;conv=>whnf)
          have e5:IntKind.i64.wrap ((k:Int)+1)=((k+1:Nat):Int):=by rw [w64 (by omega) (by omega)];omega
          refine⟨q - 1,[(24,.vsl 9 nc c2 (dA I X Y)),(25,.int .i64 nc),(26,.int .i64 ((k+1:Nat):Int))],[],[],by omega,⟨k+1,rfl,rfl,by omega,fun j hj=> ?_⟩,?_⟩
          · by_cases h:j=k
            · subst h;exact⟨P,oP,eP⟩
            · exact hA j (by omega)
          · exact .mk0 ⟨.eq _ _ rfl uP,Flat.i rfl,Flat.i e5,trivial⟩ trivial rfl rfl
        · conv=>whnf
          repeat (refine⟨⟨_,rfl⟩,?_⟩;conv=>whnf)
          exact⟨.inr ⟨fun h=>(h.2.2.2 k hb).elim fun P hP=>hbad P hP.1 hP.2,rfl⟩,.bool _⟩
      · have hb:k=nc:=by simp at hb;omega
        subst hb
        conv=>whnf
        repeat (refine⟨⟨_,rfl⟩,?_⟩;conv=>whnf)
        exact⟨.inl ⟨⟨rfl,by show p<(ns:Int);omega,by show k<=64;omega,hA⟩,rfl⟩,.bool _⟩
theorem S_posted {m:Mem} {K:AV->Mem->Prop} {v:AV} {d:Dl} {c1 c2:Nat} {p:Int} (hv:v=dlA d c1 c2) (hd:OkD d) (h1:posP d p->K (.bool true) m) (h2:¬ posP d p->K (.bool false) m):ACall Pg kQ [v,.int .i64 p] m K:=by
 subst hv
 refine aD (S_posted0 d c1 c2 p hd.2.2.2.2.1 hd.2.2.2.2.2.1) (.cons _ _ _ _ (aF flat_dlA) (.cons _ _ _ _ aK .nil)) ?_
 rintro v (⟨h,rfl⟩ | ⟨h,rfl⟩)
 · exact h1 h
 · exact h2 h
end Go.Proofs.YtfolpdmbpbbimaaGreat
end

section
namespace Go.Proofs.YtfolpdmbpbbimaaGreat
open Go Go.Wit
noncomputable def rawP (i:Bool) (x y:Nat):Pt Fp:=by
 classical
 exact if h:∃ P,On P/\rawA i x y=ptA P then h.choose else .inf
theorem rawP_eq {i:Bool} {x y:Nat} {P:Pt Fp} (oP:On P) (h:rawA i x y=ptA P):rawP i x y=P:=by
 classical
 have hh:∃ P,On P/\rawA i x y=ptA P:=⟨P,oP,h⟩
 unfold rawP
 rw [dif_pos hh]
 exact gE (hh.choose_spec.2.symm.trans h)
noncomputable def cmP (d:Dl):Nat->Pt Fp:=fun k=>rawP (d.I k) (d.X k) (d.Y k)
theorem cmP_on {d:Dl} (h:comP d):∀ k,k<d.nc->On (cmP d k)/\rawA (d.I k) (d.X k) (d.Y k)=ptA (cmP d k):=fun k hk=>by
 obtain⟨P,oP,eP⟩:=h k hk
 unfold cmP
 rw [rawP_eq oP eP]
 exact⟨oP,eP⟩
theorem exBad {d:Dl} (h:¬ comP d):∃ b,b<d.nc/\Bad (d.I b) (d.X b) (d.Y b):=by
 classical
 apply Classical.byContradiction
 intro hn
 refine h fun k hk=>Classical.byContradiction fun hk2=>hn ⟨k,hk,fun P oP eP=>hk2 ⟨P,oP,eP⟩⟩
theorem rawL_of {i:Bool} {x y:Nat} {P:Pt Fp} (h:rawA i x y=ptA P):rawL i x y=rawL (isI P) (xN P) (yN P):=by
 injection h
theorem S_FitsD {m:Mem} {K:AV->Mem->Prop} {v w:AV} {d:Dl} {c x y:Nat} (hv:v= .vsl 9 d.nc c (dA d.I d.X d.Y)) (hw:w=numA x) (hd:comP d) (hn:d.nc<=64) (hx:x<w256) (hy:y<w256)
 (h:∀ b:Bool,(b=true ↔ nmul y gG=polyP (cmP d) x d.nc)->K (.tup [.bool b,.int .i64 0]) m):ACall Pg mH [v,w,numA y] m K:=by
 subst hv hw
 refine S_Fits (P:=cmP d) (bZ.raws fun i hi=>rawL_of (cmP_on hd i hi).2) hx hy (fun i hi=>(cmP_on hd i hi).1) hn (fun e=>h true (by simp [e])) (fun e=>h false (by simp [e]))
def hasP (r:Nat) (D:Nat->Dl) (i j:Int):Prop:=i<=r/\j<=r/\posP (D (i.toNat - 1)) (plN i j)
noncomputable def fitV (D:Nat->Dl) (i j:Int) (K:Pt Fp):Nat:=ofZ (tnF K i j ((D (i.toNat - 1)).S (plN i j).toNat))
def FitE (r:Nat) (D:Nat->Dl) (i j:Int) (ki:Bool) (kx ky:Nat) (b:Bool) (e:Int):Prop:=
 (plOk i j=false/\b=false/\e=1)\/(plOk i j=true/\¬ hasP r D i j/\b=false/\e=5)\/(plOk i j=true/\hasP r D i j/\Bad ki kx ky/\b=false/\e=3)\/
 (plOk i j=true/\hasP r D i j/\∃ K,On K/\rawA ki kx ky=ptA K/\e=0/\(b=true ↔ fitV D i j K<nN/\nmul (fitV D i j K) gG=polyP (cmP (D (i.toNat - 1))) j.toNat (D (i.toNat - 1)).nc))
theorem FitE.same {r:Nat} {D:Nat->Dl} {i j:Int} {ki:Bool} {kx ky:Nat} {b b':Bool} {e e':Int} (h:FitE r D i j ki kx ky b e) (h':FitE r D i j ki kx ky b' e'):b=b'/\e=e':=by
 rcases h with⟨h1,hb,he⟩ | ⟨h1,h2,hb,he⟩ | ⟨h1,h2,h3,hb,he⟩ | ⟨h1,h2,K,oK,eK,he,h3⟩
 · rcases h' with⟨g1,gb,ge⟩ | ⟨g1,_⟩ | ⟨g1,_⟩ | ⟨g1,_⟩
   · exact⟨hb.trans gb.symm,he.trans ge.symm⟩
   all_goals (rw [h1]at g1;cases g1)
 · rcases h' with⟨g1,_⟩ | ⟨g1,g2,gb,ge⟩ | ⟨g1,g2,_⟩ | ⟨g1,g2,_⟩
   · rw [h1]at g1;cases g1
   · exact⟨hb.trans gb.symm,he.trans ge.symm⟩
   all_goals exact absurd g2 h2
 · rcases h' with⟨g1,_⟩ | ⟨g1,g2,_⟩ | ⟨g1,g2,g3,gb,ge⟩ | ⟨g1,g2,K',oK',eK',_⟩
   · rw [h1]at g1;cases g1
   · exact absurd h2 g2
   · exact⟨hb.trans gb.symm,he.trans ge.symm⟩
   · exact absurd eK' (h3 K' oK')
 · rcases h' with⟨g1,_⟩ | ⟨g1,g2,_⟩ | ⟨g1,g2,g3,gb,ge⟩ | ⟨g1,g2,K',oK',eK',ge,g3⟩
   · rw [h1]at g1;cases g1
   · exact absurd h2 g2
   · exact absurd eK (g3 K oK)
   · obtain rfl:K=K':=gE (eK.symm.trans eK')
     refine⟨?_,he.trans ge.symm⟩
     rw [Bool.eq_iff_iff,h3,g3]
theorem S_OpenPt {m:Mem} {K:AV->Mem->Prop} {v w:AV} {P:Pt Fp} {a b:Int} {f:Nat->Int} (hv:v=ptA P) (hw:w= .agg (rowL f)) (oP:On P) (ha:isD a=true) (hb:isD b=true) (hf:∀ i,i<32->0<=f i/\f i<=255) (h:∀ n,n=ofZ (tnF P a b f)->n<w256->K (.tup [numA n,.int .i64 0]) m):ACall Pg mD [v,.int .i64 a,.int .i64 b,w] m K:=by
 subst hv hw
 refine S_Open (i:=isI P) (x:=xN P) (y:=yN P) (f:=f) (xN_w P) (yN_w P) hf (fun h=>by rw [ha,hb]at h;cases h) (fun _ _ h=>absurd rfl (h P oP)) (fun _ _ P2 n2 oP2 eP2 hn2=> ?_)
 obtain rfl:P=P2:=gE eP2
 exact h n2 hn2 (by rw [hn2];exact ofZ_lt (fun i _=>jJ _ _))
theorem S_JFits0 (r cap:Nat) (d1 d2:Nat->Nat) (D:Nat->Dl) (i j:Int) (ki:Bool) (kx ky:Nat) (hr:r<=1000000) (hD:∀ k,k<r->OkD (D k)) (hkx:kx<w256) (hky:ky<w256):
 ACall Pg iI [.vsl 26 r cap (dlG D d1 d2),.int .i64 i,.int .i64 j,rawA ki kx ky] [] (fun v _=>(∃ b e,FitE r D i j ki kx ky b e/\v= .tup [.bool b,.int .i64 e])/\Flat true v):=by
 refine B_judge_Fits ⟨rfl,?_⟩
 conv=>whnf
 repeat (refine⟨⟨_,rfl⟩,?_⟩;conv=>whnf)
 refine S_Place (fun hok p hp=> ?_) (fun hok=> ?_)
 rotate_left
 · conv=>whnf
   repeat (refine⟨⟨_,rfl⟩,?_⟩;conv=>whnf)
   exact⟨⟨false,1,.inl ⟨hok,rfl,rfl⟩,rfl⟩,eS⟩
 obtain⟨hi1,hi8,hj1,hj8,hne,hp0,hp6⟩:=kR hok
 obtain⟨a,rfl⟩ :∃ a:Nat,i=a:=⟨i.toNat,by omega⟩
 obtain⟨c,rfl⟩ :∃ c:Nat,j=c:=⟨j.toNat,by omega⟩
 obtain⟨q,rfl⟩ :∃ q:Nat,p=q:=⟨p.toNat,by omega⟩
 have e1:IntKind.i64.wrap ((a:Int) - 1)=((a - 1:Nat):Int):=by rw [w64 (by omega) (by omega)];omega
 conv=>whnf
 repeat (refine⟨⟨_,rfl⟩,?_⟩;conv=>whnf)
 refine aE (fun h1=> ?_) (fun h1=> ?_)
 rotate_left
 · have h1:=lS h1
   conv=>whnf
   repeat (refine⟨⟨_,rfl⟩,?_⟩;conv=>whnf)
   exact⟨⟨false,5,.inr (.inl ⟨hok,fun h=>absurd h.1 (by omega),rfl,rfl⟩),rfl⟩,eS⟩
 have h1:=nR h1
 conv=>whnf
 repeat (refine⟨⟨_,rfl⟩,?_⟩;conv=>whnf)
 refine aE (fun h2=> ?_) (fun h2=> ?_)
 rotate_left
 · have h2:=lS h2
   conv=>whnf
   repeat (refine⟨⟨_,rfl⟩,?_⟩;conv=>whnf)
   exact⟨⟨false,5,.inr (.inl ⟨hok,fun h=>absurd h.2.1 (by omega),rfl,rfl⟩),rfl⟩,eS⟩
 have h2:=nR h2
 conv=>whnf
 repeat (refine⟨⟨_,rfl⟩,?_⟩;conv=>whnf)
 rw [e1]
 refine aA (by simp;omega) ?_
 conv=>whnf
 repeat (refine⟨⟨_,rfl⟩,?_⟩;conv=>whnf)
 refine S_posted (d:=D (a - 1)) (c1:=d1 (a - 1)) (c2:=d2 (a - 1)) rfl (hD _ (by omega)) (fun h3=> ?_) (fun h3=> ?_)
 rotate_left
 · conv=>whnf
   repeat (refine⟨⟨_,rfl⟩,?_⟩;conv=>whnf)
   exact⟨⟨false,5,.inr (.inl ⟨hok,fun h=>h3 (by have:=h.2.2;rw [<- hp]at this;exact this),rfl,rfl⟩),rfl⟩,eS⟩
 have hhas:hasP r D a c:=⟨by omega,by omega,by rw [<- hp];exact h3⟩
 conv=>whnf
 repeat (refine⟨⟨_,rfl⟩,?_⟩;conv=>whnf)
 refine tB (i:=ki) hkx hky (fun K oK eK=> ?_) (fun hbad=> ?_)
 rotate_left
 · conv=>whnf
   repeat (refine⟨⟨_,rfl⟩,?_⟩;conv=>whnf)
   exact⟨⟨false,3,.inr (.inr (.inl ⟨hok,hhas,hbad,rfl,rfl⟩)),rfl⟩,eS⟩
 conv=>whnf
 repeat (refine⟨⟨_,rfl⟩,?_⟩;conv=>whnf)
 rw [e1]
 have hd:=hD (a - 1) (by omega)
 have hqn:q<(D (a - 1)).ns:=by have:=h3.2.1;omega
 refine aA (by simp;omega) ?_
 conv=>whnf
 repeat (refine⟨⟨_,rfl⟩,?_⟩;conv=>whnf)
 refine aA (by simp;omega) ?_
 conv=>whnf
 repeat (refine⟨⟨_,rfl⟩,?_⟩;conv=>whnf)
 refine S_OpenPt (P:=K) (a:=(a:Int)) (b:=(c:Int)) (f:=(D (a - 1)).S q) eK rfl oK (by unfold isD;simp;omega) (by unfold isD;simp;omega) (fun i hi=>hd.2.2.2.2.2.2.1 q hqn i hi) (fun n hn hnw=> ?_)
 conv=>whnf
 repeat (refine⟨⟨_,rfl⟩,?_⟩;conv=>whnf)
 have hfv:fitV D a c K=n:=by unfold fitV;rw [<- hp];exact hn.symm
 refine S_Prime_1 (fun p hp1=> ?_)
 conv=>whnf
 repeat (refine⟨⟨_,rfl⟩,?_⟩;conv=>whnf)
 refine S_LCmp hnw (by rw [hp1];decide) (fun z hz=> ?_)
 conv=>whnf
 repeat (refine⟨⟨_,rfl⟩,?_⟩;conv=>whnf)
 refine aE (fun h4=> ?_) (fun h4=> ?_)
 · have h5:¬ n<nN:=by
    rcases jM hz with⟨_,h⟩ | ⟨h,_⟩
    · rw [h]at h4;exact absurd h4 (by decide)
    · omega
   conv=>whnf
   repeat (refine⟨⟨_,rfl⟩,?_⟩;conv=>whnf)
   exact⟨⟨false,0,.inr (.inr (.inr ⟨hok,hhas,K,oK,eK,rfl,by rw [hfv];simp [h5]⟩)),rfl⟩,eS⟩
 have h5:n<nN:=by
  rcases jM hz with⟨h,_⟩ | ⟨_,h | h⟩
  · omega
  · rw [h]at h4;exact absurd h4 (by decide)
  · rw [h]at h4;exact absurd h4 (by decide)
 conv=>whnf
 repeat (refine⟨⟨_,rfl⟩,?_⟩;conv=>whnf)
 rw [e1]
 refine aA (by simp;omega) ?_
 conv=>whnf
 repeat (refine⟨⟨_,rfl⟩,?_⟩;conv=>whnf)
 have ec:AV.agg [.int .u64 (IntKind.u64.wrap (c:Int)),.int .u64 0,.int .u64 0,.int .u64 0] = numA c:=by
  have e:IntKind.u64.wrap (c:Int)=((c:Nat):Int):=by rw [wu64];omega
  rw [e]
  have:=aT (a:=c) (b:=0) (c:=0) (d:=0) (by omega) (by decide) (by decide) (by decide)
  have g:comb c 0 0 0=c:=by simp [comb]
  rw [g]at this
  exact this.symm
 refine S_FitsD (d:=D (a - 1)) (c:=d2 (a - 1)) (x:=c) rfl ec h3.2.2.2 h3.2.2.1 (by show c<2 ^ 256;omega) hnw (fun b hb=> ?_)
 conv=>whnf
 repeat (refine⟨⟨_,rfl⟩,?_⟩;conv=>whnf)
 refine⟨⟨b,0,.inr (.inr (.inr ⟨hok,hhas,K,oK,eK,rfl,?_⟩)),rfl⟩,eS⟩
 rw [hfv,hb]
 exact⟨fun h=>⟨h5,h⟩,fun h=>h.2⟩
theorem S_JFits {m:Mem} {x:AV} {K:AV->Mem->Prop} {r:Nat} {D:Nat->Dl} {i j:Int} {ki:Bool} {kx ky:Nat} (hx:cZ m x r D) (hr:r<=1000000) (hD:∀ k,k<r->OkD (D k)) (hkx:kx<w256) (hky:ky<w256)
 (h:∀ b e,FitE r D i j ki kx ky b e->K (.tup [.bool b,.int .i64 e]) m):ACall Pg iI [x,.int .i64 i,.int .i64 j,rawA ki kx ky] m K:=by
 obtain⟨cap,d1,d2,hl⟩:=hx
 refine aD (S_JFits0 r cap d1 d2 D i j ki kx ky hr hD hkx hky) (.cons _ _ _ _ hl (.cons _ _ _ _ aK (.cons _ _ _ _ aK (.cons _ _ _ _ (aF cU) .nil)))) ?_
 rintro v ⟨b,e,hf,rfl⟩
 exact h b e hf
theorem FitE.hear {r:Nat} {D:Nat->Dl} {i j:Int} {ki:Bool} {kx ky:Nat} {b:Bool} {e:Int} (h:FitE r D i j ki kx ky b e):(e ≠ 0/\b=false)\/(e=0/\plOk i j=true/\hasP r D i j/\∃ K,On K/\rawA ki kx ky=ptA K):=by
 rcases h with⟨h1,hb,he⟩ | ⟨h1,h2,hb,he⟩ | ⟨h1,h2,h3,hb,he⟩ | ⟨h1,h2,K,oK,eK,he,h3⟩
 · exact .inl ⟨by omega,hb⟩
 · exact .inl ⟨by omega,hb⟩
 · exact .inl ⟨by omega,hb⟩
 · exact .inr ⟨he,h1,h2,K,oK,eK⟩
def VerE (r:Nat) (D:Nat->Dl) (i j:Int) (ki:Bool) (kx ky c s:Nat) (e:Int):Prop:= ∃ b e0,FitE r D i j ki kx ky b e0/\
 ((e0 ≠ 0/\e=e0)\/(e0=0/\(Bad (D (i.toNat - 1)).i (D (i.toNat - 1)).x (D (i.toNat - 1)).y\/Bad (D (j.toNat - 1)).i (D (j.toNat - 1)).x (D (j.toNat - 1)).y)/\e=3)\/
  (e0=0/\∃ A B P,On A/\On B/\On P/\rawA (D (i.toNat - 1)).i (D (i.toNat - 1)).x (D (i.toNat - 1)).y=ptA A/\rawA (D (j.toNat - 1)).i (D (j.toNat - 1)).x (D (j.toNat - 1)).y=ptA B/\rawA ki kx ky=ptA P/\
   e=if hoB B A P c s=true then (if b=true then 13 else 0)else 12))
theorem VerE.same {r:Nat} {D:Nat->Dl} {i j:Int} {ki:Bool} {kx ky c s:Nat} {e e':Int} (h:VerE r D i j ki kx ky c s e) (h':VerE r D i j ki kx ky c s e'):e=e':=by
 obtain⟨b,e0,hf,h⟩:=h
 obtain⟨b',e0',hf',h'⟩:=h'
 obtain⟨rfl,rfl⟩:=hf.same hf'
 rcases h with⟨h1,h2⟩ | ⟨h1,h2,h3⟩ | ⟨h1,A,B,P,oA,oB,oP,eA,eB,eP,h3⟩
 · rcases h' with⟨g1,g2⟩ | ⟨g1,g2,g3⟩ | ⟨g1,_⟩
   · rw [h2,g2]
   · exact absurd g1 h1
   · exact absurd g1 h1
 · rcases h' with⟨g1,g2⟩ | ⟨g1,g2,g3⟩ | ⟨g1,A,B,P,oA,oB,oP,eA,eB,eP,g3⟩
   · exact absurd h1 g1
   · rw [h3,g3]
   · rcases h2 with h | h
     · exact absurd eA (h A oA)
     · exact absurd eB (h B oB)
 · rcases h' with⟨g1,g2⟩ | ⟨g1,g2,g3⟩ | ⟨g1,A',B',P',oA',oB',oP',eA',eB',eP',g3⟩
   · exact absurd h1 g1
   · rcases g2 with h | h
     · exact absurd eA (h A oA)
     · exact absurd eB (h B oB)
   · obtain rfl:A=A':=gE (eA.symm.trans eA')
     obtain rfl:B=B':=gE (eB.symm.trans eB')
     obtain rfl:P=P':=gE (eP.symm.trans eP')
     rw [h3,g3]
theorem S_HoldsD {m:Mem} {K:AV->Mem->Prop} {v w u z:AV} {i j l:Bool} {x1 y1 x2 y2 x3 y3 c r:Nat} (hv:v=rawA i x1 y1) (hw:w=rawA j x2 y2) (hu:u=rawA l x3 y3) (hz:z=prA c r) (hx1:x1<w256) (hy1:y1<w256) (hx2:x2<w256) (hy2:y2<w256) (hx3:x3<w256) (hy3:y3<w256) (hc:c<w256) (hr:r<w256)
 (h1:∀ A B P,On A->On B->On P->rawA i x1 y1=ptA A->rawA j x2 y2=ptA B->rawA l x3 y3=ptA P->∀ t,t=hoB A B P c r->K (.tup [.bool t,.int .i64 0]) m) (h2:(Bad i x1 y1\/Bad j x2 y2\/Bad l x3 y3)->K (.tup [.bool false,.int .i64 3]) m):ACall Pg iK [v,w,u,z] m K:=by
 subst hv hw hu hz
 by_cases hb:Bad i x1 y1\/Bad j x2 y2\/Bad l x3 y3
 · exact S_Holds_bad hx1 hy1 hx2 hy2 hx3 hy3 hb (h2 hb)
 · have ex:∀ {i:Bool} {x y:Nat},¬ Bad i x y->∃ P,On P/\rawA i x y=ptA P:=fun h=>Classical.byContradiction fun hn=>h fun P oP eP=>hn ⟨P,oP,eP⟩
   obtain⟨A,oA,eA⟩:=ex fun h=>hb (.inl h)
   obtain⟨B,oB,eB⟩:=ex fun h=>hb (.inr (.inl h))
   obtain⟨P,oP,eP⟩:=ex fun h=>hb (.inr (.inr h))
   have h1:=h1 A B P oA oB oP eA eB eP
   rw [eA,eB,eP]
   exact S_Holds hc hr oA oB oP h1
theorem S_Verdict0 (r cap:Nat) (d1 d2:Nat->Nat) (D:Nat->Dl) (i j:Int) (ki:Bool) (kx ky c s:Nat) (hr:r<=1000000) (hD:∀ k,k<r->OkD (D k)) (hkx:kx<w256) (hky:ky<w256) (hc:c<w256) (hs:s<w256):
    ACall Pg bF [.vsl 26 r cap (dlG D d1 d2),.int .i64 i,.int .i64 j,rawA ki kx ky,prA c s] [] (fun v _=>(∃ e,VerE r D i j ki kx ky c s e/\v= .int .i64 e)/\Flat true v):=by
  refine B_judge_Verdict ⟨rfl,?_⟩
  conv=>whnf
  repeat (refine⟨⟨_,rfl⟩,?_⟩;conv=>whnf)
  refine S_JFits (r:=r) (D:=D) .vsl hr hD hkx hky (fun b e0 hf=> ?_)
  conv=>whnf
  repeat (refine⟨⟨_,rfl⟩,?_⟩;conv=>whnf)
  refine aE (fun h1=> ?_) (fun h1=> ?_)
  · have h1:e0 ≠ 0:=by simpa using h1
    conv=>whnf
    repeat (refine⟨⟨_,rfl⟩,?_⟩;conv=>whnf)
    exact⟨⟨e0,⟨b,e0,hf,.inl ⟨h1,rfl⟩⟩,rfl⟩,.int _ _⟩
  have h1:e0=0:=by simpa using h1
  rcases hf.hear with⟨h,_⟩ | ⟨_,hok,hhas,P,oP,eP⟩
  · exact absurd h1 h
  obtain⟨hi1,hi8,hj1,hj8,hne,hp0,hp6⟩:=kR hok
  have hir:=hhas.1
  have hjr:=hhas.2.1
  obtain⟨a,rfl⟩ :∃ a:Nat,i=a:=⟨i.toNat,by omega⟩
  obtain⟨q,rfl⟩ :∃ q:Nat,j=q:=⟨j.toNat,by omega⟩
  have e1:IntKind.i64.wrap ((a:Int) - 1)=((a - 1:Nat):Int):=by rw [w64 (by omega) (by omega)];omega
  have e2:IntKind.i64.wrap ((q:Int) - 1)=((q - 1:Nat):Int):=by rw [w64 (by omega) (by omega)];omega
  conv=>whnf
  repeat (refine⟨⟨_,rfl⟩,?_⟩;conv=>whnf)
  rw [e2]
  refine aA (by simp;omega) ?_
  conv=>whnf
  repeat (refine⟨⟨_,rfl⟩,?_⟩;conv=>whnf)
  rw [e1]
  refine aA (by simp;omega) ?_
  conv=>whnf
  repeat (refine⟨⟨_,rfl⟩,?_⟩;conv=>whnf)
  have g1:=hD (a - 1) (by omega)
  have g2:=hD (q - 1) (by omega)
  refine S_HoldsD (i:=(D (q - 1)).i) (x1:=(D (q - 1)).x) (y1:=(D (q - 1)).y) (j:=(D (a - 1)).i) (x2:=(D (a - 1)).x) (y2:=(D (a - 1)).y) (l:=ki) (x3:=kx) (y3:=ky) (c:=c) (r:=s) rfl rfl rfl rfl g2.1 g2.2.1 g1.1 g1.2.1 hkx hky hc hs (fun B A P' oB oA oP' eB eA eP' t ht=> ?_) (fun hb=> ?_)
  rotate_left
  · conv=>whnf
    repeat (refine⟨⟨_,rfl⟩,?_⟩;conv=>whnf)
    refine⟨⟨3,⟨b,e0,hf,.inr (.inl ⟨h1,?_,rfl⟩)⟩,rfl⟩,.int _ _⟩
    rcases hb with h | h | h
    · exact .inr h
    · exact .inl h
    · exact absurd eP (h P oP)
  conv=>whnf
  repeat (refine⟨⟨_,rfl⟩,?_⟩;conv=>whnf)
  cases t with
  | false =>
    conv=>whnf
    repeat (refine⟨⟨_,rfl⟩,?_⟩;conv=>whnf)
    exact⟨⟨12,⟨b,e0,hf,.inr (.inr ⟨h1,A,B,P',oA,oB,oP',eA,eB,eP',by rw [<- ht];rfl⟩)⟩,rfl⟩,.int _ _⟩
  | true =>
    cases b with
    | false =>
      conv=>whnf
      repeat (refine⟨⟨_,rfl⟩,?_⟩;conv=>whnf)
      exact⟨⟨0,⟨false,e0,hf,.inr (.inr ⟨h1,A,B,P',oA,oB,oP',eA,eB,eP',by rw [<- ht];rfl⟩)⟩,rfl⟩,.int _ _⟩
    | true =>
      conv=>whnf
      repeat (refine⟨⟨_,rfl⟩,?_⟩;conv=>whnf)
      exact⟨⟨13,⟨true,e0,hf,.inr (.inr ⟨h1,A,B,P',oA,oB,oP',eA,eB,eP',by rw [<- ht];rfl⟩)⟩,rfl⟩,.int _ _⟩
theorem vC {m:Mem} {x:AV} {K:AV->Mem->Prop} {r:Nat} {D:Nat->Dl} {i j:Int} {ki:Bool} {kx ky c s:Nat} (hx:cZ m x r D) (hr:r<=1000000) (hD:∀ k,k<r->OkD (D k)) (hkx:kx<w256) (hky:ky<w256) (hc:c<w256) (hs:s<w256)
 (h:∀ e,VerE r D i j ki kx ky c s e->K (.int .i64 e) m):ACall Pg bF [x,.int .i64 i,.int .i64 j,rawA ki kx ky,prA c s] m K:=by
 obtain⟨cap,d1,d2,hl⟩:=hx
 refine aD (S_Verdict0 r cap d1 d2 D i j ki kx ky c s hr hD hkx hky hc hs) (.cons _ _ _ _ hl (.cons _ _ _ _ aK (.cons _ _ _ _ aK (.cons _ _ _ _ (aF cU) (.cons _ _ _ _ (aF pM) .nil))))) ?_
 rintro v ⟨e,hf,rfl⟩
 exact h e hf
end Go.Proofs.YtfolpdmbpbbimaaGreat
end

section
namespace Go.Proofs.YtfolpdmbpbbimaaGreat
open Go Go.Wit
theorem S_be40 (i:Nat) (hi:i<4294967296):ACall Pg jD [.int .i64 i] [] (fun v m'=>∃ n' f',(n'=4/\f'=beF (i:Nat) 4)/\RetB n' f' v m'):=by
 refine zO ⟨rfl,?_⟩
 conv=>whnf
 repeat (refine⟨⟨_,rfl⟩,?_⟩;conv=>whnf)
 refine⟨4,_,⟨rfl,rfl⟩,.inr ⟨0,_,4,_,rfl,rfl,Nat.le_refl _,fun j hj=> ?_⟩⟩
 rcases(show j=0\/j=1\/j=2\/j=3 by omega)with rfl | rfl | rfl | rfl
 · exact congrArg (AV.int .u8) (wu8 (i:Nat) (k:=0) (s:=4) (i:=0) (by omega) rfl)
 · exact congrArg (AV.int .u8) (wu8 (i:Nat) (k:=0) (s:=4) (i:=1) (by omega) rfl)
 · exact congrArg (AV.int .u8) (wu8 (i:Nat) (k:=0) (s:=4) (i:=2) (by omega) rfl)
 · refine congrArg (AV.int .u8) (Eq.trans ?_ (wu8 (i:Nat) (k:=0) (s:=4) (i:=3) (e:=0) (by omega) rfl))
   rw [show ((2:Int) ^ 0)=1 from rfl,Int.fdiv_one]
theorem S_be4 {m:Mem} {K:AV->Mem->Prop} {i:Nat} (hi:i<4294967296) (hK:∀ cap,memK (m++ [some ⟨1,4,aB (beF (i:Nat) 4)⟩]) (K (.sl m.length 0 4 cap))):ACall Pg jD [.int .i64 i] m K:=by
 simp only [dJ]at hK
 refine gZ (S_be40 i hi) (.cons _ _ _ _ aK .nil) ?_
 rintro n' f' cap ⟨rfl,rfl⟩
 exact hK cap
theorem S_RSecret0 (n cap:Nat) (f:Nat->Int) (hn:n<=16384) (hf:∀ i,i<n->0<=f i/\f i<=255):ACall Pg bP [.vsl 1 n cap (aB f)] [] (fun v _=>v=numA (secN n f)/\Flat true v):=by
 refine tC ⟨rfl,?_⟩
 conv=>whnf
 repeat (refine⟨⟨_,rfl⟩,?_⟩;conv=>whnf)
 refine S_RScalar (s:=seB) (r:=1) (N:=fun _=>n) (F:=fun _=>f) (iA.sl rfl (Nat.le_of_eq (Nat.zero_add _)) fun j hj=> ?_) (by decide) (by decide) (fun j hj=>by omega) (fun j hj k hk=>hf k hk) (fun _ a ha ha1=> ?_) (fun h2=> ?_)
 · obtain rfl:j=0:=by omega
   exact bA.vsl
 · conv=>whnf
   repeat (refine⟨⟨_,rfl⟩,?_⟩;conv=>whnf)
   refine S_rone (Nat.lt_trans ha1 (by decide)) ?_
   obtain rfl:=ha
   conv=>whnf
   repeat (refine⟨⟨_,rfl⟩,?_⟩;conv=>whnf)
   exact⟨rfl,aL⟩
 · exfalso;rw [nT1]at h2;change 65536<4+6+(4+n)at h2;omega
theorem iY {m:Mem} {x:AV} {K:AV->Mem->Prop} {n:Nat} {f:Nat->Int} (hx:bA m x n f) (hn:n<=16384) (hf:∀ i,i<n->0<=f i/\f i<=255) (h:∀ s,s=secN n f->s<nN->s ≠ 0->K (numA s) m):ACall Pg bP [x] m K:=by
 obtain⟨cap,hl⟩:=hx
 refine aD (S_RSecret0 n cap f hn hf) (.cons _ _ _ _ hl .nil) ?_
 rintro v rfl
 exact h _ rfl secN_lt secN_ne
theorem S_roneV {m:Mem} {K:AV->Mem->Prop} {a:Nat} (ha:a<w256) (h:∀ b,b=wM a->K (numA b) m):ACall Pg fF [numA a] m K:=S_rone ha (h _ rfl)
theorem S_RPoly0 (n cap t:Nat) (f:Nat->Int) (hn:n<=16384) (ht:t<64) (hf:∀ i,i<n->0<=f i/\f i<=255):ACall Pg iP [.vsl 1 n cap (aB f),.int .i64 t] []
 (fun v m'=>∃ n' G,(n'=t+1/\G=kI (coN n f))/\RetG 4 n' G v m'):=by
 obtain⟨c,hc⟩ :∃ c:Nat->Nat,c=coN n f:=⟨_,rfl⟩
 rw [<- hc]
 refine xE ⟨rfl,?_⟩
 conv=>whnf
 repeat (refine⟨⟨_,rfl⟩,?_⟩;conv=>whnf)
 refine aR aH (I:=fun q l m=>∃ (k c':Nat),l= [(0,.vsl 1 n cap (aB f)),(1,.int .i64 t),(5,.sl 0 0 k c'),(6,.int .i64 k)] /\ m= [some ⟨4,k,kI c⟩] /\ q+k=t+1) (t+1)
  (l0:= [(0,.vsl 1 n cap (aB f)),(1,.int .i64 t),(5,.sl 0 0 0 0),(6,.int .i64 (0:Nat))]) (m0:= [some ⟨4,0,kI c⟩]) [none] ⟨0,0,rfl,rfl,by omega⟩ ?_ ?_
 · exact .mk0 ⟨.eq _ _ rfl aO,Flat.i rfl,.nils _ _,Flat.i rfl,trivial⟩ ⟨.ph _ _ _ rfl,trivial⟩ rfl rfl
 · rintro q l m ⟨k,c',rfl,rfl,hq⟩
   conv=>whnf
   repeat (refine⟨⟨_,rfl⟩,?_⟩;conv=>whnf)
   refine aE (fun hb=> ?_) (fun hb=> ?_)
   · have hb:k<t+1:=by simp at hb;omega
     have e5:IntKind.i64.wrap ((k:Int)+1)=((k+1:Nat):Int):=by rw [w64 (by omega) (by omega)];omega
     conv=>whnf
     repeat (refine⟨⟨_,rfl⟩,?_⟩;conv=>whnf)
     refine S_be4 (i:=k) (by omega) (fun c2=> ?_)
     conv=>whnf
     repeat (refine⟨⟨_,rfl⟩,?_⟩;conv=>whnf)
     refine S_RScalar (s:=plB) (r:=2) (N:=pr2 n 4) (F:=pr2 f (beF (k:Nat) 4)) (iA.sl rfl (Nat.le_of_eq (Nat.zero_add _)) fun j hj=> ?_) (by decide) (by decide) (fun j hj=> ?_) (fun j hj k hk=> ?_) (fun _ a ha ha1=> ?_) (fun h=> ?_)
     · rcases(show j=0\/j=1 by omega)with rfl | rfl
       · exact bA.vsl
       · exact bA.slG rfl (Nat.le_of_eq (Nat.zero_add _)) (fun j hj=>by rw [Nat.zero_add];rfl)
     · rcases(show j=0\/j=1 by omega)with rfl | rfl
       · show n<=1000000;omega
       · show 4<=1000000;omega
     · rcases(show j=0\/j=1 by omega)with rfl | rfl
       · exact hf k hk
       · exact beF_lt
     rotate_left
     · exfalso
       have hsz:ByteArray.size plB<=10:=by decide
       rw [nT2]at h
       omega
     conv=>whnf
     repeat (refine⟨⟨_,rfl⟩,?_⟩;conv=>whnf)
     refine aE (fun h0=> ?_) (fun h0=> ?_)
     · have h0:k=0:=by simp at h0;omega
       conv=>whnf
       repeat (refine⟨⟨_,rfl⟩,?_⟩;conv=>whnf)
       refine S_roneV (a:=a) (Nat.lt_trans ha1 (by decide)) (fun b hb'=> ?_)
       have hco:b=c k:=by rw [hb',hc,ha,h0];unfold coN;rw [if_pos rfl];rfl
       conv=>whnf
       repeat (refine⟨⟨_,rfl⟩,?_⟩;conv=>whnf)
       refine aA (bM (by first | rfl | simp) rfl rfl (by omega) (by omega)) (fun cap' hcap=> ?_)
       conv=>whnf
       repeat (refine⟨⟨_,rfl⟩,?_⟩;conv=>whnf)
       refine⟨q - 1,[(0,.vsl 1 n cap (aB f)),(1,.int .i64 t),(5,.sl 0 0 (k+1) cap'),(6,.int .i64 ((k+1:Nat):Int))],[some ⟨4,k+1,kI c⟩],[some 5],by omega,⟨k+1,cap',rfl,rfl,by omega⟩,?_⟩
       refine .mk0 ⟨.eq _ _ rfl aO,Flat.i rfl,.sl _ _ _ _ _ rfl,Flat.i e5,trivial⟩ ⟨.old 0 5 _ _ rfl rfl ⟨rfl,Nat.le_refl _,fun i j hi hj=> ?_⟩,trivial⟩ rfl rfl
       dsimp only at hi hj ⊢
       refine num_row hi hj hco rfl (fun j hj=> ?_)
       rcases(show j=0\/j=1\/j=2\/j=3 by omega)with rfl | rfl | rfl | rfl <;> rfl
     · have h0:¬ k=0:=by simp at h0;omega
       have hco:a=c k:=by rw [hc,ha];unfold coN;rw [if_neg h0];rfl
       conv=>whnf
       repeat (refine⟨⟨_,rfl⟩,?_⟩;conv=>whnf)
       refine aA (bM (by first | rfl | simp) rfl rfl (by omega) (by omega)) (fun cap' hcap=> ?_)
       conv=>whnf
       repeat (refine⟨⟨_,rfl⟩,?_⟩;conv=>whnf)
       refine⟨q - 1,[(0,.vsl 1 n cap (aB f)),(1,.int .i64 t),(5,.sl 0 0 (k+1) cap'),(6,.int .i64 ((k+1:Nat):Int))],[some ⟨4,k+1,kI c⟩],[some 5],by omega,⟨k+1,cap',rfl,rfl,by omega⟩,?_⟩
       refine .mk0 ⟨.eq _ _ rfl aO,Flat.i rfl,.sl _ _ _ _ _ rfl,Flat.i e5,trivial⟩ ⟨.old 0 5 _ _ rfl rfl ⟨rfl,Nat.le_refl _,fun i j hi hj=> ?_⟩,trivial⟩ rfl rfl
       dsimp only at hi hj ⊢
       refine num_row hi hj hco rfl (fun j hj=> ?_)
       rcases(show j=0\/j=1\/j=2\/j=3 by omega)with rfl | rfl | rfl | rfl <;> rfl
   · have hb:k=t+1:=by simp at hb;omega
     subst hb
     conv=>whnf
     repeat (refine⟨⟨_,rfl⟩,?_⟩;conv=>whnf)
     exact⟨t+1,kI c,⟨rfl,rfl⟩,.inr ⟨0,c',t+1,_,rfl,rfl,Nat.le_refl _,fun _ _ _ _=>rfl⟩⟩
theorem S_RPoly {m:Mem} {x:AV} {K:AV->Mem->Prop} {n t:Nat} {f:Nat->Int} (hx:bA m x n f) (hn:n<=16384) (ht:t<64) (hf:∀ i,i<n->0<=f i/\f i<=255)
 (h:∀ c cap,c=coN n f->(∀ i,c i<nN)->c 0 ≠ 0->memK (m++ [some ⟨4,t+1,kI c⟩]) (K (.sl m.length 0 (t+1) cap))):ACall Pg iP [x,.int .i64 t] m K:=by
 simp only [dJ]at h
 obtain⟨cap,hl⟩:=hx
 refine lift_G (S_RPoly0 n cap t f hn ht hf) (fun n' G hR i j _ _=>by rw [hR.2];exact dU) (.cons _ _ _ _ hl (.cons _ _ _ _ aK .nil)) ?_
 rintro n' G cap' ⟨rfl,rfl⟩
 exact h _ cap' rfl (fun i=>coN_lt) coN_ne
theorem kU {m:Mem} {K:AV->Mem->Prop} {v w:AV} {n:Nat} {P:Pt Fp} (hv:v=numA n) (hw:w=ptA P) (hn:n<w256) (oP:On P) (h:∀ Q,On Q->Q=nmul n P->K (ptA Q) m):ACall Pg aS [v,w] m K:=by
 subst hv hw;exact T_rTimes2 hn oP h
theorem nY {m:Mem} {K:AV->Mem->Prop} {v w u:AV} {s k:Nat} {b:Pt Fp} (hv:v=numA s) (hw:w=numA k) (hu:u=ptA b) (hs:s<w256) (hk:k<w256) (ob:On b) (h:∀ c r,c=prfC s k b->r=prfR s k c->c<nN->r<nN->K (prA c r) m):ACall Pg cI [v,w,u] m K:=by
 subst hv hw hu;exact S_RProve hs hk ob h
end Go.Proofs.YtfolpdmbpbbimaaGreat
end

section
namespace Go.Proofs.YtfolpdmbpbbimaaGreat
open Go Go.Wit
theorem plOk_no {i j:Int} (h:¬ (1<=i/\i<=8/\1<=j/\j<=8/\i ≠ j)):plOk i j=false:=by
 cases h2:plOk i j with
 | false=>rfl
 | true=>have:=kR h2;exact absurd ⟨this.1,this.2.1,this.2.2.1,this.2.2.2.1,this.2.2.2.2.1⟩ h
theorem plOk_yes {i j:Int} (h1:1<=i) (h2:i<=8) (h3:1<=j) (h4:j<=8) (h5:i ≠ j):plOk i j=true:=by
 simp [plOk,isD,h1,h2,h3,h4,h5]
theorem S_RPlace0 (i j:Int):ACall Pg dV [.int .i64 i,.int .i64 j] [] (fun v _=>((plOk i j=true/\v= .int .i64 (plN i j))\/(plOk i j=false/\v= .int .i64 (-1)))/\Flat true v):=by
 refine vG ⟨rfl,?_⟩
 conv=>whnf
 repeat (refine⟨⟨[],rfl⟩,?_⟩;conv=>whnf)
 refine aE (fun h1=> ?_) (fun h1=> ?_)
 rotate_left
 · have h1:=lS h1
   conv=>whnf
   repeat (refine⟨⟨[],rfl⟩,?_⟩;conv=>whnf)
   exact⟨.inr ⟨plOk_no (by omega),rfl⟩,.int _ _⟩
 have h1:=nR h1
 conv=>whnf
 repeat (refine⟨⟨[],rfl⟩,?_⟩;conv=>whnf)
 refine aE (fun h2=> ?_) (fun h2=> ?_)
 rotate_left
 · have h2:=lS h2
   conv=>whnf
   repeat (refine⟨⟨[],rfl⟩,?_⟩;conv=>whnf)
   exact⟨.inr ⟨plOk_no (by omega),rfl⟩,.int _ _⟩
 have h2:=nR h2
 conv=>whnf
 repeat (refine⟨⟨[],rfl⟩,?_⟩;conv=>whnf)
 refine aE (fun h3=> ?_) (fun h3=> ?_)
 rotate_left
 · have h3:=lS h3
   conv=>whnf
   repeat (refine⟨⟨[],rfl⟩,?_⟩;conv=>whnf)
   exact⟨.inr ⟨plOk_no (by omega),rfl⟩,.int _ _⟩
 have h3:=nR h3
 conv=>whnf
 repeat (refine⟨⟨[],rfl⟩,?_⟩;conv=>whnf)
 refine aE (fun h4=> ?_) (fun h4=> ?_)
 rotate_left
 · have h4:=lS h4
   conv=>whnf
   repeat (refine⟨⟨[],rfl⟩,?_⟩;conv=>whnf)
   exact⟨.inr ⟨plOk_no (by omega),rfl⟩,.int _ _⟩
 have h4:=nR h4
 conv=>whnf
 repeat (refine⟨⟨[],rfl⟩,?_⟩;conv=>whnf)
 refine aE (fun h5=> ?_) (fun h5=> ?_)
 · have h5:i=j:=by simpa using h5
   conv=>whnf
   repeat (refine⟨⟨[],rfl⟩,?_⟩;conv=>whnf)
   exact⟨.inr ⟨plOk_no (by omega),rfl⟩,.int _ _⟩
 have h5:¬ i=j:=by simpa using h5
 have hok:plOk i j=true:=plOk_yes (by omega) (by omega) (by omega) (by omega) h5
 conv=>whnf
 repeat (refine⟨⟨[],rfl⟩,?_⟩;conv=>whnf)
 refine aE (fun h2=> ?_) (fun h2=> ?_)
 · have h2:=of_decide_eq_true h2
   conv=>whnf
   repeat (refine⟨⟨[],rfl⟩,?_⟩;conv=>whnf)
   refine⟨.inl ⟨hok,?_⟩,.int _ _⟩
   rw [w64 (by omega) (by omega)]
   unfold plN;rw [if_pos h2]
 · have h2:=of_decide_eq_false h2
   conv=>whnf
   repeat (refine⟨⟨[],rfl⟩,?_⟩;conv=>whnf)
   refine⟨.inl ⟨hok,?_⟩,.int _ _⟩
   rw [w64 (by omega) (by omega)]
   unfold plN;rw [if_neg h2]
theorem aBy {m:Mem} {K:AV->Mem->Prop} {i j:Int} (h1:plOk i j=true->∀ p,p=plN i j->K (.int .i64 p) m) (h2:plOk i j=false->K (.int .i64 (-1)) m):ACall Pg dV [.int .i64 i,.int .i64 j] m K:=by
 refine aD (S_RPlace0 i j) (.cons _ _ _ _ aK (.cons _ _ _ _ aK .nil)) ?_
 rintro v (⟨h,rfl⟩ | ⟨h,rfl⟩)
 · exact h1 h _ rfl
 · exact h2 h
theorem S_RPtsD {m:Mem} {K:AV->Mem->Prop} {v:AV} {d:Dl} {c:Nat} (hv:v= .vsl 9 d.nc c (dA d.I d.X d.Y)) (hd:OkD d) (h1:comP d->K (.bool true) m) (h2:¬ comP d->K (.bool false) m):ACall Pg cS [v] m K:=by
 subst hv
 by_cases h:comP d
 · exact S_rPoints (P:=cmP d) (bZ.raws fun i hi=>rawL_of (cmP_on h i hi).2) (fun i hi=>(cmP_on h i hi).1) (by have:=hd.2.2.2.2.2.2.2.2;omega) (h1 h)
 · obtain⟨b,hb,hbad⟩:=exBad h
   exact S_rPoints_bad (n:=d.nc) (I:=d.I) (X:=d.X) (Y:=d.Y) (.vsl fun i j _ _=>uQ) hd.2.2.2.2.1 hd.2.2.2.2.2.1 hb hbad (by have:=hd.2.2.2.2.2.2.2.2;omega) (h2 h)
theorem S_RFitsD {m:Mem} {K:AV->Mem->Prop} {v w:AV} {d:Dl} {c x y:Nat} (hv:v= .vsl 9 d.nc c (dA d.I d.X d.Y)) (hw:w=numA x) (hd:comP d) (hn:d.nc<=64) (hx:x<w256) (hy:y<w256)
 (h:∀ b:Bool,(b=true ↔ nmul y gG=polyP (cmP d) x d.nc)->K (.bool b) m):ACall Pg fX [v,w,numA y] m K:=by
 subst hv hw
 refine S_RFits (P:=cmP d) (bZ.raws fun i hi=>rawL_of (cmP_on hd i hi).2) hx hy (fun i hi=>(cmP_on hd i hi).1) (by omega) (fun e=>h true (by simp [e])) (fun e=>h false (by simp [e]))
theorem S_ROpenPt {m:Mem} {K:AV->Mem->Prop} {v w:AV} {P:Pt Fp} {a b:Int} {f:Nat->Int} (hv:v=ptA P) (hw:w= .agg (rowL f)) (oP:On P) (ha:isD a=true) (hb:isD b=true) (hf:∀ i,i<32->0<=f i/\f i<=255) (h:∀ n,n=ofZ (tnF P a b f)->n<w256->K (numA n) m):ACall Pg fW [v,.int .i64 a,.int .i64 b,w] m K:=by
 subst hv hw
 exact S_ROpen ha hb hf fun n hn=>h n hn (by rw [hn];exact ofZ_lt (fun i _=>jJ _ _))
theorem S_RInt {m:Mem} {K:AV->Mem->Prop} {i:Nat} (hi:i<1000000) (h:K (numA i) m):ACall Pg gS [.int .i64 (i:Int)] m K:=by
 have h0:ACall Pg gS [.int .i64 (i:Int)] [] (fun v _=>v=numA i/\Flat true v):=by
  refine zR ⟨rfl,?_⟩
  conv=>whnf
  repeat (refine⟨⟨[],rfl⟩,?_⟩;conv=>whnf)
  have e:IntKind.u64.wrap (i:Int)=((i:Nat):Int):=by rw [wu64];omega
  have g:AV.agg [.int .u64 (IntKind.u64.wrap (i:Int)),.int .u64 0,.int .u64 0,.int .u64 0] = numA i:=by
   rw [e]
   have:=aT (a:=i) (b:=0) (c:=0) (d:=0) (by omega) (by decide) (by decide) (by decide)
   rw [show comb i 0 0 0=i by unfold comb;omega]at this
   rw [this];rfl
  refine⟨g,?_⟩
  exact Eq.mpr (congrArg (Flat true) g) aL
 refine aD h0 (.cons _ _ _ _ aK .nil) ?_
 rintro v rfl
 exact h
theorem S_RJFits0 (r cap:Nat) (d1 d2:Nat->Nat) (D:Nat->Dl) (i j:Int) (ki:Bool) (kx ky:Nat) (hr:r<=1000000) (hD:∀ k,k<r->OkD (D k)) (hkx:kx<w256) (hky:ky<w256):
 ACall Pg fU [.vsl 26 r cap (dlG D d1 d2),.int .i64 i,.int .i64 j,rawA ki kx ky] [] (fun v _=>(∃ b e,FitE r D i j ki kx ky b e/\v= .tup [.bool b,.int .i64 e])/\Flat true v):=by
 refine xG ⟨rfl,?_⟩
 conv=>whnf
 repeat (refine⟨⟨_,rfl⟩,?_⟩;conv=>whnf)
 refine aBy (fun hok p hp=> ?_) (fun hok=> ?_)
 rotate_left
 · conv=>whnf
   repeat (refine⟨⟨_,rfl⟩,?_⟩;conv=>whnf)
   exact⟨⟨false,1,.inl ⟨hok,rfl,rfl⟩,rfl⟩,eS⟩
 obtain⟨hi1,hi8,hj1,hj8,hne,hp0,hp6⟩:=kR hok
 obtain⟨a,rfl⟩ :∃ a:Nat,i=a:=⟨i.toNat,by omega⟩
 obtain⟨c,rfl⟩ :∃ c:Nat,j=c:=⟨j.toNat,by omega⟩
 obtain⟨q,rfl⟩ :∃ q:Nat,p=q:=⟨p.toNat,by omega⟩
 have e1:IntKind.i64.wrap ((a:Int) - 1)=((a - 1:Nat):Int):=by rw [w64 (by omega) (by omega)];omega
 conv=>whnf
 repeat (refine⟨⟨_,rfl⟩,?_⟩;conv=>whnf)
 refine aE (fun h1=> ?_) (fun h1=> ?_)
 rotate_left
 · have h1:=lS h1
   conv=>whnf
   repeat (refine⟨⟨_,rfl⟩,?_⟩;conv=>whnf)
   exact⟨⟨false,5,.inr (.inl ⟨hok,fun h=>absurd h.1 (by omega),rfl,rfl⟩),rfl⟩,eS⟩
 have h1:=nR h1
 conv=>whnf
 repeat (refine⟨⟨_,rfl⟩,?_⟩;conv=>whnf)
 refine aE (fun h2=> ?_) (fun h2=> ?_)
 rotate_left
 · have h2:=lS h2
   conv=>whnf
   repeat (refine⟨⟨_,rfl⟩,?_⟩;conv=>whnf)
   exact⟨⟨false,5,.inr (.inl ⟨hok,fun h=>absurd h.2.1 (by omega),rfl,rfl⟩),rfl⟩,eS⟩
 have h2:=nR h2
 have hd:=hD (a - 1) (by omega)
 have no:¬ posP (D (a - 1)) q->∃ b e,FitE r D (a:Int) (c:Int) ki kx ky b e/\AV.tup [.bool false,.int .i64 5] = .tup [.bool b,.int .i64 e] :=fun hn=>
  ⟨false,5,.inr (.inl ⟨hok,fun h=>hn (by have:=h.2.2;rw [<- hp]at this;exact this),rfl,rfl⟩),rfl⟩
 conv=>whnf
 repeat (refine⟨⟨_,rfl⟩,?_⟩;conv=>whnf)
 rw [e1]
 refine aA (by simp;omega) ?_
 conv=>whnf
 repeat (refine⟨⟨_,rfl⟩,?_⟩;conv=>whnf)
 refine aE (fun h3=> ?_) (fun h3=> ?_)
 rotate_left
 · have h3:(D (a - 1)).ps=false:=by simpa using h3
   conv=>whnf
   repeat (refine⟨⟨_,rfl⟩,?_⟩;conv=>whnf)
   exact⟨no (fun h=>Bool.noConfusion (h3.symm.trans h.1)),eS⟩
 have h3:(D (a - 1)).ps=true:=by simpa using h3
 conv=>whnf
 repeat (refine⟨⟨_,rfl⟩,?_⟩;conv=>whnf)
 rw [e1]
 refine aA (by simp;omega) ?_
 conv=>whnf
 repeat (refine⟨⟨_,rfl⟩,?_⟩;conv=>whnf)
 refine aE (fun h4=> ?_) (fun h4=> ?_)
 rotate_left
 · have h4:(q:Int) >= ((D (a - 1)).ns:Int):=lS h4
   conv=>whnf
   repeat (refine⟨⟨_,rfl⟩,?_⟩;conv=>whnf)
   exact⟨no (fun h=>by have:=h.2.1;omega),eS⟩
 have h4:¬ (q:Int) >= ((D (a - 1)).ns:Int):=nR h4
 conv=>whnf
 repeat (refine⟨⟨_,rfl⟩,?_⟩;conv=>whnf)
 rw [e1]
 refine aA (by simp;omega) ?_
 conv=>whnf
 repeat (refine⟨⟨_,rfl⟩,?_⟩;conv=>whnf)
 refine aE (fun h5=> ?_) (fun h5=> ?_)
 rotate_left
 · have h5:((D (a - 1)).nc:Int) > 64:=lS h5
   conv=>whnf
   repeat (refine⟨⟨_,rfl⟩,?_⟩;conv=>whnf)
   exact⟨no (fun h=>by have:=h.2.2.1;omega),eS⟩
 have h5:¬ ((D (a - 1)).nc:Int) > 64:=nR h5
 conv=>whnf
 repeat (refine⟨⟨_,rfl⟩,?_⟩;conv=>whnf)
 rw [e1]
 refine aA (by simp;omega) ?_
 conv=>whnf
 repeat (refine⟨⟨_,rfl⟩,?_⟩;conv=>whnf)
 refine S_RPtsD (d:=D (a - 1)) (c:=d2 (a - 1)) rfl hd (fun h6=> ?_) (fun h6=> ?_)
 rotate_left
 · conv=>whnf
   repeat (refine⟨⟨_,rfl⟩,?_⟩;conv=>whnf)
   exact⟨no fun h=>h6 h.2.2.2,eS⟩
 have h7:posP (D (a - 1)) q:=⟨h3,by omega,by omega,h6⟩
 have hhas:hasP r D a c:=⟨by omega,by omega,by rw [<- hp];exact h7⟩
 conv=>whnf
 repeat (refine⟨⟨_,rfl⟩,?_⟩;conv=>whnf)
 refine aBw (i:=ki) hkx hky (fun K oK eK=> ?_) (fun hbad=> ?_)
 rotate_left
 · conv=>whnf
   repeat (refine⟨⟨_,rfl⟩,?_⟩;conv=>whnf)
   exact⟨⟨false,3,.inr (.inr (.inl ⟨hok,hhas,hbad,rfl,rfl⟩)),rfl⟩,eS⟩
 conv=>whnf
 repeat (refine⟨⟨_,rfl⟩,?_⟩;conv=>whnf)
 have hqn:q<(D (a - 1)).ns:=by have:=h7.2.1;omega
 rw [e1]
 refine aA (by simp;omega) ?_
 conv=>whnf
 repeat (refine⟨⟨_,rfl⟩,?_⟩;conv=>whnf)
 refine aA (by simp;omega) ?_
 conv=>whnf
 repeat (refine⟨⟨_,rfl⟩,?_⟩;conv=>whnf)
 refine S_ROpenPt (P:=K) (a:=(a:Int)) (b:=(c:Int)) (f:=(D (a - 1)).S q) eK rfl oK (by unfold isD;simp;omega) (by unfold isD;simp;omega) (fun i hi=>hd.2.2.2.2.2.2.1 q hqn i hi) (fun n hn hnw=> ?_)
 have hfv:fitV D a c K=n:=by unfold fitV;rw [<- hp];exact hn.symm
 conv=>whnf
 repeat (refine⟨⟨_,rfl⟩,?_⟩;conv=>whnf)
 refine lL (fun p hp1=> ?_)
 conv=>whnf
 repeat (refine⟨⟨_,rfl⟩,?_⟩;conv=>whnf)
 refine S_RCmp hnw (by rw [hp1];decide) (fun z hz=> ?_)
 conv=>whnf
 repeat (refine⟨⟨_,rfl⟩,?_⟩;conv=>whnf)
 refine aE (fun h8=> ?_) (fun h8=> ?_)
 rotate_left
 · have h9:¬ n<nN:=by
    rcases jM hz with⟨_,h⟩ | ⟨h,_⟩
    · rw [h]at h8;exact absurd h8 (by decide)
    · omega
   conv=>whnf
   repeat (refine⟨⟨_,rfl⟩,?_⟩;conv=>whnf)
   exact⟨⟨false,0,.inr (.inr (.inr ⟨hok,hhas,K,oK,eK,rfl,by rw [hfv];simp [h9]⟩)),rfl⟩,eS⟩
 have h9:n<nN:=by
  rcases jM hz with⟨h,_⟩ | ⟨_,h | h⟩
  · omega
  · rw [h]at h8;exact absurd h8 (by decide)
  · rw [h]at h8;exact absurd h8 (by decide)
 conv=>whnf
 repeat (refine⟨⟨_,rfl⟩,?_⟩;conv=>whnf)
 rw [e1]
 refine aA (by simp;omega) ?_
 conv=>whnf
 repeat (refine⟨⟨_,rfl⟩,?_⟩;conv=>whnf)
 refine S_RInt (by omega) ?_
 conv=>whnf
 repeat (refine⟨⟨_,rfl⟩,?_⟩;conv=>whnf)
 refine S_RFitsD (d:=D (a - 1)) (c:=d2 (a - 1)) (x:=c) rfl rfl h7.2.2.2 h7.2.2.1 (by show c<2 ^ 256;omega) hnw (fun b hb=> ?_)
 conv=>whnf
 repeat (refine⟨⟨_,rfl⟩,?_⟩;conv=>whnf)
 refine⟨⟨b,0,.inr (.inr (.inr ⟨hok,hhas,K,oK,eK,rfl,?_⟩)),rfl⟩,eS⟩
 rw [hfv,hb]
 exact⟨fun h=>⟨h9,h⟩,fun h=>h.2⟩
theorem S_RJFits {m:Mem} {x:AV} {K:AV->Mem->Prop} {r:Nat} {D:Nat->Dl} {i j:Int} {ki:Bool} {kx ky:Nat} (hx:cZ m x r D) (hr:r<=1000000) (hD:∀ k,k<r->OkD (D k)) (hkx:kx<w256) (hky:ky<w256)
 (h:∀ b e,FitE r D i j ki kx ky b e->K (.tup [.bool b,.int .i64 e]) m):ACall Pg fU [x,.int .i64 i,.int .i64 j,rawA ki kx ky] m K:=by
 obtain⟨cap,d1,d2,hl⟩:=hx
 refine aD (S_RJFits0 r cap d1 d2 D i j ki kx ky hr hD hkx hky) (.cons _ _ _ _ hl (.cons _ _ _ _ aK (.cons _ _ _ _ aK (.cons _ _ _ _ (aF cU) .nil)))) ?_
 rintro v ⟨b,e,hf,rfl⟩
 exact h b e hf
theorem S_rCheckD {m:Mem} {K:AV->Mem->Prop} {v:AV} {i:Bool} {x y:Nat} (hv:v=rawA i x y) (hx:x<w256) (hy:y<w256) (h1:∀ P,On P->rawA i x y=ptA P->K (.bool true) m) (h2:Bad i x y->K (.bool false) m):ACall Pg bO [v] m K:=by
 subst hv;exact aBw hx hy h1 h2
theorem S_RHoldsD {m:Mem} {K:AV->Mem->Prop} {v w u z:AV} {a b k:Pt Fp} {c r:Nat} (hv:v=ptA a) (hw:w=ptA b) (hu:u=ptA k) (hz:z=prA c r) (hc:c<w256) (hr:r<w256) (oa:On a) (ob:On b) (ok:On k) (h:∀ x,x=hoB a b k c r->K (.bool x) m):ACall Pg dW [v,w,u,z] m K:=by
 subst hv hw hu hz;exact S_RHolds hc hr oa ob ok h
theorem S_RVerdict0 (r cap:Nat) (d1 d2:Nat->Nat) (D:Nat->Dl) (i j:Int) (ki:Bool) (kx ky c s:Nat) (hr:r<=1000000) (hD:∀ k,k<r->OkD (D k)) (hkx:kx<w256) (hky:ky<w256) (hc:c<w256) (hs:s<w256):
    ACall Pg fQ [.vsl 26 r cap (dlG D d1 d2),.int .i64 i,.int .i64 j,rawA ki kx ky,prA c s] [] (fun v _=>(∃ e,VerE r D i j ki kx ky c s e/\v= .int .i64 e)/\Flat true v):=by
  refine sE ⟨rfl,?_⟩
  conv=>whnf
  repeat (refine⟨⟨_,rfl⟩,?_⟩;conv=>whnf)
  refine S_RJFits (r:=r) (D:=D) .vsl hr hD hkx hky (fun b e0 hf=> ?_)
  conv=>whnf
  repeat (refine⟨⟨_,rfl⟩,?_⟩;conv=>whnf)
  refine aE (fun h1=> ?_) (fun h1=> ?_)
  · have h1:e0 ≠ 0:=by simpa using h1
    conv=>whnf
    repeat (refine⟨⟨_,rfl⟩,?_⟩;conv=>whnf)
    exact⟨⟨e0,⟨b,e0,hf,.inl ⟨h1,rfl⟩⟩,rfl⟩,.int _ _⟩
  have h1:e0=0:=by simpa using h1
  rcases hf.hear with⟨h,_⟩ | ⟨_,hok,hhas,P,oP,eP⟩
  · exact absurd h1 h
  obtain⟨hi1,hi8,hj1,hj8,hne,hp0,hp6⟩:=kR hok
  have hir:=hhas.1
  have hjr:=hhas.2.1
  obtain⟨a,rfl⟩ :∃ a:Nat,i=a:=⟨i.toNat,by omega⟩
  obtain⟨q,rfl⟩ :∃ q:Nat,j=q:=⟨j.toNat,by omega⟩
  have e1:IntKind.i64.wrap ((a:Int) - 1)=((a - 1:Nat):Int):=by rw [w64 (by omega) (by omega)];omega
  have e2:IntKind.i64.wrap ((q:Int) - 1)=((q - 1:Nat):Int):=by rw [w64 (by omega) (by omega)];omega
  have g1:=hD (a - 1) (by omega)
  have g2:=hD (q - 1) (by omega)
  conv=>whnf
  repeat (refine⟨⟨_,rfl⟩,?_⟩;conv=>whnf)
  rw [e1]
  refine aA (by simp;omega) ?_
  conv=>whnf
  repeat (refine⟨⟨_,rfl⟩,?_⟩;conv=>whnf)
  refine S_rCheckD (i:=(D (a - 1)).i) (x:=(D (a - 1)).x) (y:=(D (a - 1)).y) rfl g1.1 g1.2.1 (fun A oA eA=> ?_) (fun hb=> ?_)
  rotate_left
  · conv=>whnf
    repeat (refine⟨⟨_,rfl⟩,?_⟩;conv=>whnf)
    exact⟨⟨3,⟨b,e0,hf,.inr (.inl ⟨h1,.inl hb,rfl⟩)⟩,rfl⟩,.int _ _⟩
  conv=>whnf
  repeat (refine⟨⟨_,rfl⟩,?_⟩;conv=>whnf)
  rw [e2]
  refine aA (by simp;omega) ?_
  conv=>whnf
  repeat (refine⟨⟨_,rfl⟩,?_⟩;conv=>whnf)
  refine S_rCheckD (i:=(D (q - 1)).i) (x:=(D (q - 1)).x) (y:=(D (q - 1)).y) rfl g2.1 g2.2.1 (fun B oB eB=> ?_) (fun hb=> ?_)
  rotate_left
  · conv=>whnf
    repeat (refine⟨⟨_,rfl⟩,?_⟩;conv=>whnf)
    exact⟨⟨3,⟨b,e0,hf,.inr (.inl ⟨h1,.inr hb,rfl⟩)⟩,rfl⟩,.int _ _⟩
  conv=>whnf
  repeat (refine⟨⟨_,rfl⟩,?_⟩;conv=>whnf)
  rw [e2]
  refine aA (by simp;omega) ?_
  conv=>whnf
  repeat (refine⟨⟨_,rfl⟩,?_⟩;conv=>whnf)
  rw [e1]
  refine aA (by simp;omega) ?_
  conv=>whnf
  repeat (refine⟨⟨_,rfl⟩,?_⟩;conv=>whnf)
  refine S_RHoldsD (a:=B) (b:=A) (k:=P) (c:=c) (r:=s) eB eA eP rfl hc hs oB oA oP (fun t ht=> ?_)
  conv=>whnf
  repeat (refine⟨⟨_,rfl⟩,?_⟩;conv=>whnf)
  cases t with
  | false =>
    conv=>whnf
    repeat (refine⟨⟨_,rfl⟩,?_⟩;conv=>whnf)
    exact⟨⟨12,⟨b,e0,hf,.inr (.inr ⟨h1,A,B,P,oA,oB,oP,eA,eB,eP,by rw [<- ht];rfl⟩)⟩,rfl⟩,.int _ _⟩
  | true =>
    cases b with
    | false =>
      conv=>whnf
      repeat (refine⟨⟨_,rfl⟩,?_⟩;conv=>whnf)
      exact⟨⟨0,⟨false,e0,hf,.inr (.inr ⟨h1,A,B,P,oA,oB,oP,eA,eB,eP,by rw [<- ht];rfl⟩)⟩,rfl⟩,.int _ _⟩
    | true =>
      conv=>whnf
      repeat (refine⟨⟨_,rfl⟩,?_⟩;conv=>whnf)
      exact⟨⟨13,⟨true,e0,hf,.inr (.inr ⟨h1,A,B,P,oA,oB,oP,eA,eB,eP,by rw [<- ht];rfl⟩)⟩,rfl⟩,.int _ _⟩
theorem S_RVerdict {m:Mem} {x:AV} {K:AV->Mem->Prop} {r:Nat} {D:Nat->Dl} {i j:Int} {ki:Bool} {kx ky c s:Nat} (hx:cZ m x r D) (hr:r<=1000000) (hD:∀ k,k<r->OkD (D k)) (hkx:kx<w256) (hky:ky<w256) (hc:c<w256) (hs:s<w256)
 (h:∀ e,VerE r D i j ki kx ky c s e->K (.int .i64 e) m):ACall Pg fQ [x,.int .i64 i,.int .i64 j,rawA ki kx ky,prA c s] m K:=by
 obtain⟨cap,d1,d2,hl⟩:=hx
 refine aD (S_RVerdict0 r cap d1 d2 D i j ki kx ky c s hr hD hkx hky hc hs) (.cons _ _ _ _ hl (.cons _ _ _ _ aK (.cons _ _ _ _ aK (.cons _ _ _ _ (aF cU) (.cons _ _ _ _ (aF pM) .nil))))) ?_
 rintro v ⟨e,hf,rfl⟩
 exact h e hf
end Go.Proofs.YtfolpdmbpbbimaaGreat
end

section
namespace Go.Proofs.YtfolpdmbpbbimaaGreat
open Go Go.Wit
def eqR (f g:Nat->Int):Bool:=(f 0 == g 0 && (f 1 == g 1 && (f 2 == g 2 && (f 3 == g 3 && (f 4 == g 4 && (f 5 == g 5 && (f 6 == g 6 && (f 7 == g 7 && (f 8 == g 8 && (f 9 == g 9 && (f 10 == g 10 && (f 11 == g 11 && (f 12 == g 12 && (f 13 == g 13 && (f 14 == g 14 && (f 15 == g 15 && (f 16 == g 16 && (f 17 == g 17 && (f 18 == g 18 && (f 19 == g 19 && (f 20 == g 20 && (f 21 == g 21 && (f 22 == g 22 && (f 23 == g 23 && (f 24 == g 24 && (f 25 == g 25 && (f 26 == g 26 && (f 27 == g 27 && (f 28 == g 28 && (f 29 == g 29 && (f 30 == g 30 && (f 31 == g 31 && true))))))))))))))))))))))))))))))))
theorem eqR_iff {f g:Nat->Int}:eqR f g=true ↔ ∀ i,i<32->f i=g i:=by
 constructor
 · intro h
   simp only [eqR,Bool.and_eq_true,beq_iff_eq,and_true]at h
   intro i hi
   have:i=0\/i=1\/i=2\/i=3\/i=4\/i=5\/i=6\/i=7\/i=8\/i=9\/i=10\/i=11\/i=12\/i=13\/i=14\/i=15\/i=16\/i=17\/i=18\/i=19\/i=20\/i=21\/i=22\/i=23\/i=24\/i=25\/i=26\/i=27\/i=28\/i=29\/i=30\/i=31:=by omega
   rcases this with rfl | rfl | rfl | rfl | rfl | rfl | rfl | rfl | rfl | rfl | rfl | rfl | rfl | rfl | rfl | rfl | rfl | rfl | rfl | rfl | rfl | rfl | rfl | rfl | rfl | rfl | rfl | rfl | rfl | rfl | rfl | rfl
   all_goals simp [h]
 · intro h
   unfold eqR
   rw [h 0 (by decide),h 1 (by decide),h 2 (by decide),h 3 (by decide),h 4 (by decide),h 5 (by decide),h 6 (by decide),h 7 (by decide),h 8 (by decide),h 9 (by decide),h 10 (by decide),h 11 (by decide),h 12 (by decide),h 13 (by decide),h 14 (by decide),h 15 (by decide),h 16 (by decide),h 17 (by decide),h 18 (by decide),h 19 (by decide),h 20 (by decide),h 21 (by decide),h 22 (by decide),h 23 (by decide),h 24 (by decide),h 25 (by decide),h 26 (by decide),h 27 (by decide),h 28 (by decide),h 29 (by decide),h 30 (by decide),h 31 (by decide)]
   simp
def t32:Ty:= .arr 32 (.int .u8)
theorem ok_cells32 {cs:List AV} (h:okC t32 cs):∃ f:Nat->Int,cs=rowL f/\∀ i,i<32->0<=f i/\f i<=255:=by
 unfold t32 at h
 unfold okC at h
 obtain⟨hl,hc⟩:=h
 have key:∀ i,i<32->∃ n:Int,cs[i]? = some (.int .u8 n)/\0<=n/\n<=255:=fun i hi=>by
  have:=hc i hi
  unfold okC at this
  obtain⟨n,e,h1,h2⟩:=this
  refine⟨n,?_,h1,h2⟩
  have e2:((cs.drop (i*1)).take 1)[0]? = some (.int .u8 n):=by
   have e3:(cs.drop (i*1)).take 1= [.int .u8 n] :=e
   rw [e3];rfl
  simpa [List.getElem?_take,List.getElem?_drop]using e2
 have hl2:cs.length=32:=hl
 classical
 refine⟨fun i=>if h:i<32 then (key i h).choose else 0,?_,fun i hi=> ?_⟩
 · refine List.ext_getElem? fun i=> ?_
   by_cases hi:i<32
   · rw [(key i hi).choose_spec.1]
     unfold rowL
     rw [List.getElem?_map,List.getElem?_range hi]
     simp [hi]
   · rw [List.getElem?_eq_none (by omega),List.getElem?_eq_none (by unfold rowL;simp;omega)]
 · simp only [dif_pos hi];exact(key i hi).choose_spec.2
end Go.Proofs.YtfolpdmbpbbimaaGreat
end

section
namespace Go.Proofs.YtfolpdmbpbbimaaGreat
open Go Go.Wit
abbrev tDealer:Ty:= .st [.int .i64,yZ,.str,.int .i64,.bool,.sl 32 t32,.sl 9 yZ,.bool,.bool,yZ]
theorem ok_sealsL {av:AV} (h:okV (.sl 32 t32) av):∃ (n cap:Nat) (S:Nat->Nat->Int),cR av (.vsl 32 n cap (dB S))/\n<=cap/\cap<=Go.maxLen/\∀ i,i<n->∀ b,b<32->0<=S i b/\S i b<=255:=by
 simp only [okV]at h
 unfold okC at h
 obtain⟨n,cap,get,he,h1,h2,h3⟩:=h
 obtain rfl:=List.head_eq_of_cons_eq he
 classical
 have sp:∀ i,i<n->∃ f:Nat->Int,(List.range 32).map (get i)=rowL f/\∀ b,b<32->0<=f b/\f b<=255:=fun i hi=>ok_cells32 (h3 i hi)
 refine⟨n,cap,fun i=>if hi:i<n then (sp i hi).choose else fun _=>0,cR.vsl (fun i j hi hj=>cR.of_eq ?_),h1,h2,fun i hi=> ?_⟩
 · have:=(sp i hi).choose_spec.1
   unfold dB
   simp only [dif_pos hi]
   have g:=map_get this hj
   rw [g]
   unfold rowL
   rw [List.getD_eq_getElem?_getD,List.getElem?_map,List.getElem?_range hj]
   rfl
 · simp only [dif_pos hi];exact(sp i hi).choose_spec.2
def OkZ (d:Dl):Prop:=d.x<w256/\d.y<w256/\d.u<w256/\d.v<w256/\(∀ k,k<d.nc->d.X k<w256)/\(∀ k,k<d.nc->d.Y k<w256)/\(∀ k,k<d.ns->∀ b,b<32->0<=d.S k b/\d.S k b<=255)/\d.ns<=Go.maxLen/\d.nc<=Go.maxLen/\d.lb.size<=Go.maxLen
theorem OkZ.ok {d:Dl} (h:OkZ d) (h1:d.ns<=1000000) (h2:d.nc<=1000000):OkD d:=⟨h.1,h.2.1,h.2.2.1,h.2.2.2.1,h.2.2.2.2.1,h.2.2.2.2.2.1,h.2.2.2.2.2.2.1,h1,h2⟩
theorem ok_cells26 {cs:List AV} (h:okC tDealer cs):∃ (d:Dl) (c1 c2:Nat),iZ cs (dlL d (.vsl 32 d.ns c1 (dB d.S)) (.vsl 9 d.nc c2 (dA d.I d.X d.Y)))/\OkZ d:=by
 unfold okC at h
 unfold okCs at h
 obtain⟨_,_,rfl,_,ha,h⟩:=h
 unfold okC at ha
 obtain⟨ac,rfl,_⟩:=ha
 unfold okCs at h
 obtain⟨_,_,rfl,_,hk,h⟩:=h
 obtain⟨i,x,y,hx,hy,rfl⟩:=uG hk
 unfold okCs at h
 obtain⟨_,_,rfl,_,ha,h⟩:=h
 unfold okC at ha
 obtain⟨lb,rfl,hlb⟩:=ha
 unfold okCs at h
 obtain⟨_,_,rfl,_,ha,h⟩:=h
 unfold okC at ha
 obtain⟨hd,rfl,_⟩:=ha
 unfold okCs at h
 obtain⟨_,_,rfl,_,ha,h⟩:=h
 unfold okC at ha
 obtain⟨ps,rfl⟩:=ha
 unfold okCs at h
 obtain⟨a1,_,rfl,hl1,hs,h⟩:=h
 obtain⟨sl,rfl⟩ :∃ sl,a1= [sl] :=by
  match a1,hl1 with
  | [s],_=>exact ⟨s,rfl⟩
 unfold okCs at h
 obtain⟨a2,_,rfl,hl2,hc,h⟩:=h
 obtain⟨co,rfl⟩ :∃ co,a2= [co] :=by
  match a2,hl2 with
  | [s],_=>exact ⟨s,rfl⟩
 obtain⟨ns,c1,S,r1,n1,n2,bS⟩:=ok_sealsL (av:=sl) (by simpa only [okV]using hs)
 obtain⟨nc,c2,I,X,Y,r2,m1,m2,bX,bY⟩:=ok_pointsL (av:=co) (by simpa only [okV]using hc)
 unfold okCs at h
 obtain⟨_,_,rfl,_,ha,h⟩:=h
 unfold okC at ha
 obtain⟨bd,rfl⟩:=ha
 unfold okCs at h
 obtain⟨_,_,rfl,_,ha,h⟩:=h
 unfold okC at ha
 obtain⟨st,rfl⟩:=ha
 unfold okCs at h
 obtain⟨_,_,rfl,_,hk2,h⟩:=h
 obtain⟨j,u,v,hu,hv,rfl⟩:=uG hk2
 unfold okCs at h
 subst h
 have rr:∀ l:List AV,iZ l l:=fun l _ _ _ _ h=>h
 refine⟨⟨ac,i,x,y,lb,hd,ps,ns,S,nc,I,X,Y,bd,st,j,u,v⟩,c1,c2,?_,hx,hy,hu,hv,bX,bY,bS,Nat.le_trans n1 n2,Nat.le_trans m1 m2,hlb⟩
 show iZ _ ([.int .i64 ac] ++ (rawL i x y++([.str lb] ++ ([.int .i64 hd] ++ ([.bool ps] ++ ([.vsl 32 ns c1 (dB S)] ++ ([.vsl 9 nc c2 (dA I X Y)] ++ ([.bool bd] ++ ([.bool st] ++ (rawL j u v++ []))))))))))
 exact(rr _).append ((rr _).append ((rr _).append ((rr _).append ((rr _).append ((iZ.cons r1 .nil).append ((iZ.cons r2 .nil).append (rr _)))))))
instance:Nonempty Dl:=⟨⟨0,false,0,0,.empty,0,false,0,fun _ _=>0,0,fun _=>false,fun _=>0,fun _=>0,false,false,false,0,0⟩⟩
theorem ok_dealers {av:AV} (h:okV (.sl 26 tDealer) av):∃ (n cap:Nat) (D:Nat->Dl) (c1 c2:Nat->Nat),cR av (.vsl 26 n cap (dlG D c1 c2))/\n<=cap/\cap<=Go.maxLen/\∀ k,k<n->OkZ (D k):=by
  simp only [okV]at h
  unfold okC at h
  obtain⟨n,cap,get,he,h1,h2,h3⟩:=h
  obtain rfl:=List.head_eq_of_cons_eq he
  classical
  have sp:∀ i,i<n->∃ p:Dl × Nat × Nat,iZ ((List.range 26).map (get i)) (dlL p.1 (.vsl 32 p.1.ns p.2.1 (dB p.1.S)) (.vsl 9 p.1.nc p.2.2 (dA p.1.I p.1.X p.1.Y)))/\OkZ p.1:=fun i hi=>by
    obtain⟨d,c1,c2,r,o⟩:=ok_cells26 (h3 i hi)
    exact⟨(d,c1,c2),r,o⟩
  refine⟨n,cap,fun i=>if hi:i<n then (sp i hi).choose.1 else Classical.choice inferInstance,fun i=>if hi:i<n then (sp i hi).choose.2.1 else 0,fun i=>if hi:i<n then (sp i hi).choose.2.2 else 0,?_,h1,h2,fun i hi=> ?_⟩
  · intro H L O v hv
    cases hv with
    | vsl0 _ _ a=>exact .vsl0 _ _ a
    | vsl _ _ _ _ b o vals g0 g1 g2 =>
      refine .vsl _ _ _ _ b o vals g0 g1 (fun i j hi hj=> ?_)
      have r:=(sp i hi).choose_spec.1
      have vr:=r H L O ((List.range 26).map (vals i)) (VRs.of_get (by simp) (fun j c hc=>by
        by_cases hj:j<26
        · have e:vals i j=c:=by simpa [hj]using hc
          have e2:((List.range 26).map (get i)).getD j .un=get i j:=by simp [List.getD_eq_getElem?_getD,hj]
          rw [e2,<- e];exact g2 i j hi hj
        · simp [hj]at hc))
      obtain⟨c,e1,e2⟩:=vr.get j hj
      have e:vals i j=c:=by simpa [hj]using e1
      rw [<- e]at e2
      unfold dlG
      simp only [dif_pos hi]
      exact e2
  · simp only [dif_pos hi];exact(sp i hi).choose_spec.2
end Go.Proofs.YtfolpdmbpbbimaaGreat
end

section
namespace Go.Wit
def FzV (l:Nat) (blk:Blk) (v v':AV):Prop:=v'=v\/v'= .un\/∃ o n c get,v= .sl l o n c/\v'= .vsl blk.es n c get/\o+n<=blk.n/\∀ i j,i<n->j<blk.es->get i j=blk.get (o+i) j
def FzB (l:Nat) (blk:Blk) (k:Nat) (b b':Option Blk):Prop:=b'=none\/(k ≠ l/\∃ x y,b=some x/\b'=some y/\y.es=x.es/\y.n<=x.n/\∀ i j,i<y.n->j<y.es->FzV l blk (x.get i j) (y.get i j))
def FzL (l:Nat) (blk:Blk):Nat->Mem->Mem->Prop
 | _,[],[] =>True
 | k,b::r,b'::r'=>FzB l blk k b b'/\FzL l blk (k+1) r r'
 | _,_,_=>False
theorem FzL.n {l k:Nat} {blk:Blk}:FzL l blk k [] [] :=trivial
theorem FzL.c {l k:Nat} {blk:Blk} {b b':Option Blk} {r r':Mem} (h1:FzB l blk k b b') (h2:FzL l blk (k+1) r r'):FzL l blk k (b::r) (b'::r'):=⟨h1,h2⟩
theorem FzL.len {l:Nat} {blk:Blk}:∀ {k:Nat} {m m1:Mem},FzL l blk k m m1->m1.length=m.length
 | _,[],[],_=>rfl
 | k,b::r,b'::r',h=>by simp [FzL.len h.2]
 | _,[],b'::r',h=>h.elim
 | _,b::r,[],h=>h.elim
theorem FzL.get {l:Nat} {blk:Blk}:∀ {k:Nat} {m m1:Mem},FzL l blk k m m1->∀ i b',m1[i]? = some b'->∃ b,m[i]? = some b/\FzB l blk (k+i) b b'
  | _,[],[],_,i,b',h=>by simp at h
  | k, b :: r, c :: r', h, 0, b', hb => by
    simp at hb;subst hb
    exact⟨b,rfl,h.1⟩
  | k, b :: r, c :: r', h, i + 1, b', hb => by
    obtain⟨x,h1,h2⟩:=FzL.get h.2 i b' (by simpa using hb)
    exact⟨x,by simpa using h1,by rw [show k+(i+1)=k+1+i by omega];exact h2⟩
  | _,[],b'::r',h,_,_,_=>h.elim
  | _,b::r,[],h,_,_,_=>h.elim
theorem MRel.frz {C:Ctx} {m m1:Mem} {w:World} {L:Lay} (hR:MRel C m w L) {l:Nat} {blk:Blk} (hl:m[l]? = some (some blk)) (hm:FzL l blk 0 m m1):
    MRel C m1 w L/\Ext w.heap L (OO C m L) w.heap L (OO C m1 L):=by
  have hlen:=hm.len
  have hget:∀ {i:Nat} {y:Blk},m1[i]? = some (some y)->i ≠ l/\∃ x,m[i]? = some (some x)/\y.es=x.es/\y.n<=x.n/\∀ a b,a<y.n->b<y.es->FzV l blk (x.get a b) (y.get a b):=by
    intro i y hi
    obtain⟨b,h1,h2⟩:=hm.get i _ hi
    rcases h2 with h2 | ⟨h3,x,y',rfl,h5,h6,h7,h8⟩
    · cases h2
    · obtain rfl:=Option.some.inj h5
      rw [Nat.zero_add]at h3
      exact⟨h3,x,h1,h6,h7,h8⟩
  have hown:∀ b,own m1 L b->own m L b:=by
    rintro b ⟨i,y,e,h1,h2,h3,h4⟩
    obtain⟨_,x,h5,_⟩:=hget h1
    exact⟨i,x,e,h5,h2,h3,h4⟩
  have hext:Ext w.heap L (OO C m L) w.heap L (OO C m1 L):=
    ⟨fun l e h=>h,fun b _ _=>rfl,fun b _ hO hO'=>hO (hO'.elim .inl fun h=> .inr (hown b h))⟩
  refine⟨⟨hR.os,hR.tape,hR.output,hR.size,hR.frame,fun i hi=>hR.lay i (by omega),fun i y hi=> ?_,fun i i' b b' e e' h1 h2 h3 h4 t1 t2 h5=> ?_,fun i hi=>⟨by rw [hlen];exact(hR.base i hi).1,(hR.base i hi).2⟩,hR.xlt,fun b hb=>hR.notX b (hown b hb)⟩,hext⟩
  · obtain⟨hne,x,g1,g2,g3,g4⟩:=hget hi
    obtain⟨e,k1,k2,k3,k0⟩:=hR.blk i x g1
    refine⟨e,k1,by rw [k2,g2],by omega,fun ht=> ?_⟩
    obtain⟨c,T,k4,k5,k6,k7⟩:=k0 ht
    refine⟨c,T,k4,k5,k6,fun a b ha hb=> ?_⟩
    obtain⟨v,r1,r2,r3⟩:=k7 a b (by omega) (by rw [<- g2];exact hb)
    refine⟨v,by rw [g2];exact r1,?_,r3⟩
    rcases g4 a b ha hb with h | h | ⟨o,n,cp,get,h1,h2,h3,h4⟩
    · rw [h];exact r2.ext hext
    · rw [h];exact .un _
    · rw [h1]at r2
      rw [h2]
      cases r2 with
      | sl0 _ _ ad=>exact .vsl0 _ _ _
      | sl0n _ _=>exact .vsl0 _ _ _
      | sl _ _ _ _ le q1 q2 q3 =>
        obtain⟨e2,p1,p2,p3,p0⟩:=hR.blk l blk hl
        rw [q1]at p1;obtain rfl:=Option.some.inj p1
        by_cases hc0:cp=0
        · subst hc0
          obtain rfl:n=0:=by omega
          exact .vsl0 _ _ _
        have ht2:0<le.tot:=by omega
        obtain⟨c2,T2,p4,p5,p6,p7⟩:=p0 ht2
        have key:∀ a b,a<n->b<blk.es->∃ v,fP w.heap le.b (o*le.es+(a*blk.es+b))=some v/\VR w.heap L (OO C m L) (blk.get (o+a) b) v/\v.oneCell'=true:=by
          intro a b ha hb
          obtain⟨v,s1,s2,s3⟩:=p7 (o+a) b (by omega) hb
          refine⟨v,?_,s2,s3⟩
          simp only [fP,p4]
          rw [<- s1,p2];congr 1
          rw [Nat.add_mul];omega
        have hnO:¬ OO C m1 L le.b:=by
          rintro(hX | ⟨i2,y2,e3,s1,s2,s3,s4⟩)
          · exact hR.notX le.b ⟨l,blk,le,hl,q1,ht2,rfl⟩ hX
          · obtain⟨hne2,x2,s5,_⟩:=hget s1
            exact hne2 (hR.inj i2 l x2 blk e3 le s5 hl s2 q1 s3 ht2 s4)
        classical
        refine .vsl _ _ _ _ le.b (o*le.es) (fun a b=>if hij:a<n/\b<blk.es then (key a b hij.1 hij.2).choose else undef) q2 (fun a b ha hb=> ?_) (fun a b ha hb=> ?_)
        · have hk:=(key a b ha hb).choose_spec
          rw [dif_pos ⟨ha,hb⟩]
          exact⟨hnO,hk.1,hk.2.2⟩
        · have hk:=(key a b ha hb).choose_spec
          rw [dif_pos ⟨ha,hb⟩,h4 a b ha hb]
          exact hk.2.1.ext hext
  · obtain⟨_,x,g1,_⟩:=hget h1
    obtain⟨_,x',g2,_⟩:=hget h2
    exact hR.inj i i' x x' e e' g1 g2 h3 h4 t1 t2 h5
inductive FzM:Mem->Mem->Prop where
 | refl (m:Mem):FzM m m
 | step (l:Nat) (blk:Blk) (m m1 m2:Mem):m[l]? = some (some blk)->FzL l blk 0 m m1->FzM m1 m2->FzM m m2
theorem FzM.rel {C:Ctx} {n:Nat} {e:Env} {m m1:Mem} {a:Act} {w:World} {L:Lay} (h:FzM m m1) (hr:Rel C n e m a w L):Rel C n e m1 a w L:=by
  induction h with
  | refl=>exact hr
  | step l blk m m1 m2 hl hm _ ih =>
    obtain⟨h1,h2⟩:=hr.mem.frz hl hm
    exact ih ⟨hr.size,hr.defers,h1,fun t=>(hr.env t).ext h2⟩
section
variable {D:DrawKit} {P:Program} {n k:Nat}
theorem AWp.fz {c:Code} {e:Env} {m m1:Mem} {Q:xB} (hf:FzM m m1) (h:AWp P n k c e m1 Q):AWp P n k c e m Q:=fun C a w L hk hr=>h C a w L hk (hf.rel hr)
theorem loop_fz (hm:P.follows .mixedOrders=true) {c:ACode} {e:Env} {m:Mem} {Q:xB} (I:Nat->List (Nat × AV)->Mem->Prop) (k0:Nat) {l0:List (Nat × AV)} {m0:Mem} (src:List (Option Nat)) (hi:I k0 l0 m0) (hw:Wk k e m l0 m0 src)
    (hstep:∀ q l m,I q l m->mkEnvK l .nil fun e=>vcCode D P n k c e m fun x e' m'=>match x with
      | .normal=>∃ q' l' m1 m2 src,q'<q/\I q' l' m2/\FzM m' m1/\Wk k e' m1 l' m2 src
      | .exit i=>Q (.exit i) e' m'
      | .ret=>Q .ret e' m'
      | _=>False):ALoop D P n k c e m Q:=by
  refine loop_sem (fun q e m=>∃ l m1 m2 src,I q l m2/\FzM m m1/\Wk k e m1 l m2 src) k0 ⟨l0,m,m0,src,hi,.refl _,hw⟩ (fun q e1 m1 hI b hb=> ?_)
  obtain⟨l,m2,m3,s2,hI,hf,hw2⟩:=hI
  refine AWp.fz hf (AWp.wk hw2 ?_)
  have:=hstep q l m3 hI
  rw [mkEnvK_eq]at this
  refine AWp.mono ?_ (mN hm b c hb this)
  intro x e' m' h
  cases x with
  | normal =>
    obtain⟨q',l',m4,m5,s3,h1,h2,h3,h4⟩:=h
    exact⟨q',h1,l',m4,m5,s3,h2,h3,h4⟩
  | exit i=>exact h
  | ret=>exact h
  | _=>exact h.elim
end
end Go.Wit
end

section
namespace Go.Proofs.YtfolpdmbpbbimaaGreat
open Go Go.Wit
theorem S_kSeals0 (n c1 k c2:Nat) (S T:Nat->Nat->Int) (hn:n<=1000000) (hk:k<=1000000):ACall Pg iT [.vsl 32 n c1 (dB S),.vsl 32 k c2 (dB T)] []
 (fun v _=>(((n=k/\∀ i,i<n->∀ j,j<32->S i j=T i j)/\v= .bool true)\/(¬ (n=k/\∀ i,i<n->∀ j,j<32->S i j=T i j)/\v= .bool false))/\Flat true v):=by
 refine xT ⟨rfl,?_⟩
 conv=>whnf
 repeat (refine⟨⟨_,rfl⟩,?_⟩;conv=>whnf)
 refine aE (fun h1=> ?_) (fun h1=> ?_)
 · have h1:¬ n=k:=by simp at h1;omega
   conv=>whnf
   repeat (refine⟨⟨_,rfl⟩,?_⟩;conv=>whnf)
   exact⟨.inr ⟨fun h=>h1 h.1,rfl⟩,.bool _⟩
 have h1:n=k:=by simp at h1;omega
 subst h1
 conv=>whnf
 repeat (refine⟨⟨_,rfl⟩,?_⟩;conv=>whnf)
 refine aR aH (I:=fun q l m=>∃ (i:Nat),l= [(0,.vsl 32 n c1 (dB S)),(1,.vsl 32 n c2 (dB T)),(5,.int .i64 i)] /\ m= [] /\ q+i=n/\∀ u,u<i->∀ j,j<32->S u j=T u j) n
  (l0:= [(0,.vsl 32 n c1 (dB S)),(1,.vsl 32 n c2 (dB T)),(5,.int .i64 (0:Nat))]) (m0:= []) [] ⟨0,rfl,rfl,rfl,fun u hu=>by omega⟩ ?_ ?_
 · exact .mk0 ⟨.eq _ _ rfl lH,.eq _ _ rfl lH,Flat.i rfl,trivial⟩ trivial rfl rfl
 · rintro q l m ⟨i,rfl,rfl,hq,hS⟩
   conv=>whnf
   repeat (refine⟨⟨_,rfl⟩,?_⟩;conv=>whnf)
   refine aE (fun hb=> ?_) (fun hb=> ?_)
   · have hb:i<n:=by simp at hb;omega
     conv=>whnf
     repeat (refine⟨⟨_,rfl⟩,?_⟩;conv=>whnf)
     refine aA (by simp;omega) ?_
     conv=>whnf
     repeat (refine⟨⟨_,rfl⟩,?_⟩;conv=>whnf)
     refine aA (by simp;omega) ?_
     conv=>whnf
     repeat (refine⟨⟨_,rfl⟩,?_⟩;conv=>whnf)
     refine aE (fun h2=> ?_) (fun h2=> ?_)
     · replace h2:(!(eqR (S i) (T i)))=true:=Eq.trans rfl h2
       conv=>whnf
       repeat (refine⟨⟨_,rfl⟩,?_⟩;conv=>whnf)
       exact⟨.inr ⟨fun h=>(by rw [eqR_iff.2 (h.2 i hb)]at h2;cases h2),rfl⟩,.bool _⟩
     · replace h2:(!(eqR (S i) (T i)))=false:=Eq.trans rfl h2
       have h3:=eqR_iff.1 (show eqR (S i) (T i)=true by simpa using h2)
       clear h2
       conv=>whnf
       repeat (refine⟨⟨_,rfl⟩,?_⟩;conv=>whnf)
       have e5:IntKind.i64.wrap ((i:Int)+1)=((i+1:Nat):Int):=by rw [w64 (by omega) (by omega)];omega
       refine⟨q - 1,[(0,.vsl 32 n c1 (dB S)),(1,.vsl 32 n c2 (dB T)),(5,.int .i64 ((i+1:Nat):Int))],[],[],by omega,⟨i+1,rfl,rfl,by omega,fun u hu=> ?_⟩,?_⟩
       · by_cases h:u=i
         · subst h;exact h3
         · exact hS u (by omega)
       · exact .mk0 ⟨.eq _ _ rfl lH,.eq _ _ rfl lH,Flat.i e5,trivial⟩ trivial rfl rfl
   · have hb:i=n:=by simp at hb;omega
     subst hb
     conv=>whnf
     repeat (refine⟨⟨_,rfl⟩,?_⟩;conv=>whnf)
     exact⟨.inl ⟨⟨rfl,hS⟩,rfl⟩,.bool _⟩
theorem S_kSeals {m:Mem} {x y:AV} {K:AV->Mem->Prop} {n k:Nat} {S T:Nat->Nat->Int} (hx:bZ m x 32 n (dB S)) (hy:bZ m y 32 k (dB T)) (hn:n<=1000000) (hk:k<=1000000)
 (h1:n=k->(∀ i,i<n->∀ j,j<32->S i j=T i j)->K (.bool true) m) (h2:¬ (n=k/\∀ i,i<n->∀ j,j<32->S i j=T i j)->K (.bool false) m):ACall Pg iT [x,y] m K:=by
 obtain⟨c1,g1⟩:=hx
 obtain⟨c2,g2⟩:=hy
 refine aD (S_kSeals0 n c1 k c2 S T hn hk) (.cons _ _ _ _ g1 (.cons _ _ _ _ g2 .nil)) ?_
 rintro v (⟨h,rfl⟩ | ⟨h,rfl⟩)
 · exact h1 h.1 h.2
 · exact h2 h
end Go.Proofs.YtfolpdmbpbbimaaGreat
end

section
namespace Go.Proofs.YtfolpdmbpbbimaaGreat
open Go Go.Wit
theorem zF {m:Mem} {K:AV->Mem->Prop} {v w:AV} {i:Bool} {x y:Nat} (hv:v=rawA i x y) (hw:w=rawA i x y) (hx:x<w256) (hy:y<w256) (h:K (.bool true) m):ACall Pg cX [v,w] m K:=by
 subst hv hw;exact S_kPoint_eq hx hy h
end Go.Proofs.YtfolpdmbpbbimaaGreat
end

section
namespace Go.Proofs.YtfolpdmbpbbimaaGreat
open Go Go.Wit
theorem S_Heavy0 (r cap:Nat) (D:Nat->Dl) (d1 d2:Nat->Nat):ACall Pg iC [.vsl 26 r cap (dlG D d1 d2)] [] (fun v _=>(v= .bool true\/(v= .bool false/\r<=10/\∀ k,k<r->(D k).ns<=20/\(D k).nc<=8))/\Flat true v):=by
 refine vR ⟨rfl,?_⟩
 conv=>whnf
 repeat (refine⟨⟨_,rfl⟩,?_⟩;conv=>whnf)
 refine aE (fun h2=> ?_) (fun h2=> ?_)
 · conv=>whnf
   repeat (refine⟨⟨_,rfl⟩,?_⟩;conv=>whnf)
   exact⟨.inl rfl,.bool _⟩
 have h2:r<=10:=by simp at h2;omega
 conv=>whnf
 repeat (refine⟨⟨_,rfl⟩,?_⟩;conv=>whnf)
 refine aR aH (I:=fun q l m=>∃ (k:Nat),l= [(0,.vsl 26 r cap (dlG D d1 d2)),(3,.int .i64 k)] /\ m= [] /\ q+k=r/\∀ i,i<k->(D i).ns<=20/\(D i).nc<=8) r
  (l0:= [(0,.vsl 26 r cap (dlG D d1 d2)),(3,.int .i64 (0:Nat))]) (m0:= []) [] ⟨0,rfl,rfl,rfl,fun i hi=>by omega⟩ ?_ ?_
 · exact .mk0 ⟨.eq _ _ rfl eF,Flat.i rfl,trivial⟩ trivial rfl rfl
 · rintro q l m ⟨k,rfl,rfl,hq,hN⟩
   conv=>whnf
   repeat (refine⟨⟨_,rfl⟩,?_⟩;conv=>whnf)
   refine aE (fun hb=> ?_) (fun hb=> ?_)
   · have hb:k<r:=by simp at hb;omega
     conv=>whnf
     repeat (refine⟨⟨_,rfl⟩,?_⟩;conv=>whnf)
     refine aA (by simp;omega) ?_
     conv=>whnf
     repeat (refine⟨⟨_,rfl⟩,?_⟩;conv=>whnf)
     refine aE (fun h3=> ?_) (fun h3=> ?_)
     rotate_left
     · conv=>whnf
       repeat (refine⟨⟨_,rfl⟩,?_⟩;conv=>whnf)
       exact⟨.inl rfl,.bool _⟩
     have h3:¬ ((D k).ns:Int) > 20:=nR h3
     conv=>whnf
     repeat (refine⟨⟨_,rfl⟩,?_⟩;conv=>whnf)
     refine aA (by simp;omega) ?_
     conv=>whnf
     repeat (refine⟨⟨_,rfl⟩,?_⟩;conv=>whnf)
     refine aE (fun h4=> ?_) (fun h4=> ?_)
     rotate_left
     · conv=>whnf
       repeat (refine⟨⟨_,rfl⟩,?_⟩;conv=>whnf)
       exact⟨.inl rfl,.bool _⟩
     have h4:¬ ((D k).nc:Int) > 8:=nR h4
     conv=>whnf
     repeat (refine⟨⟨_,rfl⟩,?_⟩;conv=>whnf)
     refine aA (by simp;omega) ?_
     conv=>whnf
     repeat (refine⟨⟨_,rfl⟩,?_⟩;conv=>whnf)
     refine aE (fun h5=> ?_) (fun h5=> ?_)
     · conv=>whnf
       repeat (refine⟨⟨_,rfl⟩,?_⟩;conv=>whnf)
       exact⟨.inl rfl,.bool _⟩
     conv=>whnf
     repeat (refine⟨⟨_,rfl⟩,?_⟩;conv=>whnf)
     have e5:IntKind.i64.wrap ((k:Int)+1)=((k+1:Nat):Int):=by rw [w64 (by omega) (by omega)];omega
     refine⟨q - 1,[(0,.vsl 26 r cap (dlG D d1 d2)),(3,.int .i64 ((k+1:Nat):Int))],[],[],by omega,⟨k+1,rfl,rfl,by omega,fun i hi=> ?_⟩,?_⟩
     · by_cases hik:i=k
       · subst hik;exact⟨by omega,by omega⟩
       · exact hN i (by omega)
     · exact .mk0 ⟨.eq _ _ rfl eF,Flat.i e5,trivial⟩ trivial rfl rfl
   · have hb:k=r:=by simp at hb;omega
     subst hb
     conv=>whnf
     repeat (refine⟨⟨_,rfl⟩,?_⟩;conv=>whnf)
     exact⟨.inr ⟨rfl,h2,hN⟩,.bool _⟩
theorem lt26 {P:Nat->Prop} (h0:P 0) (h1:P 1) (h2:P 2) (h3:P 3) (h4:P 4) (h5:P 5) (h6:P 6) (h7:P 7) (h8:P 8) (h9:P 9) (h10:P 10) (h11:P 11) (h12:P 12) (h13:P 13) (h14:P 14) (h15:P 15) (h16:P 16) (h17:P 17) (h18:P 18) (h19:P 19) (h20:P 20) (h21:P 21) (h22:P 22) (h23:P 23) (h24:P 24) (h25:P 25):∀ j,j<26->P j:=by
 intro j hj
 have:j=0\/j=1\/j=2\/j=3\/j=4\/j=5\/j=6\/j=7\/j=8\/j=9\/j=10\/j=11\/j=12\/j=13\/j=14\/j=15\/j=16\/j=17\/j=18\/j=19\/j=20\/j=21\/j=22\/j=23\/j=24\/j=25:=by omega
 rcases this with rfl | rfl | rfl | rfl | rfl | rfl | rfl | rfl | rfl | rfl | rfl | rfl | rfl | rfl | rfl | rfl | rfl | rfl | rfl | rfl | rfl | rfl | rfl | rfl | rfl | rfl <;> assumption
def rowD (d:Dl) (cap1 cap2:Nat):List AV:=dlL d (.sl 2 0 (0+d.ns) cap1) (.sl 3 0 d.nc cap2)
theorem fz_a (D:Nat->Dl) (d1 d2 C1 C2:Nat->Nat) (k cap1 cap2 i j:Nat) (hi:i<k+1) (hj:j<26) (v:AV) (hv1:i=k->v=(rowD (D k) cap1 cap2).getD j .un) (hv2:i ≠ k->v=dlG D C1 C2 i j):
 FzV 2 ⟨32,0+(D k).ns,catG 0 (fun x x_1=>AV.un) (dB (D k).S)⟩ v (if i=k/\j=14 then .sl 3 0 (D k).nc cap2 else dlG D (fun i=>if i=k then cap1 else C1 i) C2 i j):=by
 by_cases hik:i=k
 · rw [hv1 hik]
   clear hv1 hv2
   subst hik
   by_cases h14:j=14
   · subst h14
     rw [if_pos ⟨rfl,rfl⟩];exact .inl rfl
   rw [if_neg (fun h=>h14 h.2)]
   by_cases h13:j=13
   · subst h13
     refine .inr (.inr ⟨0,0+(D i).ns,cap1,dB (D i).S,rfl,?_,by show 0+(0+(D i).ns)<=0+(D i).ns;omega,fun a b _ _=> ?_⟩)
     · show AV.vsl 32 (D i).ns (if i=i then cap1 else C1 i) (dB (D i).S)=_
       rw [if_pos rfl,Nat.zero_add]
     · show dB (D i).S a b=catG 0 (fun x x_1=>AV.un) (dB (D i).S) (0+a) b
       rw [bL (by omega)];simp
   · refine .inl ?_
     revert h14 h13
     revert j
     refine fun j hj=>lt26 (P:=fun j=>j ≠ 14->j ≠ 13->(dlG D (fun m=>if m=i then cap1 else C1 m) C2 i j)=(rowD (D i) cap1 cap2).getD j .un) ?_ ?_ ?_ ?_ ?_ ?_ ?_ ?_ ?_ ?_ ?_ ?_ ?_ ?_ ?_ ?_ ?_ ?_ ?_ ?_ ?_ ?_ ?_ ?_ ?_ ?_ j hj
     all_goals (intro a b;first | rfl | exact absurd rfl a | exact absurd rfl b)
 · rw [hv2 hik,if_neg (fun h=>hik h.1)]
   refine .inl ?_
   unfold dlG;simp only [if_neg hik]
theorem fz_b (D:Nat->Dl) (C1 C2:Nat->Nat) (k cap1 cap2 i j:Nat) (hi:i<k+1) (hj:j<26):
 FzV 3 ⟨9,(D k).nc,dA (D k).I (D k).X (D k).Y⟩ (if i=k/\j=14 then .sl 3 0 (D k).nc cap2 else dlG D (fun i=>if i=k then cap1 else C1 i) C2 i j) (dlG D (fun i=>if i=k then cap1 else C1 i) (fun i=>if i=k then cap2 else C2 i) i j):=by
 by_cases hik:i=k
 · subst hik
   by_cases h14:j=14
   · subst h14
     rw [if_pos ⟨rfl,rfl⟩]
     refine .inr (.inr ⟨0,(D i).nc,cap2,dA (D i).I (D i).X (D i).Y,rfl,?_,by show 0+(D i).nc<=(D i).nc;omega,fun a b _ _=>by rw [Nat.zero_add]⟩)
     show AV.vsl 9 (D i).nc (if i=i then cap2 else C2 i) _=_
     rw [if_pos rfl]
   rw [if_neg (fun h=>h14 h.2)]
   refine .inl ?_
   revert h14
   revert j
   refine fun j hj=>lt26 (P:=fun j=>j ≠ 14->dlG D (fun m=>if m=i then cap1 else C1 m) (fun m=>if m=i then cap2 else C2 m) i j=dlG D (fun m=>if m=i then cap1 else C1 m) C2 i j) ?_ ?_ ?_ ?_ ?_ ?_ ?_ ?_ ?_ ?_ ?_ ?_ ?_ ?_ ?_ ?_ ?_ ?_ ?_ ?_ ?_ ?_ ?_ ?_ ?_ ?_ j hj
   all_goals (intro a;first | rfl | exact absurd rfl a)
 · rw [if_neg (fun h=>hik h.1)]
   refine .inl ?_
   unfold dlG;simp only [if_neg hik]
set_option maxHeartbeats 4000000 in
theorem S_TwinDealers0 (r cap:Nat) (D:Nat->Dl) (d1 d2:Nat->Nat) (hr:r<=10) (hD:∀ k,k<r->(D k).ns<=20/\(D k).nc<=8):ACall Pg bQ [.vsl 26 r cap (dlG D d1 d2)] [] (fun v m'=>(v= .nils/\r=0)\/∃ l cap c1 c2,v= .sl l 0 r cap/\m'[l]? = some (some ⟨26,r,dlG D c1 c2⟩)):=by
 refine kH ⟨rfl,?_⟩
 conv=>whnf
 repeat (refine⟨⟨_,rfl⟩,?_⟩;conv=>whnf)
 refine loop_fz aH (I:=fun q l m=>∃ (k c':Nat) (C1 C2:Nat->Nat),l= [(0,.vsl 26 r cap (dlG D d1 d2)),(3,.sl 0 0 k c'),(4,.int .i64 k)] /\ m= [some ⟨26,k,dlG D C1 C2⟩] /\ q+k=r) r
  (l0:= [(0,.vsl 26 r cap (dlG D d1 d2)),(3,.sl 0 0 0 0),(4,.int .i64 (0:Nat))]) (m0:= [some ⟨26,0,dlG D (fun _=>0) (fun _=>0)⟩]) [none] ⟨0,0,_,_,rfl,rfl,rfl⟩ ?_ ?_
 · exact .mk0 ⟨.eq _ _ rfl eF,.nils _ _,Flat.i rfl,trivial⟩ ⟨.ph _ _ _ rfl,trivial⟩ rfl rfl
 · rintro q l m ⟨k,c',C1,C2,rfl,rfl,hq⟩
   conv=>whnf
   repeat (refine⟨⟨_,rfl⟩,?_⟩;conv=>whnf)
   refine aE (fun hb=> ?_) (fun hb=> ?_)
   · have hb:k<r:=by simp at hb;omega
     obtain⟨h1,h2⟩:=hD k hb
     have h1':(D (k:Int).toNat).ns<=20:=h1
     conv=>whnf
     repeat (refine⟨⟨_,rfl⟩,?_⟩;conv=>whnf)
     refine aA (by simp;omega) ?_
     conv=>whnf
     repeat (refine⟨⟨_,rfl⟩,?_⟩;conv=>whnf)
     refine⟨?_,?_⟩
     · refine⟨?_,?_⟩
       · conv=>whnf
         repeat (refine⟨⟨_,rfl⟩,?_⟩;conv=>whnf)
         refine aA (bM (by first | rfl | simp) rfl rfl (by omega) (by omega)) (fun cap1 hcap1=> ?_)
         conv=>whnf
         repeat (refine⟨⟨_,rfl⟩,?_⟩;conv=>whnf)
         refine jP (n:=(D k).nc) (I:=(D k).I) (X:=(D k).X) (Y:=(D k).Y) (bZ.vsl fun i j _ _=>dG) (by omega) (fun cap2=> ?_)
         conv=>whnf
         repeat (refine⟨⟨_,rfl⟩,?_⟩;conv=>whnf)
         refine aA (bM (by first | rfl | simp) rfl rfl (by omega) (by omega)) (fun cap3 hcap3=> ?_)
         conv=>whnf
         repeat (refine⟨⟨_,rfl⟩,?_⟩;conv=>whnf)
         have e5:IntKind.i64.wrap ((k:Int)+1)=((k+1:Nat):Int):=by rw [w64 (by omega) (by omega)];omega
         refine⟨q - 1,[(0,.vsl 26 r cap (dlG D d1 d2)),(3,.sl 0 0 (k+1) cap3),(4,.int .i64 ((k+1:Nat):Int))],[none,none,none,none,none,some ⟨26,k+1,dlG D (fun i=>if i=k then cap1 else C1 i) (fun i=>if i=k then cap2 else C2 i)⟩],[some ⟨26,k+1,dlG D (fun i=>if i=k then cap1 else C1 i) (fun i=>if i=k then cap2 else C2 i)⟩],[some 5],by omega,⟨k+1,cap3,_,_,rfl,rfl,by omega⟩,?_,?_⟩
         · refine .step 2 _ _ [none,none,none,some ⟨9,(D k).nc,dA (D k).I (D k).X (D k).Y⟩,none,some ⟨26,k+1,fun i j=>if i=k/\j=14 then .sl 3 0 (D k).nc cap2 else dlG D (fun i=>if i=k then cap1 else C1 i) C2 i j⟩] _ rfl (.c (.inl rfl) (.c (.inl rfl) (.c (.inl rfl) (.c (.inr ⟨by decide,_,_,rfl,rfl,rfl,Nat.le_refl _,fun i j _ _=> .inl rfl⟩) (.c (.inl rfl) (.c (.inr ⟨by decide,_,_,rfl,rfl,rfl,Nat.le_refl _,fun i j hi hj=> ?_⟩) .n)))))) ?_
           · refine fz_a D d1 d2 C1 C2 k cap1 cap2 i j hi hj _ (fun h=> ?_) (fun h=> ?_)
             · dsimp only
               rw [bL (by omega),h,Nat.sub_self]
               clear hi
               revert j
               exact lt26 rfl rfl rfl rfl rfl rfl rfl rfl rfl rfl rfl rfl rfl rfl rfl rfl rfl rfl rfl rfl rfl rfl rfl rfl rfl rfl
             · dsimp only
               have hi:i<k+1:=hi
               rw [cY (by omega)]
           · refine .step 3 ⟨9,(D k).nc,dA (D k).I (D k).X (D k).Y⟩ _ [none,none,none,none,none,some ⟨26,k+1,dlG D (fun i=>if i=k then cap1 else C1 i) (fun i=>if i=k then cap2 else C2 i)⟩] _ rfl (.c (.inl rfl) (.c (.inl rfl) (.c (.inl rfl) (.c (.inl rfl) (.c (.inl rfl) (.c (.inr ⟨by decide,_,_,rfl,rfl,rfl,Nat.le_refl _,fun i j hi hj=> ?_⟩) .n)))))) (.refl _)
             exact fz_b D C1 C2 k cap1 cap2 i j hi hj
         · exact .mk0 ⟨.eq _ _ rfl eF,.sl _ _ _ _ _ rfl,Flat.i e5,trivial⟩ ⟨.old 0 5 _ _ rfl rfl ⟨rfl,Nat.le_refl _,fun i j hi hj=>RV.of rfl (by dsimp only;exact bU)⟩,trivial⟩ rfl rfl
       · conv=>whnf
         repeat (refine⟨⟨_,rfl⟩,?_⟩;conv=>whnf)
         refine aA (bM (by first | rfl | simp) rfl rfl (by omega) (by omega)) (fun cap1 hcap1=> ?_)
         conv=>whnf
         repeat (refine⟨⟨_,rfl⟩,?_⟩;conv=>whnf)
         refine jP (n:=(D k).nc) (I:=(D k).I) (X:=(D k).X) (Y:=(D k).Y) (bZ.vsl fun i j _ _=>dG) (by omega) (fun cap2=> ?_)
         conv=>whnf
         repeat (refine⟨⟨_,rfl⟩,?_⟩;conv=>whnf)
         refine aA (bM (by first | rfl | simp) rfl rfl (by omega) (by omega)) (fun cap3 hcap3=> ?_)
         conv=>whnf
         repeat (refine⟨⟨_,rfl⟩,?_⟩;conv=>whnf)
         have e5:IntKind.i64.wrap ((k:Int)+1)=((k+1:Nat):Int):=by rw [w64 (by omega) (by omega)];omega
         refine⟨q - 1,[(0,.vsl 26 r cap (dlG D d1 d2)),(3,.sl 0 0 (k+1) cap3),(4,.int .i64 ((k+1:Nat):Int))],[none,none,none,none,none,some ⟨26,k+1,dlG D (fun i=>if i=k then cap1 else C1 i) (fun i=>if i=k then cap2 else C2 i)⟩],[some ⟨26,k+1,dlG D (fun i=>if i=k then cap1 else C1 i) (fun i=>if i=k then cap2 else C2 i)⟩],[some 5],by omega,⟨k+1,cap3,_,_,rfl,rfl,by omega⟩,?_,?_⟩
         · refine .step 2 _ _ [none,none,none,some ⟨9,(D k).nc,dA (D k).I (D k).X (D k).Y⟩,none,some ⟨26,k+1,fun i j=>if i=k/\j=14 then .sl 3 0 (D k).nc cap2 else dlG D (fun i=>if i=k then cap1 else C1 i) C2 i j⟩] _ rfl (.c (.inl rfl) (.c (.inl rfl) (.c (.inl rfl) (.c (.inr ⟨by decide,_,_,rfl,rfl,rfl,Nat.le_refl _,fun i j _ _=> .inl rfl⟩) (.c (.inl rfl) (.c (.inr ⟨by decide,_,_,rfl,rfl,rfl,Nat.le_refl _,fun i j hi hj=> ?_⟩) .n)))))) ?_
           · refine fz_a D d1 d2 C1 C2 k cap1 cap2 i j hi hj _ (fun h=> ?_) (fun h=> ?_)
             · dsimp only
               rw [bL (by omega),h,Nat.sub_self]
               clear hi
               revert j
               exact lt26 rfl rfl rfl rfl rfl rfl rfl rfl rfl rfl rfl rfl rfl rfl rfl rfl rfl rfl rfl rfl rfl rfl rfl rfl rfl rfl
             · dsimp only
               have hi:i<k+1:=hi
               rw [cY (by omega)]
           · refine .step 3 ⟨9,(D k).nc,dA (D k).I (D k).X (D k).Y⟩ _ [none,none,none,none,none,some ⟨26,k+1,dlG D (fun i=>if i=k then cap1 else C1 i) (fun i=>if i=k then cap2 else C2 i)⟩] _ rfl (.c (.inl rfl) (.c (.inl rfl) (.c (.inl rfl) (.c (.inl rfl) (.c (.inl rfl) (.c (.inr ⟨by decide,_,_,rfl,rfl,rfl,Nat.le_refl _,fun i j hi hj=> ?_⟩) .n)))))) (.refl _)
             exact fz_b D C1 C2 k cap1 cap2 i j hi hj
         · exact .mk0 ⟨.eq _ _ rfl eF,.sl _ _ _ _ _ rfl,Flat.i e5,trivial⟩ ⟨.old 0 5 _ _ rfl rfl ⟨rfl,Nat.le_refl _,fun i j hi hj=>RV.of rfl (by dsimp only;exact bU)⟩,trivial⟩ rfl rfl
     · conv=>whnf
       repeat (refine⟨⟨_,rfl⟩,?_⟩;conv=>whnf)
       refine aA (bM (by first | rfl | simp) rfl rfl (by omega) (by omega)) (fun cap1 hcap1=> ?_)
       conv=>whnf
       repeat (refine⟨⟨_,rfl⟩,?_⟩;conv=>whnf)
       refine jP (n:=(D k).nc) (I:=(D k).I) (X:=(D k).X) (Y:=(D k).Y) (bZ.vsl fun i j _ _=>dG) (by omega) (fun cap2=> ?_)
       conv=>whnf
       repeat (refine⟨⟨_,rfl⟩,?_⟩;conv=>whnf)
       refine aA (bM (by first | rfl | simp) rfl rfl (by omega) (by omega)) (fun cap3 hcap3=> ?_)
       conv=>whnf
       repeat (refine⟨⟨_,rfl⟩,?_⟩;conv=>whnf)
       have e5:IntKind.i64.wrap ((k:Int)+1)=((k+1:Nat):Int):=by rw [w64 (by omega) (by omega)];omega
       refine⟨q - 1,[(0,.vsl 26 r cap (dlG D d1 d2)),(3,.sl 0 0 (k+1) cap3),(4,.int .i64 ((k+1:Nat):Int))],[none,none,none,none,none,some ⟨26,k+1,dlG D (fun i=>if i=k then cap1 else C1 i) (fun i=>if i=k then cap2 else C2 i)⟩],[some ⟨26,k+1,dlG D (fun i=>if i=k then cap1 else C1 i) (fun i=>if i=k then cap2 else C2 i)⟩],[some 5],by omega,⟨k+1,cap3,_,_,rfl,rfl,by omega⟩,?_,?_⟩
       · refine .step 2 _ _ [none,none,none,some ⟨9,(D k).nc,dA (D k).I (D k).X (D k).Y⟩,none,some ⟨26,k+1,fun i j=>if i=k/\j=14 then .sl 3 0 (D k).nc cap2 else dlG D (fun i=>if i=k then cap1 else C1 i) C2 i j⟩] _ rfl (.c (.inl rfl) (.c (.inl rfl) (.c (.inl rfl) (.c (.inr ⟨by decide,_,_,rfl,rfl,rfl,Nat.le_refl _,fun i j _ _=> .inl rfl⟩) (.c (.inl rfl) (.c (.inr ⟨by decide,_,_,rfl,rfl,rfl,Nat.le_refl _,fun i j hi hj=> ?_⟩) .n)))))) ?_
         · refine fz_a D d1 d2 C1 C2 k cap1 cap2 i j hi hj _ (fun h=> ?_) (fun h=> ?_)
           · dsimp only
             rw [bL (by omega),h,Nat.sub_self]
             clear hi
             revert j
             exact lt26 rfl rfl rfl rfl rfl rfl rfl rfl rfl rfl rfl rfl rfl rfl rfl rfl rfl rfl rfl rfl rfl rfl rfl rfl rfl rfl
           · dsimp only
             have hi:i<k+1:=hi
             rw [cY (by omega)]
         · refine .step 3 ⟨9,(D k).nc,dA (D k).I (D k).X (D k).Y⟩ _ [none,none,none,none,none,some ⟨26,k+1,dlG D (fun i=>if i=k then cap1 else C1 i) (fun i=>if i=k then cap2 else C2 i)⟩] _ rfl (.c (.inl rfl) (.c (.inl rfl) (.c (.inl rfl) (.c (.inl rfl) (.c (.inl rfl) (.c (.inr ⟨by decide,_,_,rfl,rfl,rfl,Nat.le_refl _,fun i j hi hj=> ?_⟩) .n)))))) (.refl _)
           exact fz_b D C1 C2 k cap1 cap2 i j hi hj
       · exact .mk0 ⟨.eq _ _ rfl eF,.sl _ _ _ _ _ rfl,Flat.i e5,trivial⟩ ⟨.old 0 5 _ _ rfl rfl ⟨rfl,Nat.le_refl _,fun i j hi hj=>RV.of rfl (by dsimp only;exact bU)⟩,trivial⟩ rfl rfl
   · have hb:k=r:=by simp at hb;omega
     subst hb
     conv=>whnf
     repeat (refine⟨⟨_,rfl⟩,?_⟩;conv=>whnf)
     exact .inr ⟨0,c',C1,C2,rfl,rfl⟩
theorem S_Heavy {m:Mem} {x:AV} {K:AV->Mem->Prop} {r:Nat} {D:Nat->Dl} (hx:cZ m x r D) (h1:True->K (.bool true) m) (h2:r<=10->(∀ k,k<r->(D k).ns<=20/\(D k).nc<=8)->K (.bool false) m):ACall Pg iC [x] m K:=by
 obtain⟨cap,d1,d2,hl⟩:=hx
 refine aD (S_Heavy0 r cap D d1 d2) (.cons _ _ _ _ hl .nil) ?_
 rintro v (rfl | ⟨rfl,g1,g2⟩)
 · exact h1 trivial
 · exact h2 g1 g2
theorem S_TwinDealers {m:Mem} {K:AV->Mem->Prop} {r cap:Nat} {D:Nat->Dl} {d1 d2:Nat->Nat} (hr:r<=10) (hD:∀ k,k<r->(D k).ns<=20/\(D k).nc<=8) (hK:∀ cap c1 c2,memK (m++ [some ⟨26,r,dlG D c1 c2⟩]) (K (.sl m.length 0 r cap))):ACall Pg bQ [.vsl 26 r cap (dlG D d1 d2)] m K:=by
 simp only [dJ]at hK
 refine(S_TwinDealers0 r cap D d1 d2 hr hD).frame0 false [] (fun _=>rfl) (.cons _ _ _ _ (aF eF) .nil) (fun v m' hv=> ?_)
 rcases hv with⟨rfl,rfl⟩ | ⟨l,cap2,c1,c2,rfl,h1⟩
 · exact⟨.sl m.length 0 0 0,[some ⟨26,0,dlG D (fun _=>0) (fun _=>0)⟩],[none],Nat.le_refl _,fun i j q hi=>by cases i <;> simp at hi,.nils _ _,⟨.ph _ _ _ (by simp [eD]),trivial⟩,hK 0 _ _⟩
 · refine⟨.sl m.length 0 r cap2,[some ⟨26,r,dlG D c1 c2⟩],[some l],Nat.le_refl _,fun i j q hi hj=> ?_,.sl _ _ _ _ _ (by simp [eD]),⟨.old _ l _ _ (by simp [eD]) h1 ⟨rfl,Nat.le_refl _,fun i j hi hj=>RV.of rfl (by dsimp only;exact bU)⟩,trivial⟩,hK cap2 c1 c2⟩
   cases i <;> cases j <;> simp at hi hj;rfl
theorem cZ.own {m:Mem} {l n cap N:Nat} {D:Nat->Dl} {c1 c2:Nat->Nat} (h:m[l]? = some (some ⟨26,N,dlG D c1 c2⟩)) (hn:n<=N):cZ m (.sl l 0 n cap) n D:=by
 obtain⟨cap',hl⟩:=bZ.own h hn (fun i j=>bU)
 exact⟨cap',c1,c2,hl⟩
theorem S_kDealer0 (d:Dl) (c1 c2 e1 e2:Nat) (hd:OkD d):ACall Pg iE [dlA d c1 c2,dlA d e1 e2] [] (fun v _=>v= .bool true/\Flat true v):=by
 obtain⟨ac,i,x,y,lb,hd',ps,ns,S,nc,I,X,Y,bd,st,j,u,v⟩:=d
 obtain⟨hx,hy,hu,hv,hX,hY,hS,hns,hnc⟩:=hd
 dsimp only at hx hy hu hv hX hY hS hns hnc
 refine vT ⟨rfl,?_⟩
 conv=>whnf
 repeat (refine⟨⟨_,rfl⟩,?_⟩;conv=>whnf)
 refine dK (by simp) ?_
 conv=>whnf
 repeat (refine⟨⟨_,rfl⟩,?_⟩;conv=>whnf)
 refine zF (i:=i) (x:=x) (y:=y) rfl rfl hx hy ?_
 conv=>whnf
 repeat (refine⟨⟨_,rfl⟩,?_⟩;conv=>whnf)
 refine dK (Eq.trans (b:=((lb.toList == lb.toList) == true)) rfl (by simp)) ?_
 conv=>whnf
 repeat (refine⟨⟨_,rfl⟩,?_⟩;conv=>whnf)
 refine dK (by simp) ?_
 conv=>whnf
 repeat (refine⟨⟨_,rfl⟩,?_⟩;conv=>whnf)
 refine dK (Eq.trans (b:=((ps == ps) == true)) rfl (by simp)) ?_
 conv=>whnf
 repeat (refine⟨⟨_,rfl⟩,?_⟩;conv=>whnf)
 refine S_kSeals (n:=ns) (k:=ns) (S:=S) (T:=S) (bZ.vsl fun i j _ _=>eJ) (bZ.vsl fun i j _ _=>eJ) hns hns (fun _ _=> ?_) (fun h=>absurd ⟨rfl,fun _ _ _ _=>rfl⟩ h)
 conv=>whnf
 repeat (refine⟨⟨_,rfl⟩,?_⟩;conv=>whnf)
 refine S_kPoints (n:=nc) (I:=I) (X:=X) (Y:=Y) (bZ.vsl fun i j _ _=>dG) (bZ.vsl fun i j _ _=>dG) hX hY (by omega) ?_
 conv=>whnf
 repeat (refine⟨⟨_,rfl⟩,?_⟩;conv=>whnf)
 refine dK (Eq.trans (b:=((bd == bd) == true)) rfl (by simp)) ?_
 conv=>whnf
 repeat (refine⟨⟨_,rfl⟩,?_⟩;conv=>whnf)
 refine dK (Eq.trans (b:=((st == st) == true)) rfl (by simp)) ?_
 conv=>whnf
 repeat (refine⟨⟨_,rfl⟩,?_⟩;conv=>whnf)
 refine zF (i:=j) (x:=u) (y:=v) rfl rfl hu hv ?_
 conv=>whnf
 repeat (refine⟨⟨_,rfl⟩,?_⟩;conv=>whnf)
 exact⟨rfl,.bool _⟩
theorem S_kDealer {m:Mem} {K:AV->Mem->Prop} {v w:AV} {d:Dl} {c1 c2 e1 e2:Nat} (hv:v=dlA d c1 c2) (hw:w=dlA d e1 e2) (hd:OkD d) (h:K (.bool true) m):ACall Pg iE [v,w] m K:=by
 subst hv hw
 refine aD (S_kDealer0 d c1 c2 e1 e2 hd) (.cons _ _ _ _ (aF flat_dlA) (.cons _ _ _ _ (aF flat_dlA) .nil)) ?_
 rintro v rfl
 exact h
theorem S_kDealers0 (r cap cap2:Nat) (D:Nat->Dl) (c1 c2 e1 e2:Nat->Nat) (hr:r<=1000000) (hD:∀ k,k<r->OkD (D k)):ACall Pg gQ [.vsl 26 r cap (dlG D c1 c2),.vsl 26 r cap2 (dlG D e1 e2)] [] (fun v _=>v= .bool true/\Flat true v):=by
 refine tK ⟨rfl,?_⟩
 conv=>whnf
 repeat (refine⟨⟨_,rfl⟩,?_⟩;conv=>whnf)
 refine kP (by simp) ?_
 conv=>whnf
 repeat (refine⟨⟨_,rfl⟩,?_⟩;conv=>whnf)
 refine aR aH (I:=fun q l m=>∃ (k:Nat),l= [(0,.vsl 26 r cap (dlG D c1 c2)),(1,.vsl 26 r cap2 (dlG D e1 e2)),(5,.int .i64 k)] /\ m= [] /\ q+k=r) r
  (l0:= [(0,.vsl 26 r cap (dlG D c1 c2)),(1,.vsl 26 r cap2 (dlG D e1 e2)),(5,.int .i64 (0:Nat))]) (m0:= []) [] ⟨0,rfl,rfl,rfl⟩ ?_ ?_
 · exact .mk0 ⟨.eq _ _ rfl eF,.eq _ _ rfl eF,Flat.i rfl,trivial⟩ trivial rfl rfl
 · rintro q l m ⟨k,rfl,rfl,hq⟩
   conv=>whnf
   repeat (refine⟨⟨_,rfl⟩,?_⟩;conv=>whnf)
   refine aE (fun hb=> ?_) (fun hb=> ?_)
   · have hb:k<r:=by simp at hb;omega
     conv=>whnf
     repeat (refine⟨⟨_,rfl⟩,?_⟩;conv=>whnf)
     refine aA (by simp;omega) ?_
     conv=>whnf
     repeat (refine⟨⟨_,rfl⟩,?_⟩;conv=>whnf)
     refine aA (by simp;omega) ?_
     conv=>whnf
     repeat (refine⟨⟨_,rfl⟩,?_⟩;conv=>whnf)
     refine S_kDealer (d:=D k) (c1:=c1 k) (c2:=c2 k) (e1:=e1 k) (e2:=e2 k) rfl rfl (hD k hb) ?_
     conv=>whnf
     repeat (refine⟨⟨_,rfl⟩,?_⟩;conv=>whnf)
     have e5:IntKind.i64.wrap ((k:Int)+1)=((k+1:Nat):Int):=by rw [w64 (by omega) (by omega)];omega
     refine⟨q - 1,[(0,.vsl 26 r cap (dlG D c1 c2)),(1,.vsl 26 r cap2 (dlG D e1 e2)),(5,.int .i64 ((k+1:Nat):Int))],[],[],by omega,⟨k+1,rfl,rfl,by omega⟩,?_⟩
     exact .mk0 ⟨.eq _ _ rfl eF,.eq _ _ rfl eF,Flat.i e5,trivial⟩ trivial rfl rfl
   · conv=>whnf
     repeat (refine⟨⟨_,rfl⟩,?_⟩;conv=>whnf)
     exact⟨rfl,.bool _⟩
theorem S_kDealers {m:Mem} {x y:AV} {K:AV->Mem->Prop} {r:Nat} {D:Nat->Dl} (hx:cZ m x r D) (hy:cZ m y r D) (hr:r<=1000000) (hD:∀ k,k<r->OkD (D k)) (h:K (.bool true) m):ACall Pg gQ [x,y] m K:=by
 obtain⟨cap,c1,c2,h1⟩:=hx
 obtain⟨cap2,e1,e2,h2⟩:=hy
 refine aD (S_kDealers0 r cap cap2 D c1 c2 e1 e2 hr hD) (.cons _ _ _ _ h1 (.cons _ _ _ _ h2 .nil)) ?_
 rintro v rfl
 exact h
end Go.Proofs.YtfolpdmbpbbimaaGreat
end

section
namespace Go.Proofs.YtfolpdmbpbbimaaGreat
open Go Go.Wit
theorem rv_act {nv:Bool} {σ:Nat->Option Nat} {k:Int} {i:Bool} {x y:Nat} {s:ByteArray} {sl co sl' co':AV} {ag:Int} {c r:Nat} (h1:RV nv σ sl sl') (h2:RV nv σ co co'):
 RV nv σ (actA k i x y s sl co ag c r) (actA k i x y s sl' co' ag c r):=by
 refine .agg _ _ ?_
 unfold actL
 refine .cons _ _ _ _ (.eq _ _ rfl (.int _ _)) (.cons _ _ _ _ (.eq _ _ rfl (.bool _)) ?_)
 iterate 8 refine .cons _ _ _ _ (.eq _ _ rfl (.int _ _)) ?_
 refine .cons _ _ _ _ (.eq _ _ rfl (.str _)) (.cons _ _ _ _ h1 (.cons _ _ _ _ h2 (.cons _ _ _ _ (.eq _ _ rfl (.int _ _)) ?_)))
 iterate 8 refine .cons _ _ _ _ (.eq _ _ rfl (.int _ _)) ?_
 exact .nil
theorem lift_act {P:Program} {fn:FuncId} {args args0:List AV} {m:Mem} {K:AV->Mem->Prop} {k:Int} {i:Bool} {x y:Nat} {s:ByteArray} {ag:Int} {c r:Nat} {n1 n2:Nat} {G1 G2:Nat->Nat->AV} {e:Int}
 (h:ACall P fn args0 [] (fun v m'=>∃ sl co,v= .tup [actA k i x y s sl co ag c r,.int .i64 e] /\ RetG 32 n1 G1 sl m'/\RetG 9 n2 G2 co m'))
 (hf1:∀ i j,i<n1->j<32->Flat true (G1 i j)) (hf2:∀ i j,i<n2->j<9->Flat true (G2 i j)) (ha:Lends (fun _=>none) (List.range m.length) m args args0)
 (hK:∀ c1 c2,K (.tup [actA k i x y s (.sl m.length 0 n1 c1) (.sl (m.length+1) 0 n2 c2) ag c r,.int .i64 e]) (m++ [some ⟨32,n1,G1⟩,some ⟨9,n2,G2⟩])):ACall P fn args m K:=by
 refine h.frame0 true (List.range m.length) (fun h=>by cases h) ha (fun v m' hv=> ?_)
 obtain⟨sl,co,rfl,h1,h2⟩:=hv
 obtain⟨c1,q1,r1,b1,d1⟩ :∃ c1 q1,RV true (eD m.length [q1,none]) sl (.sl m.length 0 n1 c1)/\(∀ q2,RV true (eD m.length [q1,q2]) sl (.sl m.length 0 n1 c1))/\((q1=none/\n1=0)\/∃ l N g,q1=some l/\m'[l]? = some (some ⟨32,N,g⟩)/\n1<=N/\∀ i j,i<n1->j<32->g i j=G1 i j):=by
  rcases h1 with⟨rfl,rfl⟩ | ⟨l,cap,N,g,rfl,g1,g2,g3⟩
  · exact⟨0,none,.nils _ _,fun _=> .nils _ _,.inl ⟨rfl,rfl⟩⟩
  · exact⟨cap,some l,.sl _ _ _ _ _ (by simp [eD]),fun _=> .sl _ _ _ _ _ (by simp [eD]),.inr ⟨l,N,g,rfl,g1,g2,g3⟩⟩
 obtain⟨c2,q2,r2,d2⟩ :∃ c2 q2,RV true (eD m.length [q1,q2]) co (.sl (m.length+1) 0 n2 c2)/\((q2=none/\n2=0)\/∃ l N g,q2=some l/\m'[l]? = some (some ⟨9,N,g⟩)/\n2<=N/\∀ i j,i<n2->j<9->g i j=G2 i j):=by
  rcases h2 with⟨rfl,rfl⟩ | ⟨l,cap,N,g,rfl,g1,g2,g3⟩
  · exact⟨0,none,.nils _ _,.inl ⟨rfl,rfl⟩⟩
  · exact⟨cap,some l,.sl _ _ _ _ _ (by simp [eD]),.inr ⟨l,N,g,rfl,g1,g2,g3⟩⟩
 refine⟨.tup [actA k i x y s (.sl m.length 0 n1 c1) (.sl (m.length+1) 0 n2 c2) ag c r,.int .i64 e],[some ⟨32,n1,G1⟩,some ⟨9,n2,G2⟩],[q1,q2],Nat.le_refl _,fun i j q hi hj=> ?_,.tup _ _ (.cons _ _ _ _ (rv_act (b1 q2) r2) (.cons _ _ _ _ (.eq _ _ rfl (.int _ _)) .nil)),⟨?_,?_,trivial⟩,hK c1 c2⟩
 · have key:q1=some q->q2=some q->False:=fun e1 e2=>by
    rcases d1 with⟨rfl,_⟩ | ⟨l,N,g,rfl,g1,_⟩
    · cases e1
    rcases d2 with⟨rfl,_⟩ | ⟨l',N',g',rfl,g1',_⟩
    · cases e2
    obtain rfl:=Option.some.inj e1
    obtain rfl:=Option.some.inj e2
    rw [g1]at g1'
    have:=congrArg (fun o:Option (Option Blk)=>match o with | some (some b)=>b.es | _=>0) g1'
    simp at this
   match i,j,hi,hj with
   | 0,0,_,_=>rfl
   | 1,1,_,_=>rfl
   | 0,1,hi,hj=>exact absurd (key (by simpa using hi) (by simpa using hj)) id
   | 1,0,hi,hj=>exact absurd (key (by simpa using hj) (by simpa using hi)) id
   | i+2,_,hi,_=>simp at hi
   | _,j+2,_,hj=>simp at hj
 · rcases d1 with⟨rfl,rfl⟩ | ⟨l,N,g,rfl,g1,g2,g3⟩
   · exact .ph _ _ _ (by simp [eD])
   · exact .old _ l _ _ (by simp [eD]) g1 ⟨rfl,g2,fun i j hi hj=> .eq _ _ (g3 i j hi hj) (by rw [show (Blk.mk 32 N g).get i j=g i j from rfl,g3 i j hi hj];exact hf1 i j hi hj)⟩
 · rcases d2 with⟨rfl,rfl⟩ | ⟨l,N,g,rfl,g1,g2,g3⟩
   · exact .ph _ _ _ (by simp [eD])
   · exact .old _ l _ _ (by simp [eD]) g1 ⟨rfl,g2,fun i j hi hj=> .eq _ _ (g3 i j hi hj) (by rw [show (Blk.mk 9 N g).get i j=g i j from rfl,g3 i j hi hj];exact hf2 i j hi hj)⟩
end Go.Proofs.YtfolpdmbpbbimaaGreat
end

