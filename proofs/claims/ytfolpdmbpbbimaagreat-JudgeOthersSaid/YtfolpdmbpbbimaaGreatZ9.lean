/- Texts of a proof, one behind the other; the last of these: JudgeTrue; no condition. -/
import Derived.Test.YtfolpdmbpbbimaaGreatZ8
set_option linter.unusedVariables false
set_option linter.unusedSimpArgs false
set_option maxRecDepth 100000
section
namespace Go.Proofs.YtfolpdmbpbbimaaGreat
open Go Go.Wit
theorem S_turnedAny {m:Mem} {K:AV->Mem->Prop} {i:Bool} {x y:Nat} {a b:Int} {f:Nat->Int} (hx:x<w256) (hy:y<w256) (hf:∀ i,i<32->0<=f i/\f i<=255)
    (h1:(isD a && isD b)=false->K (.tup [.agg (rowL fun _=>0),.int .i64 1]) m)
    (h2:isD a=true->isD b=true->Bad i x y->K (.tup [.agg (rowL fun _=>0),.int .i64 3]) m)
    (h3:isD a=true->isD b=true->∀ P s,On P->rawA i x y=ptA P->s=tnF P a b f->(∀ i,0<=s i/\s i<=255)->K (.tup [.agg (rowL s),.int .i64 0]) m):ACall Pg F_pair_turned [rawA i x y,.int .i64 a,.int .i64 b,.agg (rowL f)] m K:=by
  cases hab:(isD a && isD b)with
  | false=>exact S_turned_no hab (h1 hab)
  | true =>
    rw [Bool.and_eq_true]at hab
    by_cases hP:∃ P,On P/\rawA i x y=ptA P
    · obtain⟨P,oP,e⟩:=hP
      rw [e]
      exact S_turned oP hab.1 hab.2 hf fun s hs hb=>h3 hab.1 hab.2 P s oP e hs hb
    · have hbad:Bad i x y:=fun P oP e=>hP ⟨P,oP,e⟩
      exact S_turned_bad hx hy hbad hab.1 hab.2 (h2 hab.1 hab.2 hbad)
theorem flat_ne {n:Nat} {e:Int}:Flat true (.tup [numA n,.int .i64 e]):= .tup _ (.cons _ _ flat_numA (.cons _ _ (.int _ _) .nil))
theorem S_LOfE {m:Mem} {K:AV->Mem->Prop} {x:AV} {f:Nat->Int} (hx:x= .agg (rowL f)) (hf:∀ i,i<32->0<=f i/\f i<=255) (h:∀ n,n=ofZ f->n<w256->K (numA n) m):ACall Pg F_limb_Of [x] m K:=by
  subst hx;exact S_LOf hf h
theorem S_Open0 (i:Bool) (x y:Nat) (a b:Int) (f:Nat->Int) (hx:x<w256) (hy:y<w256) (hf:∀ i,i<32->0<=f i/\f i<=255):ACall Pg F_pair_Open [rawA i x y,.int .i64 a,.int .i64 b,.agg (rowL f)] [] (fun v _=>
    (((isD a && isD b)=false/\v= .tup [numA 0,.int .i64 1])\/(isD a=true/\isD b=true/\Bad i x y/\v= .tup [numA 0,.int .i64 3])\/
     (isD a=true/\isD b=true/\∃ P,On P/\rawA i x y=ptA P/\v= .tup [numA (ofZ (tnF P a b f)),.int .i64 0]))/\Flat true v):=by
  have er:AV.agg (rowL f)= .agg ((List.range 32).map fun i=> .int .u8 (f i)):=rfl
  rw [er]
  refine B_pair_Open ⟨rfl,?_⟩
  conv=>whnf
  repeat (refine⟨⟨_,rfl⟩,?_⟩;conv=>whnf)
  refine S_turnedAny (i:=i) (x:=x) (y:=y) (f:=f) hx hy hf (fun h=> ?_) (fun h1 h2 h3=> ?_) (fun h1 h2 P t oP eP ht hbt=> ?_)
  · rw [rowL]
    conv=>whnf
    repeat (refine⟨⟨_,rfl⟩,?_⟩;conv=>whnf)
    exact⟨.inl ⟨h,rfl⟩,flat_ne (n:=0)⟩
  · rw [rowL]
    conv=>whnf
    repeat (refine⟨⟨_,rfl⟩,?_⟩;conv=>whnf)
    exact⟨.inr (.inl ⟨h1,h2,h3,rfl⟩),flat_ne (n:=0)⟩
  · rw [rowL]
    conv=>whnf
    repeat (refine⟨⟨_,rfl⟩,?_⟩;conv=>whnf)
    have e0:=(outRow2 (s:=t) (g:=fun _ j=> [AV.int .u8 0].getD j .un) rfl).1
    refine S_LOfE e0 (fun i _=>hbt i) (fun n hn hn1=> ?_)
    rw [ht]at hn
    conv=>whnf
    repeat (refine⟨⟨_,rfl⟩,?_⟩;conv=>whnf)
    refine⟨.inr (.inr ⟨h1,h2,P,oP,eP,by rw [<- hn];rfl⟩),flat_ne (n:=n)⟩
theorem S_Open {m:Mem} {K:AV->Mem->Prop} {i:Bool} {x y:Nat} {a b:Int} {f:Nat->Int} (hx:x<w256) (hy:y<w256) (hf:∀ i,i<32->0<=f i/\f i<=255)
    (h1:(isD a && isD b)=false->K (.tup [numA 0,.int .i64 1]) m)
    (h2:isD a=true->isD b=true->Bad i x y->K (.tup [numA 0,.int .i64 3]) m)
    (h3:isD a=true->isD b=true->∀ P n,On P->rawA i x y=ptA P->n=ofZ (tnF P a b f)->K (.tup [numA n,.int .i64 0]) m):ACall Pg F_pair_Open [rawA i x y,.int .i64 a,.int .i64 b,.agg (rowL f)] m K:=by
  refine lift_flat (S_Open0 i x y a b f hx hy hf) (.cons _ _ _ _ (lend_flat flat_rawA) (.cons _ _ _ _ lend_int (.cons _ _ _ _ lend_int (.cons _ _ _ _ (lend_flat flat_rowA) .nil)))) ?_
  rintro v (⟨h,rfl⟩ | ⟨g1,g2,g3,rfl⟩ | ⟨g1,g2,P,oP,e,rfl⟩)
  · exact h1 h
  · exact h2 g1 g2 g3
  · exact h3 g1 g2 P _ oP e rfl
theorem S_RStreamE {m:Mem} {x:AV} {K:AV->Mem->Prop} {k k2 N:Nat} (e:k2=k) {f:Nat->Int} (hx:Shows m x k2 f) (hN:N<=65536) (hk:k<=900000) (hf:∀ i,i<k->0<=f i/\f i<=255)
    (h1:∀ cap,memK (m++ [some ⟨1,N,bytesG (stF k f)⟩]) (K (.sl m.length 0 N cap))):ACall Pg F_witanref04_Stream [x,.int .i64 N] m K:=by
  subst e;exact S_RStream hx hN hk hf h1
theorem key_cells {P:Pt Fp} {a b:Int} (ha:isD a=true) (hb:isD b=true) {g h:Nat->Nat->AV} {i:Nat} (hi:i<pbN P+2) (hg:∀ i,i<pbN P->g i 0= .int .u8 (pbF P i)) (h0:h 0 0= .int .u8 (IntKind.u8.wrap a)) (h1:h 1 0= .int .u8 (IntKind.u8.wrap b)) {z:Nat->Nat->AV}:catG (0+pbN P) (catG 0 z g) h i 0= .int .u8 (keyF P a b i):=by
  unfold keyF
  rw [Nat.zero_add]
  by_cases h:i<pbN P
  · rw [catG_lt h,catB_lt h,catG_ge (Nat.zero_le _),Nat.sub_zero,hg i h]
  · rw [catG_ge (by omega),catB_ge (by omega)]
    have:i - pbN P=0\/i - pbN P=1:=by omega
    rcases this with e | e
    · rw [e,h0,isD_u8 ha,if_pos rfl]
    · rw [e,h1,isD_u8 hb,if_neg (by decide)]
theorem S_Rstr0 (P:Pt Fp) (a b:Int) (ha:isD a=true) (hb:isD b=true):ACall Pg F_witanref06_stream [ptA P,.int .i64 a,.int .i64 b] [] (fun v m'=>∃ n' f',(n'=32/\f'=stF (pbN P+2) (keyF P a b))/\RetB n' f' v m'):=by
  have hk:=keyF_in (P:=P) ha hb
  have hn:=pbN_le P
  refine B_witanref06_stream ⟨rfl,?_⟩
  conv=>whnf
  repeat (refine⟨⟨_,rfl⟩,?_⟩;conv=>whnf)
  refine S_PBytes (P:=P) (fun cap1=> ?_)
  conv=>whnf
  repeat (refine⟨⟨_,rfl⟩,?_⟩;conv=>whnf)
  refine condB_ok (app_ok (by first | rfl | simp) (decide_eq_true (by show 0+pbN P<=pbN P;omega)) rfl (by omega) (by omega)) (fun cap2 hcap2=> ?_)
  conv=>whnf
  repeat (refine⟨⟨_,rfl⟩,?_⟩;conv=>whnf)
  refine condB_ok (app_ok (by first | rfl | simp) rfl rfl (by omega) (by omega)) (fun cap3 hcap3=> ?_)
  conv=>whnf
  repeat (refine⟨⟨_,rfl⟩,?_⟩;conv=>whnf)
  refine S_RStreamE (k:=pbN P+2) (k2:=0+pbN P+2) (by omega) (f:=keyF P a b) (N:=32) (Shows.any rfl (Nat.le_of_eq (Nat.zero_add _)) fun i hi=> ?_) (by decide) (by omega) hk (fun cap4=> ?_)
  · rw [show 0+i=i from Nat.zero_add i]
    dsimp only
    exact key_cells ha hb (by omega) (fun i hi=>by show AV.int .u8 (pbF P (0+i))=_;rw [Nat.zero_add]) rfl rfl
  conv=>whnf
  repeat (refine⟨⟨_,rfl⟩,?_⟩;conv=>whnf)
  exact⟨32,_,⟨rfl,rfl⟩,.inr ⟨_,cap4,32,_,rfl,rfl,Nat.le_refl _,fun i hi=>rfl⟩⟩
theorem S_Rstr {m:Mem} {K:AV->Mem->Prop} {P:Pt Fp} {a b:Int} (ha:isD a=true) (hb:isD b=true) (h1:∀ cap,memK (m++ [some ⟨1,32,bytesG (stF (pbN P+2) (keyF P a b))⟩]) (K (.sl m.length 0 32 cap))):ACall Pg F_witanref06_stream [ptA P,.int .i64 a,.int .i64 b] m K:=by
  simp only [memK_eq]at h1
  refine lift_bytes (S_Rstr0 P a b ha hb) (.cons _ _ _ _ (lend_flat flat_ptA) (.cons _ _ _ _ lend_int (.cons _ _ _ _ lend_int .nil))) ?_
  rintro n' f' cap' ⟨rfl,rfl⟩
  exact h1 cap'
theorem S_RSeal0 (P:Pt Fp) (a b:Int) (n:Nat) (ha:isD a=true) (hb:isD b=true):ACall Pg F_witanref06_Seal [ptA P,.int .i64 a,.int .i64 b,numA n] [] (fun v _=>v= .agg (rowL (tnF P a b (byteZ n)))/\Flat true v):=by
  have hT:∀ i,tnF P a b (byteZ n) i=xorB (byteZ n i) (stF (pbN P+2) (keyF P a b) i):=fun _=>rfl
  generalize tnF P a b (byteZ n)=T at*
  refine B_witanref06_Seal ⟨rfl,?_⟩
  conv=>whnf
  repeat (refine⟨⟨_,rfl⟩,?_⟩;conv=>whnf)
  refine S_RBytes (a:=n) (fun s hs hb0=> ?_)
  rw [<- hs]at hT
  rw [rowL]
  conv=>whnf
  repeat (refine⟨⟨_,rfl⟩,?_⟩;conv=>whnf)
  refine S_Rstr (P:=P) ha hb (fun cap3=> ?_)
  conv=>whnf
  repeat (refine⟨⟨_,rfl⟩,?_⟩;conv=>whnf)
  refine loop_wk mixed (I:=fun q l m=>∃ (j:Nat),l= [(8,.ptr 1 0 0),(9,.ptr 0 0 0),(10,.sl 2 0 32 cap3),(11,.int .i64 j)] /\ m= [some ⟨1,32,bytesG (fun i=>if i<j then T i else s i)⟩,some ⟨1,32,fun _ _=> .int .u8 0⟩,some ⟨1,32,bytesG (stF (pbN P+2) (keyF P a b))⟩] /\ q+j=32) 32
    (l0:= [(8,.ptr 1 0 0),(9,.ptr 0 0 0),(10,.sl 2 0 32 cap3),(11,.int .i64 (0:Nat))]) (m0:= [some ⟨1,32,bytesG (fun i=>if i<0 then T i else s i)⟩,some ⟨1,32,fun _ _=> .int .u8 0⟩,some ⟨1,32,bytesG (stF (pbN P+2) (keyF P a b))⟩]) [some 3,some 2,some 4] ⟨0,rfl,rfl,rfl⟩ ?_ ?_
  · refine .mk0 ⟨.ptr _ _ _ _ rfl,.ptr _ _ _ _ rfl,.sl _ _ _ _ _ rfl,Flat.i rfl,trivial⟩ ⟨.old 0 3 _ _ rfl rfl ⟨rfl,Nat.le_refl _,fun i j hi hj=> ?_⟩,.old 1 2 _ _ rfl rfl ⟨rfl,Nat.le_refl _,fun i j hi hj=>oneU0 hj rfl⟩,.old 2 4 _ _ rfl rfl ⟨rfl,Nat.le_refl _,fun i j hi hj=>RV.of rfl (.int _ _)⟩,trivial⟩ rfl rfl
    have hj:j<1:=hj
    obtain rfl:j=0:=by omega
    exact zeroB (j:=0) (a:=T) (z:=s) (rowAtE (p:=i) hi rfl rfl)
  · rintro q l m ⟨j,rfl,rfl,hq⟩
    conv=>whnf
    repeat (refine⟨⟨_,rfl⟩,?_⟩;conv=>whnf)
    refine condB_mk (fun hb=> ?_) (fun hb=> ?_)
    · have hb:j<32:=by simp at hb;omega
      conv=>whnf
      repeat (refine⟨⟨_,rfl⟩,?_⟩;conv=>whnf)
      refine condB_ok (by simp;omega) ?_
      conv=>whnf
      repeat (refine⟨⟨_,rfl⟩,?_⟩;conv=>whnf)
      refine condB_ok (by simp [roomG,Nat.ble_eq];omega) ?_
      conv=>whnf
      repeat (refine⟨⟨_,rfl⟩,?_⟩;conv=>whnf)
      refine condB_ok (by simp;omega) ?_
      conv=>whnf
      repeat (refine⟨⟨_,rfl⟩,?_⟩;conv=>whnf)
      refine condB_ok (by simp [roomG,Nat.ble_eq];omega) ?_
      conv=>whnf
      repeat (refine⟨⟨_,rfl⟩,?_⟩;conv=>whnf)
      refine condB_ok (by simp;omega) ?_
      conv=>whnf
      repeat (refine⟨⟨_,rfl⟩,?_⟩;conv=>whnf)
      refine condB_ok (by simp [roomG,Nat.ble_eq];omega) ?_
      conv=>whnf
      repeat (refine⟨⟨_,rfl⟩,?_⟩;conv=>whnf)
      have e5:IntKind.i64.wrap ((j:Int)+1)=((j+1:Nat):Int):=by rw [w64 (by omega) (by omega)];omega
      refine⟨q - 1,[(8,.ptr 1 0 0),(9,.ptr 0 0 0),(10,.sl 2 0 32 cap3),(11,.int .i64 ((j+1:Nat):Int))],[some ⟨1,32,bytesG (fun i=>if i<j+1 then T i else s i)⟩,some ⟨1,32,fun _ _=> .int .u8 0⟩,some ⟨1,32,bytesG (stF (pbN P+2) (keyF P a b))⟩],[some 0,some 1,some 2],by omega,⟨j+1,rfl,rfl,by omega⟩,?_⟩
      exact .mk0 ⟨.ptr _ _ _ _ rfl,.ptr _ _ _ _ rfl,.sl _ _ _ _ _ rfl,Flat.i e5,trivial⟩ ⟨.old 0 0 _ _ rfl rfl ⟨rfl,Nat.le_refl _,fun x y hx hy=>turnW hy rfl (hT j) (Nat.zero_add _) (Nat.zero_add _) (Nat.zero_add _) rfl⟩,.old 1 1 _ _ rfl rfl ⟨rfl,Nat.le_refl _,fun i j hi hj=> .eq _ _ rfl (.int _ _)⟩,.old 2 2 _ _ rfl rfl ⟨rfl,Nat.le_refl _,fun i j hi hj=>RV.of rfl (.int _ _)⟩,trivial⟩ rfl rfl
    · have hb:j=32:=by simp at hb;omega
      subst hb
      conv=>whnf
      repeat (refine⟨⟨_,rfl⟩,?_⟩;conv=>whnf)
      have e0:=outTurn (s:=T) (z:=s) (g:=fun _ _=> .int .u8 0) rfl
      refine⟨e0,?_⟩
      exact Eq.mpr (congrArg (Flat true) e0) flat_rowA
theorem S_RSeal {m:Mem} {K:AV->Mem->Prop} {P:Pt Fp} {a b:Int} {n:Nat} (ha:isD a=true) (hb:isD b=true) (h:∀ s,s=tnF P a b (byteZ n)->(∀ i,0<=s i/\s i<=255)->K (.agg (rowL s)) m):ACall Pg F_witanref06_Seal [ptA P,.int .i64 a,.int .i64 b,numA n] m K:=by
  refine lift_flat (S_RSeal0 P a b n ha hb) (.cons _ _ _ _ (lend_flat flat_ptA) (.cons _ _ _ _ lend_int (.cons _ _ _ _ lend_int (.cons _ _ _ _ lend_numA .nil)))) ?_
  rintro v rfl
  exact h _ rfl fun i=>xorB_lt _ _
end Go.Proofs.YtfolpdmbpbbimaaGreat
end

section
namespace Go.Proofs.YtfolpdmbpbbimaaGreat
open Go Go.Wit
theorem flat_be {b:Bool} {e:Int}:Flat true (.tup [.bool b,.int .i64 e]):= .tup _ (.cons _ _ (.bool _) (.cons _ _ (.int _ _) .nil))
theorem S_At {m:Mem} {a:AV} {K:AV->Mem->Prop} {n x:Nat} {P:Nat->Pt Fp} (ha:ShowsG m a 9 n (ptsG P)) (hx:x<w256) (oP:∀ i,i<n->On (P i)) (hn:n<=64) (h:∀ R,On R->R=polyP P x n->K (.tup [ptA R,.int .i64 0]) m):ACall Pg F_feld_At [a,numA x] m K:=by
  obtain⟨cap,hl⟩:=ha
  refine lift_flat (S_At0 n cap P x hx oP hn) (.cons _ _ _ _ hl (.cons _ _ _ _ lend_numA .nil)) ?_
  rintro v rfl
  exact h _ (On.polyP oP) rfl
def eq9 (i:Bool) (x y:Nat) (j:Bool) (u v:Nat):Bool:=(i == j) && (lim x 0 == lim u 0 && (lim x 1 == lim u 1 && (lim x 2 == lim u 2 && (lim x 3 == lim u 3 && (lim y 0 == lim v 0 && (lim y 1 == lim v 1 && (lim y 2 == lim v 2 && (lim y 3 == lim v 3 && true))))))))
theorem eq9_iff {i j:Bool} {x y u v:Nat} (hx:x<w256) (hy:y<w256) (hu:u<w256) (hv:v<w256):eq9 i x y j u v=decide (i=j/\x=u/\y=v):=by
  have e:eq9 i x y j u v=((i == j) && (eqX x u && eqX y v)):=by
    unfold eq9 eqX
    simp [Bool.and_assoc]
  rw [e,eqX_iff hx hu,eqX_iff hy hv]
  cases i <;> cases j <;> simp
theorem eq9_pt {P Q:Pt Fp}:eq9 (isI P) (xN P) (yN P) (isI Q) (xN Q) (yN Q)=true ↔ P=Q:=by
  rw [eq9_iff (xN_w P) (yN_w P) (xN_w Q) (yN_w Q),decide_eq_true_iff]
  constructor
  · rintro⟨a,b,c⟩;exact ptA_inj (by rw [ptA,ptA,a,b,c])
  · rintro rfl;exact⟨rfl,rfl,rfl⟩
theorem S_Fits0 (n cap:Nat) (P:Nat->Pt Fp) (x y:Nat) (hx:x<w256) (hy:y<w256) (oP:∀ i,i<n->On (P i)) (hn:n<=64):ACall Pg F_feld_Fits [.vsl 9 n cap (ptsG P),numA x,numA y] [] (fun v _=>((nmul y gG=polyP P x n/\v= .tup [.bool true,.int .i64 0])\/(nmul y gG ≠ polyP P x n/\v= .tup [.bool false,.int .i64 0]))/\Flat true v):=by
  refine B_feld_Fits ⟨rfl,?_⟩
  conv=>whnf
  repeat (refine⟨⟨[],rfl⟩,?_⟩;conv=>whnf)
  refine S_At (P:=P) (ShowsG.vsl fun _ _ _ _=>flat_ptsG) hx oP hn (fun R oR hR=> ?_)
  conv=>whnf
  repeat (refine⟨⟨[],rfl⟩,?_⟩;conv=>whnf)
  refine T_Base hy (fun Q oQ hQ=> ?_)
  conv=>whnf
  repeat (refine⟨⟨[],rfl⟩,?_⟩;conv=>whnf)
  rw [<- hQ,<- hR]
  show ((Q=R/\AV.tup [.bool (eq9 (isI Q) (xN Q) (yN Q) (isI R) (xN R) (yN R)),.int .i64 0] = .tup [.bool true,.int .i64 0])\/(Q ≠ R/\AV.tup [.bool (eq9 (isI Q) (xN Q) (yN Q) (isI R) (xN R) (yN R)),.int .i64 0] = .tup [.bool false,.int .i64 0]))/\Flat true (AV.tup [.bool (eq9 (isI Q) (xN Q) (yN Q) (isI R) (xN R) (yN R)),.int .i64 0])
  refine⟨?_,flat_be⟩
  by_cases e:Q=R
  · exact .inl ⟨e,by rw [eq9_pt.2 e]⟩
  · exact .inr ⟨e,by rw [show eq9 (isI Q) (xN Q) (yN Q) (isI R) (xN R) (yN R)=false by rw [Bool.eq_false_iff];exact fun h=>e (eq9_pt.1 h)]⟩
theorem S_Fits {m:Mem} {a:AV} {K:AV->Mem->Prop} {n x y:Nat} {P:Nat->Pt Fp} (ha:ShowsG m a 9 n (ptsG P)) (hx:x<w256) (hy:y<w256) (oP:∀ i,i<n->On (P i)) (hn:n<=64) (h1:nmul y gG=polyP P x n->K (.tup [.bool true,.int .i64 0]) m) (h2:nmul y gG ≠ polyP P x n->K (.tup [.bool false,.int .i64 0]) m):ACall Pg F_feld_Fits [a,numA x,numA y] m K:=by
  obtain⟨cap,hl⟩:=ha
  refine lift_flat (S_Fits0 n cap P x y hx hy oP hn) (.cons _ _ _ _ hl (.cons _ _ _ _ lend_numA (.cons _ _ _ _ lend_numA .nil))) ?_
  rintro v (⟨e,rfl⟩ | ⟨e,rfl⟩)
  · exact h1 e
  · exact h2 e
def sumN (c:Nat->Nat) (x:Nat):Nat->Nat:=Nat.rec (motive:=fun _=>Nat) 0 (fun k ih=>ih+x ^ k*c k)
def horN (c:Nat->Nat) (x n:Nat):Nat->Nat:=Nat.rec (motive:=fun _=>Nat) 0 (fun t ih=>ih*x+c (n - 1 - t))
theorem sumN_succ {c:Nat->Nat} {x k:Nat}:sumN c x (k+1)=sumN c x k+x ^ k*c k:=rfl
theorem horN_succ {c:Nat->Nat} {x n t:Nat}:horN c x n (t+1)=horN c x n t*x+c (n - 1 - t):=rfl
theorem horN_sum {c:Nat->Nat} {x n:Nat}:∀ t,t<=n->sumN c x (n - t)+x ^ (n - t)*horN c x n t=sumN c x n
  | 0,_=>by show sumN c x n+_*0=_;rw [Nat.mul_zero,Nat.add_zero]
  | t + 1, h => by
    have ih:=horN_sum t (c:=c) (x:=x) (n:=n) (by omega)
    have e:n - t=n - (t+1)+1:=by omega
    rw [e,sumN_succ,Nat.pow_succ]at ih
    rw [<- ih,horN_succ,show n - 1 - t=n - (t+1) by omega,Nat.mul_add,Nat.mul_assoc,Nat.mul_comm x (horN c x n t),Nat.add_assoc,Nat.add_comm (x ^ (n - (t+1))*c (n - (t+1)))]
theorem horN_all {c:Nat->Nat} {x n:Nat}:horN c x n n=sumN c x n:=by
  have:=horN_sum (c:=c) (x:=x) (n:=n) n (Nat.le_refl _)
  rw [Nat.sub_self,Nat.pow_zero,Nat.one_mul]at this
  rw [<- this];show _=0+_;rw [Nat.zero_add]
theorem polyP_sum {c:Nat->Nat} {x:Nat}:∀ n,polyP (fun i=>nmul (c i) gG) x n=nmul (sumN c x n) gG
  | 0=>rfl
  | n+1=>by rw [polyP_succ,polyP_sum n,sumN_succ,nmul_add crvP on_G,<- nmul_mul crvP on_G]
theorem mod_hor {a x c n:Nat}:(a % n*x % n+c) % n=(a*x+c) % n:=by
  rw [Nat.mod_mul_mod,Nat.mod_add_mod]
end Go.Proofs.YtfolpdmbpbbimaaGreat
end

section
namespace Go.Proofs.YtfolpdmbpbbimaaGreat
open Go Go.Wit
structure Dl where
  ac:Int
  i:Bool
  x:Nat
  y:Nat
  lb:ByteArray
  hd:Int
  ps:Bool
  ns:Nat
  S:Nat->Nat->Int
  nc:Nat
  I:Nat->Bool
  X:Nat->Nat
  Y:Nat->Nat
  bd:Bool
  st:Bool
  j:Bool
  u:Nat
  v:Nat
def dlL (d:Dl) (sl co:AV):List AV:= [.int .i64 d.ac,.bool d.i,.int .u64 (lim d.x 0),.int .u64 (lim d.x 1),.int .u64 (lim d.x 2),.int .u64 (lim d.x 3),.int .u64 (lim d.y 0),.int .u64 (lim d.y 1),.int .u64 (lim d.y 2),.int .u64 (lim d.y 3),
  .str d.lb,.int .i64 d.hd,.bool d.ps,sl,co,.bool d.bd,.bool d.st,.bool d.j,.int .u64 (lim d.u 0),.int .u64 (lim d.u 1),.int .u64 (lim d.u 2),.int .u64 (lim d.u 3),.int .u64 (lim d.v 0),.int .u64 (lim d.v 1),.int .u64 (lim d.v 2),.int .u64 (lim d.v 3)]
def dlG (D:Nat->Dl) (c1 c2:Nat->Nat):Nat->Nat->AV:=fun k j=>(dlL (D k) (.vsl 32 (D k).ns (c1 k) (sealG (D k).S)) (.vsl 9 (D k).nc (c2 k) (rawsG (D k).I (D k).X (D k).Y))).getD j .un
theorem flat_dlL {nv:Bool} {d:Dl} {sl co:AV} (h1:Flat nv sl) (h2:Flat nv co) (j:Nat):Flat nv ((dlL d sl co).getD j .un):=by
  by_cases hj:j<26
  · have:j=0\/j=1\/j=2\/j=3\/j=4\/j=5\/j=6\/j=7\/j=8\/j=9\/j=10\/j=11\/j=12\/j=13\/j=14\/j=15\/j=16\/j=17\/j=18\/j=19\/j=20\/j=21\/j=22\/j=23\/j=24\/j=25:=by omega
    rcases this with rfl | rfl | rfl | rfl | rfl | rfl | rfl | rfl | rfl | rfl | rfl | rfl | rfl | rfl | rfl | rfl | rfl | rfl | rfl | rfl | rfl | rfl | rfl | rfl | rfl | rfl
    all_goals first
      | exact h1
      | exact h2
      | exact .int _ _
      | exact .bool _
      | exact .str _
  · rw [List.getD_eq_getElem?_getD,List.getElem?_eq_none (by show 26<=j;omega)];exact .un
theorem flat_dlG {D:Nat->Dl} {c1 c2:Nat->Nat} {k j:Nat}:Flat false (dlG D c1 c2 k j):=flat_dlL flat_seals flat_raws j
theorem flat_dls {n cap:Nat} {D:Nat->Dl} {c1 c2:Nat->Nat}:Flat false (.vsl 26 n cap (dlG D c1 c2)):= .vsl _ _ _ _ rfl fun _ _ _ _=>flat_dlG
def ShowsD (m:Mem) (x:AV) (n:Nat) (D:Nat->Dl):Prop:= ∃ cap c1 c2,Lend (fun _=>none) (List.range m.length) m x (.vsl 26 n cap (dlG D c1 c2))
theorem ShowsD.vsl {m:Mem} {n cap:Nat} {D:Nat->Dl} {c1 c2:Nat->Nat}:ShowsD m (.vsl 26 n cap (dlG D c1 c2)) n D:=⟨cap,c1,c2,lend_flat flat_dls⟩
theorem ShowsD.nils {m:Mem} {D:Nat->Dl}:ShowsD m .nils 0 D:=⟨0,fun _=>0,fun _=>0,.nils _ _⟩
def selN (me k:Nat):Nat:=if k<me then k else k - 1
def othN (me q:Nat):Nat:=if q+1<me then q+1 else q+2
theorem selN_0 {me:Nat}:selN me 0=0:=by unfold selN;split <;> rfl
noncomputable def ptOf (d:Dl):Pt Fp:=by
  classical
  exact if h:∃ P,On P/\rawA d.i d.x d.y=ptA P then h.choose else .inf
theorem ptOf_eq {d:Dl} {P:Pt Fp} (oP:On P) (h:rawA d.i d.x d.y=ptA P):ptOf d=P:=by
  classical
  have hh:∃ P,On P/\rawA d.i d.x d.y=ptA P:=⟨P,oP,h⟩
  unfold ptOf
  rw [dif_pos hh]
  exact ptA_inj (hh.choose_spec.2.symm.trans h)
noncomputable def sealN (n:Nat) (f:Nat->Int) (t:Nat) (D:Nat->Dl) (me q:Nat):Nat->Int:=tnF (nmul (secN n f) (ptOf (D (othN me q - 1)))) me (othN me q) (byteZ (sumN (coN n f) (othN me q) (t+1) % nN))
theorem S_CheckD {m:Mem} {K:AV->Mem->Prop} {v:AV} {i:Bool} {x y:Nat} (hv:v=rawA i x y) (hx:x<w256) (hy:y<w256) (h1:∀ P,On P->rawA i x y=ptA P->K (.int .i64 0) m) (h2:Bad i x y->K (.int .i64 3) m):ACall Pg F_curve_Check [v] m K:=by
  subst hv;exact S_Check hx hy h1 h2
abbrev actZ:List AV:= [.int .i64 0,.bool false,.int .u64 0,.int .u64 0,.int .u64 0,.int .u64 0,.int .u64 0,.int .u64 0,.int .u64 0,.int .u64 0,.str nB,.nils,.nils,.int .i64 0,.int .u64 0,.int .u64 0,.int .u64 0,.int .u64 0,.int .u64 0,.int .u64 0,.int .u64 0,.int .u64 0]
theorem flat_get {nv:Bool}:∀ {l:List AV} {n:Nat},Flats nv l->Flat nv (l.getD n .un)
  | [],n,_=>by simp;exact .un
  | a::r,0,h=>by cases h with | cons _ _ h1 _=>simpa using h1
  | a::r,n+1,h=>by cases h with | cons _ _ _ h2=>simpa using flat_get (n:=n) h2
theorem flat_actZ {nv:Bool}:Flats nv actZ:=by
  repeat (first | exact .nil | refine .cons _ _ (.int _ _) ?_ | refine .cons _ _ (.bool _) ?_ | refine .cons _ _ (.str _) ?_ | refine .cons _ _ .nils ?_)
theorem act_blk {nv:Bool} {σ:Nat->Option Nat} {i j:Nat} {A:AV} (hi:i<1) (hj:j<22) (hA:A=lstG 22 actZ i j):RV nv σ A (lstG 22 actZ i j):=
  RV.of hA (flat_get flat_actZ)
theorem act_blk0 {nv:Bool} {σ:Nat->Option Nat} {i j:Nat} {A:AV} (hi:i<1) (hA:A=actZ.getD j .un):RV nv σ A (lstG 22 actZ i j):=by
  obtain rfl:i=0:=by omega
  refine RV.of ?_ (flat_get flat_actZ)
  rw [hA];show _=actZ.getD (0*22+j) .un
  rw [Nat.zero_mul,Nat.zero_add]
theorem isD_nat {i:Nat} (h1:1<=i) (h2:i<=8):isD (i:Int)=true:=by
  unfold isD;rw [decide_eq_true (by omega),decide_eq_true (by omega)];rfl
theorem all32 {p:Nat->Prop} (h:p 0/\p 1/\p 2/\p 3/\p 4/\p 5/\p 6/\p 7/\p 8/\p 9/\p 10/\p 11/\p 12/\p 13/\p 14/\p 15/\p 16/\p 17/\p 18/\p 19/\p 20/\p 21/\p 22/\p 23/\p 24/\p 25/\p 26/\p 27/\p 28/\p 29/\p 30/\p 31):∀ j,j<32->p j:=fun j hj=>by
  have:j=0\/j=1\/j=2\/j=3\/j=4\/j=5\/j=6\/j=7\/j=8\/j=9\/j=10\/j=11\/j=12\/j=13\/j=14\/j=15\/j=16\/j=17\/j=18\/j=19\/j=20\/j=21\/j=22\/j=23\/j=24\/j=25\/j=26\/j=27\/j=28\/j=29\/j=30\/j=31:=by omega
  rcases this with rfl | rfl | rfl | rfl | rfl | rfl | rfl | rfl | rfl | rfl | rfl | rfl | rfl | rfl | rfl | rfl | rfl | rfl | rfl | rfl | rfl | rfl | rfl | rfl | rfl | rfl | rfl | rfl | rfl | rfl | rfl | rfl
  all_goals simp [h]
theorem seal_row {nv:Bool} {σ:Nat->Option Nat} {A:AV} {S:Nat->Nat->Int} {k i j:Nat} {s:Nat->Int} {g:Nat->Nat->AV} (hi:i<k+1) (hj:j<32) (hs:∀ j,j<32->s j=S k j) (hA:A=catG k (sealG S) g i j) (hg:∀ j,j<32->g 0 j= .int .u8 (s j)):RV nv σ A (sealG S i j):=by
  refine RV.of (hA.trans ?_) flat_sealG
  by_cases h:i<k
  · rw [catG_lt h]
  · have h:i=k:=by omega
    subst h
    rw [catG_ge (Nat.le_refl _),Nat.sub_self,hg j hj,hs j hj];rfl
end Go.Proofs.YtfolpdmbpbbimaaGreat
end

section
namespace Go.Proofs.YtfolpdmbpbbimaaGreat
open Go Go.Wit
theorem rv_act {nv:Bool} {σ:Nat->Option Nat} {k:Int} {i:Bool} {x y:Nat} {s:ByteArray} {sl co sl' co':AV} {ag:Int} {c r:Nat} (h1:RV nv σ sl sl') (h2:RV nv σ co co'):
    RV nv σ (actA k i x y s sl co ag c r) (actA k i x y s sl' co' ag c r):=by
  refine .agg _ _ ?_
  unfold actL
  refine .cons _ _ _ _ (.eq _ _ rfl (.int _ _)) (.cons _ _ _ _ (.eq _ _ rfl (.bool _)) ?_)
  iterate 8 refine .cons _ _ _ _ (.eq _ _ rfl (.int _ _)) ?_
  refine .cons _ _ _ _ (.eq _ _ rfl (.str _)) (.cons _ _ _ _ h1 (.cons _ _ _ _ h2 (.cons _ _ _ _ (.eq _ _ rfl (.int _ _)) ?_)))
  iterate 8 refine .cons _ _ _ _ (.eq _ _ rfl (.int _ _)) ?_
  exact .nil
theorem lift_act {P:Program} {fn:FuncId} {args args0:List AV} {m:Mem} {K:AV->Mem->Prop} {k:Int} {i:Bool} {x y:Nat} {s:ByteArray} {ag:Int} {c r:Nat} {n1 n2:Nat} {G1 G2:Nat->Nat->AV} {e:Int}
    (h:ACall P fn args0 [] (fun v m'=>∃ sl co,v= .tup [actA k i x y s sl co ag c r,.int .i64 e] /\ RetG 32 n1 G1 sl m'/\RetG 9 n2 G2 co m'))
    (hf1:∀ i j,i<n1->j<32->Flat true (G1 i j)) (hf2:∀ i j,i<n2->j<9->Flat true (G2 i j)) (ha:Lends (fun _=>none) (List.range m.length) m args args0)
    (hK:∀ c1 c2,K (.tup [actA k i x y s (.sl m.length 0 n1 c1) (.sl (m.length+1) 0 n2 c2) ag c r,.int .i64 e]) (m++ [some ⟨32,n1,G1⟩,some ⟨9,n2,G2⟩])):ACall P fn args m K:=by
  refine h.frame0 true (List.range m.length) (fun h=>by cases h) ha (fun v m' hv=> ?_)
  obtain⟨sl,co,rfl,h1,h2⟩:=hv
  obtain⟨c1,q1,r1,b1,d1⟩ :∃ c1 q1,RV true (shiftT m.length [q1,none]) sl (.sl m.length 0 n1 c1)/\(∀ q2,RV true (shiftT m.length [q1,q2]) sl (.sl m.length 0 n1 c1))/\((q1=none/\n1=0)\/∃ l N g,q1=some l/\m'[l]? = some (some ⟨32,N,g⟩)/\n1<=N/\∀ i j,i<n1->j<32->g i j=G1 i j):=by
    rcases h1 with⟨rfl,rfl⟩ | ⟨l,cap,N,g,rfl,g1,g2,g3⟩
    · exact⟨0,none,.nils _ _,fun _=> .nils _ _,.inl ⟨rfl,rfl⟩⟩
    · exact⟨cap,some l,.sl _ _ _ _ _ (by simp [shiftT]),fun _=> .sl _ _ _ _ _ (by simp [shiftT]),.inr ⟨l,N,g,rfl,g1,g2,g3⟩⟩
  obtain⟨c2,q2,r2,d2⟩ :∃ c2 q2,RV true (shiftT m.length [q1,q2]) co (.sl (m.length+1) 0 n2 c2)/\((q2=none/\n2=0)\/∃ l N g,q2=some l/\m'[l]? = some (some ⟨9,N,g⟩)/\n2<=N/\∀ i j,i<n2->j<9->g i j=G2 i j):=by
    rcases h2 with⟨rfl,rfl⟩ | ⟨l,cap,N,g,rfl,g1,g2,g3⟩
    · exact⟨0,none,.nils _ _,.inl ⟨rfl,rfl⟩⟩
    · exact⟨cap,some l,.sl _ _ _ _ _ (by simp [shiftT]),.inr ⟨l,N,g,rfl,g1,g2,g3⟩⟩
  refine⟨.tup [actA k i x y s (.sl m.length 0 n1 c1) (.sl (m.length+1) 0 n2 c2) ag c r,.int .i64 e],[some ⟨32,n1,G1⟩,some ⟨9,n2,G2⟩],[q1,q2],Nat.le_refl _,fun i j q hi hj=> ?_,.tup _ _ (.cons _ _ _ _ (rv_act (b1 q2) r2) (.cons _ _ _ _ (.eq _ _ rfl (.int _ _)) .nil)),⟨?_,?_,trivial⟩,hK c1 c2⟩
  · have key:q1=some q->q2=some q->False:=fun e1 e2=>by
      rcases d1 with⟨rfl,_⟩ | ⟨l,N,g,rfl,g1,_⟩
      · cases e1
      rcases d2 with⟨rfl,_⟩ | ⟨l',N',g',rfl,g1',_⟩
      · cases e2
      obtain rfl:=Option.some.inj e1
      obtain rfl:=Option.some.inj e2
      rw [g1]at g1'
      have:=congrArg (fun o:Option (Option Blk)=>match o with | some (some b)=>b.es | _=>0) g1'
      simp at this
    match i,j,hi,hj with
    | 0,0,_,_=>rfl
    | 1,1,_,_=>rfl
    | 0,1,hi,hj=>exact absurd (key (by simpa using hi) (by simpa using hj)) id
    | 1,0,hi,hj=>exact absurd (key (by simpa using hj) (by simpa using hi)) id
    | i+2,_,hi,_=>simp at hi
    | _,j+2,_,hj=>simp at hj
  · rcases d1 with⟨rfl,rfl⟩ | ⟨l,N,g,rfl,g1,g2,g3⟩
    · exact .ph _ _ _ (by simp [shiftT])
    · exact .old _ l _ _ (by simp [shiftT]) g1 ⟨rfl,g2,fun i j hi hj=> .eq _ _ (g3 i j hi hj) (by rw [show (Blk.mk 32 N g).get i j=g i j from rfl,g3 i j hi hj];exact hf1 i j hi hj)⟩
  · rcases d2 with⟨rfl,rfl⟩ | ⟨l,N,g,rfl,g1,g2,g3⟩
    · exact .ph _ _ _ (by simp [shiftT])
    · exact .old _ l _ _ (by simp [shiftT]) g1 ⟨rfl,g2,fun i j hi hj=> .eq _ _ (g3 i j hi hj) (by rw [show (Blk.mk 9 N g).get i j=g i j from rfl,g3 i j hi hj];exact hf2 i j hi hj)⟩
end Go.Proofs.YtfolpdmbpbbimaaGreat
end

section
namespace Go.Proofs.YtfolpdmbpbbimaaGreat
open Go Go.Wit
theorem S_be40 (i:Nat) (hi:i<4294967296):ACall Pg F_witanref21_be4 [.int .i64 i] [] (fun v m'=>∃ n' f',(n'=4/\f'=beF (i:Nat) 4)/\RetB n' f' v m'):=by
  refine B_witanref21_be4 ⟨rfl,?_⟩
  conv=>whnf
  repeat (refine⟨⟨_,rfl⟩,?_⟩;conv=>whnf)
  refine⟨4,_,⟨rfl,rfl⟩,.inr ⟨0,_,4,_,rfl,rfl,Nat.le_refl _,fun j hj=> ?_⟩⟩
  rcases(show j=0\/j=1\/j=2\/j=3 by omega)with rfl | rfl | rfl | rfl
  · exact congrArg (AV.int .u8) (wu8 (i:Nat) (k:=0) (s:=4) (i:=0) (by omega) rfl)
  · exact congrArg (AV.int .u8) (wu8 (i:Nat) (k:=0) (s:=4) (i:=1) (by omega) rfl)
  · exact congrArg (AV.int .u8) (wu8 (i:Nat) (k:=0) (s:=4) (i:=2) (by omega) rfl)
  · refine congrArg (AV.int .u8) (Eq.trans ?_ (wu8 (i:Nat) (k:=0) (s:=4) (i:=3) (e:=0) (by omega) rfl))
    rw [show ((2:Int) ^ 0)=1 from rfl,Int.fdiv_one]
theorem S_be4 {m:Mem} {K:AV->Mem->Prop} {i:Nat} (hi:i<4294967296) (hK:∀ cap,memK (m++ [some ⟨1,4,bytesG (beF (i:Nat) 4)⟩]) (K (.sl m.length 0 4 cap))):ACall Pg F_witanref21_be4 [.int .i64 i] m K:=by
  simp only [memK_eq]at hK
  refine lift_bytes (S_be40 i hi) (.cons _ _ _ _ lend_int .nil) ?_
  rintro n' f' cap ⟨rfl,rfl⟩
  exact hK cap
theorem S_RSecret0 (n cap:Nat) (f:Nat->Int) (hn:n<=16384) (hf:∀ i,i<n->0<=f i/\f i<=255):ACall Pg F_witanref21_Secret [.vsl 1 n cap (bytesG f)] [] (fun v _=>v=numA (secN n f)/\Flat true v):=by
  refine B_witanref21_Secret ⟨rfl,?_⟩
  conv=>whnf
  repeat (refine⟨⟨_,rfl⟩,?_⟩;conv=>whnf)
  refine S_RScalar (s:=seB) (r:=1) (N:=fun _=>n) (F:=fun _=>f) (ShowsB.sl rfl (Nat.le_of_eq (Nat.zero_add _)) fun j hj=> ?_) (by decide) (by decide) (fun j hj=>by omega) (fun j hj k hk=>hf k hk) (fun _ a ha ha1=> ?_) (fun h2=> ?_)
  · obtain rfl:j=0:=by omega
    exact Shows.vsl
  · conv=>whnf
    repeat (refine⟨⟨_,rfl⟩,?_⟩;conv=>whnf)
    refine S_rone (Nat.lt_trans ha1 (by decide)) ?_
    obtain rfl:=ha
    conv=>whnf
    repeat (refine⟨⟨_,rfl⟩,?_⟩;conv=>whnf)
    exact⟨rfl,flat_numA⟩
  · exfalso;rw [nT1]at h2;change 65536<4+6+(4+n)at h2;omega
theorem S_RSecret {m:Mem} {x:AV} {K:AV->Mem->Prop} {n:Nat} {f:Nat->Int} (hx:Shows m x n f) (hn:n<=16384) (hf:∀ i,i<n->0<=f i/\f i<=255) (h:∀ s,s=secN n f->s<nN->s ≠ 0->K (numA s) m):ACall Pg F_witanref21_Secret [x] m K:=by
  obtain⟨cap,hl⟩:=hx
  refine lift_flat (S_RSecret0 n cap f hn hf) (.cons _ _ _ _ hl .nil) ?_
  rintro v rfl
  exact h _ rfl secN_lt secN_ne
theorem S_roneV {m:Mem} {K:AV->Mem->Prop} {a:Nat} (ha:a<w256) (h:∀ b,b=someN a->K (numA b) m):ACall Pg F_witanref21_one [numA a] m K:=S_rone ha (h _ rfl)
theorem S_RPoly0 (n cap t:Nat) (f:Nat->Int) (hn:n<=16384) (ht:t<64) (hf:∀ i,i<n->0<=f i/\f i<=255):ACall Pg F_witanref21_Poly [.vsl 1 n cap (bytesG f),.int .i64 t] []
    (fun v m'=>∃ n' G,(n'=t+1/\G=numsG (coN n f))/\RetG 4 n' G v m'):=by
  obtain⟨c,hc⟩ :∃ c:Nat->Nat,c=coN n f:=⟨_,rfl⟩
  rw [<- hc]
  refine B_witanref21_Poly ⟨rfl,?_⟩
  conv=>whnf
  repeat (refine⟨⟨_,rfl⟩,?_⟩;conv=>whnf)
  refine loop_wk mixed (I:=fun q l m=>∃ (k c':Nat),l= [(0,.vsl 1 n cap (bytesG f)),(1,.int .i64 t),(5,.sl 0 0 k c'),(6,.int .i64 k)] /\ m= [some ⟨4,k,numsG c⟩] /\ q+k=t+1) (t+1)
    (l0:= [(0,.vsl 1 n cap (bytesG f)),(1,.int .i64 t),(5,.sl 0 0 0 0),(6,.int .i64 (0:Nat))]) (m0:= [some ⟨4,0,numsG c⟩]) [none] ⟨0,0,rfl,rfl,by omega⟩ ?_ ?_
  · exact .mk0 ⟨.eq _ _ rfl flat_bytesV,Flat.i rfl,.nils _ _,Flat.i rfl,trivial⟩ ⟨.ph _ _ _ rfl,trivial⟩ rfl rfl
  · rintro q l m ⟨k,c',rfl,rfl,hq⟩
    conv=>whnf
    repeat (refine⟨⟨_,rfl⟩,?_⟩;conv=>whnf)
    refine condB_mk (fun hb=> ?_) (fun hb=> ?_)
    · have hb:k<t+1:=by simp at hb;omega
      have e5:IntKind.i64.wrap ((k:Int)+1)=((k+1:Nat):Int):=by rw [w64 (by omega) (by omega)];omega
      conv=>whnf
      repeat (refine⟨⟨_,rfl⟩,?_⟩;conv=>whnf)
      refine S_be4 (i:=k) (by omega) (fun c2=> ?_)
      conv=>whnf
      repeat (refine⟨⟨_,rfl⟩,?_⟩;conv=>whnf)
      refine S_RScalar (s:=plB) (r:=2) (N:=pr2 n 4) (F:=pr2 f (beF (k:Nat) 4)) (ShowsB.sl rfl (Nat.le_of_eq (Nat.zero_add _)) fun j hj=> ?_) (by decide) (by decide) (fun j hj=> ?_) (fun j hj k hk=> ?_) (fun _ a ha ha1=> ?_) (fun h=> ?_)
      · rcases(show j=0\/j=1 by omega)with rfl | rfl
        · exact Shows.vsl
        · exact Shows.slG rfl (Nat.le_of_eq (Nat.zero_add _)) (fun j hj=>by rw [Nat.zero_add];rfl)
      · rcases(show j=0\/j=1 by omega)with rfl | rfl
        · show n<=1000000;omega
        · show 4<=1000000;omega
      · rcases(show j=0\/j=1 by omega)with rfl | rfl
        · exact hf k hk
        · exact beF_lt
      rotate_left
      · exfalso
        have hsz:ByteArray.size plB<=10:=by decide
        rw [nT2]at h
        omega
      conv=>whnf
      repeat (refine⟨⟨_,rfl⟩,?_⟩;conv=>whnf)
      refine condB_mk (fun h0=> ?_) (fun h0=> ?_)
      · have h0:k=0:=by simp at h0;omega
        conv=>whnf
        repeat (refine⟨⟨_,rfl⟩,?_⟩;conv=>whnf)
        refine S_roneV (a:=a) (Nat.lt_trans ha1 (by decide)) (fun b hb'=> ?_)
        have hco:b=c k:=by rw [hb',hc,ha,h0];unfold coN;rw [if_pos rfl];rfl
        conv=>whnf
        repeat (refine⟨⟨_,rfl⟩,?_⟩;conv=>whnf)
        refine condB_ok (app_ok (by first | rfl | simp) rfl rfl (by omega) (by omega)) (fun cap' hcap=> ?_)
        conv=>whnf
        repeat (refine⟨⟨_,rfl⟩,?_⟩;conv=>whnf)
        refine⟨q - 1,[(0,.vsl 1 n cap (bytesG f)),(1,.int .i64 t),(5,.sl 0 0 (k+1) cap'),(6,.int .i64 ((k+1:Nat):Int))],[some ⟨4,k+1,numsG c⟩],[some 5],by omega,⟨k+1,cap',rfl,rfl,by omega⟩,?_⟩
        refine .mk0 ⟨.eq _ _ rfl flat_bytesV,Flat.i rfl,.sl _ _ _ _ _ rfl,Flat.i e5,trivial⟩ ⟨.old 0 5 _ _ rfl rfl ⟨rfl,Nat.le_refl _,fun i j hi hj=> ?_⟩,trivial⟩ rfl rfl
        dsimp only at hi hj ⊢
        refine num_row hi hj hco rfl (fun j hj=> ?_)
        rcases(show j=0\/j=1\/j=2\/j=3 by omega)with rfl | rfl | rfl | rfl <;> rfl
      · have h0:¬ k=0:=by simp at h0;omega
        have hco:a=c k:=by rw [hc,ha];unfold coN;rw [if_neg h0];rfl
        conv=>whnf
        repeat (refine⟨⟨_,rfl⟩,?_⟩;conv=>whnf)
        refine condB_ok (app_ok (by first | rfl | simp) rfl rfl (by omega) (by omega)) (fun cap' hcap=> ?_)
        conv=>whnf
        repeat (refine⟨⟨_,rfl⟩,?_⟩;conv=>whnf)
        refine⟨q - 1,[(0,.vsl 1 n cap (bytesG f)),(1,.int .i64 t),(5,.sl 0 0 (k+1) cap'),(6,.int .i64 ((k+1:Nat):Int))],[some ⟨4,k+1,numsG c⟩],[some 5],by omega,⟨k+1,cap',rfl,rfl,by omega⟩,?_⟩
        refine .mk0 ⟨.eq _ _ rfl flat_bytesV,Flat.i rfl,.sl _ _ _ _ _ rfl,Flat.i e5,trivial⟩ ⟨.old 0 5 _ _ rfl rfl ⟨rfl,Nat.le_refl _,fun i j hi hj=> ?_⟩,trivial⟩ rfl rfl
        dsimp only at hi hj ⊢
        refine num_row hi hj hco rfl (fun j hj=> ?_)
        rcases(show j=0\/j=1\/j=2\/j=3 by omega)with rfl | rfl | rfl | rfl <;> rfl
    · have hb:k=t+1:=by simp at hb;omega
      subst hb
      conv=>whnf
      repeat (refine⟨⟨_,rfl⟩,?_⟩;conv=>whnf)
      exact⟨t+1,numsG c,⟨rfl,rfl⟩,.inr ⟨0,c',t+1,_,rfl,rfl,Nat.le_refl _,fun _ _ _ _=>rfl⟩⟩
theorem S_RPoly {m:Mem} {x:AV} {K:AV->Mem->Prop} {n t:Nat} {f:Nat->Int} (hx:Shows m x n f) (hn:n<=16384) (ht:t<64) (hf:∀ i,i<n->0<=f i/\f i<=255)
    (h:∀ c cap,c=coN n f->(∀ i,c i<nN)->c 0 ≠ 0->memK (m++ [some ⟨4,t+1,numsG c⟩]) (K (.sl m.length 0 (t+1) cap))):ACall Pg F_witanref21_Poly [x,.int .i64 t] m K:=by
  simp only [memK_eq]at h
  obtain⟨cap,hl⟩:=hx
  refine lift_G (S_RPoly0 n cap t f hn ht hf) (fun n' G hR i j _ _=>by rw [hR.2];exact flat_numsG) (.cons _ _ _ _ hl (.cons _ _ _ _ lend_int .nil)) ?_
  rintro n' G cap' ⟨rfl,rfl⟩
  exact h _ cap' rfl (fun i=>coN_lt) coN_ne
theorem T_rTimesE {m:Mem} {K:AV->Mem->Prop} {v w:AV} {n:Nat} {P:Pt Fp} (hv:v=numA n) (hw:w=ptA P) (hn:n<w256) (oP:On P) (h:∀ Q,On Q->Q=nmul n P->K (ptA Q) m):ACall Pg F_witanref01_Times [v,w] m K:=by
  subst hv hw;exact T_rTimes2 hn oP h
theorem S_RProveE {m:Mem} {K:AV->Mem->Prop} {v w u:AV} {s k:Nat} {b:Pt Fp} (hv:v=numA s) (hw:w=numA k) (hu:u=ptA b) (hs:s<w256) (hk:k<w256) (ob:On b) (h:∀ c r,c=prfC s k b->r=prfR s k c->c<nN->r<nN->K (prA c r) m):ACall Pg F_witanref06_Prove [v,w,u] m K:=by
  subst hv hw hu;exact S_RProve hs hk ob h
end Go.Proofs.YtfolpdmbpbbimaaGreat
end

section
namespace Go.Proofs.YtfolpdmbpbbimaaGreat
open Go Go.Wit
theorem T_rBase {m:Mem} {K:AV->Mem->Prop} {n:Nat} (hn:n<w256) (h:∀ P,On P->P=nmul n gG->K (ptA P) m):ACall Pg F_witanref01_Base [numA n] m K:=
  S_rBase hn (h _ (on_G.nmul crvP n) rfl)
theorem S_RCommit0 (n cap:Nat) (c:Nat->Nat) (hc:∀ i,i<n->c i<w256) (hn:n<=1000000):ACall Pg F_witanref06_Commit [.vsl 4 n cap (numsG c)] [] (fun v m'=>∃ n' G,(n'=n/\G=ptsG (fun i=>nmul (c i) gG))/\RetG 9 n' G v m'):=by
  obtain⟨P,hP⟩ :∃ P:Nat->Pt Fp,P=fun i=>nmul (c i) gG:=⟨_,rfl⟩
  rw [<- hP]
  refine B_witanref06_Commit ⟨rfl,?_⟩
  conv=>whnf
  repeat (refine⟨⟨[],rfl⟩,?_⟩;conv=>whnf)
  refine loop_wk mixed (I:=fun q l m=>∃ (k c':Nat),l= [(0,.vsl 4 n cap (numsG c)),(4,.int .i64 k),(3,.sl 0 0 k c')] /\ m= [some ⟨9,k,ptsG P⟩] /\ q+k=n) n
    (l0:= [(0,.vsl 4 n cap (numsG c)),(4,.int .i64 (0:Nat)),(3,.sl 0 0 0 0)]) (m0:= [some ⟨9,0,ptsG P⟩]) [none] ⟨0,0,rfl,rfl,rfl⟩ ?_ ?_
  · refine .mk0 ⟨.eq _ _ rfl (.vsl _ _ _ _ rfl (fun _ _ _ _=>flat_numsG)),Flat.i rfl,.nils _ _,trivial⟩ ⟨.ph _ _ _ rfl,trivial⟩ rfl rfl
  · rintro q l m ⟨k,c',rfl,rfl,hq⟩
    conv=>whnf
    repeat (refine⟨⟨[],rfl⟩,?_⟩;conv=>whnf)
    refine condB_mk (fun hb=> ?_) (fun hb=> ?_)
    · have hb:k<n:=by simp at hb;omega
      conv=>whnf
      repeat (refine⟨⟨[],rfl⟩,?_⟩;conv=>whnf)
      refine condB_ok (by simp;omega) ?_
      conv=>whnf
      repeat (refine⟨⟨[],rfl⟩,?_⟩;conv=>whnf)
      refine T_rBase (n:=c k) (hc k hb) (fun Q oQ hQ=> ?_)
      conv=>whnf
      repeat (refine⟨⟨[],rfl⟩,?_⟩;conv=>whnf)
      refine condB_ok (app_ok (decide_eq_true (Nat.le_refl _)) rfl rfl (by omega) (by omega)) (fun cap' hcap=> ?_)
      conv=>whnf
      repeat (refine⟨⟨[],rfl⟩,?_⟩;conv=>whnf)
      have e5:IntKind.i64.wrap ((k:Int)+1)=((k+1:Nat):Int):=by rw [w64 (by omega) (by omega)];omega
      refine⟨q - 1,[(0,.vsl 4 n cap (numsG c)),(4,.int .i64 ((k+1:Nat):Int)),(3,.sl 0 0 (k+1) cap')],[some ⟨9,k+1,ptsG P⟩],[some 2],by omega,⟨k+1,cap',rfl,rfl,by omega⟩,?_⟩
      refine .mk0 ⟨.eq _ _ rfl (.vsl _ _ _ _ rfl (fun _ _ _ _=>flat_numsG)),Flat.i e5,.sl _ _ _ _ _ rfl,trivial⟩ ⟨.old 0 2 _ _ rfl rfl ⟨rfl,Nat.le_refl _,fun i j hi hj=> ?_⟩,trivial⟩ rfl rfl
      have hPk:P k=Q:=by rw [hP,hQ]
      have hi:i<k+1:=hi
      have hj:j<9:=hj
      have e:=cat_pts (P:=P) (k:=k) (g:=fun i j=>(rawL (isI Q) (xN Q) (yN Q)).getD (i*9+j) .un) hi (fun h j=>by subst h;rw [Nat.sub_self,Nat.zero_mul,Nat.zero_add,<- hPk];rfl) j
      refine .eq _ _ ?_ ?_
      · refine Eq.trans ?_ e
        dsimp only
        by_cases hik:i<k
        · rw [catG_lt hik,catG_lt hik]
        · rw [catG_ge (by omega),catG_ge (by omega),Nat.zero_add]
          rfl
      · have:Flat false (ptsG P i j):=flat_ptsG
        rw [<- e]at this
        dsimp only
        by_cases hik:i<k
        · rw [catG_lt hik];exact flat_ptsG
        · rw [catG_ge (by omega)]at this ⊢
          rw [Nat.zero_add]
          exact this
    · have hb:k=n:=by simp at hb;omega
      subst hb
      conv=>whnf
      repeat (refine⟨⟨[],rfl⟩,?_⟩;conv=>whnf)
      exact⟨k,ptsG P,⟨rfl,rfl⟩,.inr ⟨0,c',k,_,rfl,rfl,Nat.le_refl _,fun _ _ _ _=>rfl⟩⟩
theorem S_RCommit {m:Mem} {x:AV} {K:AV->Mem->Prop} {n:Nat} {c:Nat->Nat} (hx:ShowsG m x 4 n (numsG c)) (hc:∀ i,i<n->c i<w256) (hn:n<=1000000)
    (h1:∀ P cap,P=(fun i=>nmul (c i) gG)->memK (m++ [some ⟨9,n,ptsG P⟩]) (K (.sl m.length 0 n cap))):ACall Pg F_witanref06_Commit [x] m K:=by
  simp only [memK_eq]at h1
  obtain⟨cap,hl⟩:=hx
  refine lift_G (S_RCommit0 n cap c hc hn) (fun n G hR i j _ _=>by rw [hR.2];exact flat_ptsG) (.cons _ _ _ _ hl .nil) ?_
  rintro n' G cap' ⟨rfl,rfl⟩
  exact h1 _ cap' rfl
theorem S_TwinPoints0 (n cap:Nat) (I:Nat->Bool) (X Y:Nat->Nat) (hn:n<=1000000):ACall Pg F_witankeep_TwinPoints [.vsl 9 n cap (rawsG I X Y)] [] (fun v m'=>∃ n' G,(n'=n/\G=rawsG I X Y)/\RetG 9 n' G v m'):=by
  refine B_witankeep_TwinPoints ⟨rfl,?_⟩
  conv=>whnf
  repeat (refine⟨⟨[],rfl⟩,?_⟩;conv=>whnf)
  refine condB_ok (app_ok rfl rfl rfl (by omega) (by omega)) (fun cap' hcap=> ?_)
  conv=>whnf
  repeat (refine⟨⟨[],rfl⟩,?_⟩;conv=>whnf)
  refine⟨n,rawsG I X Y,⟨rfl,rfl⟩,.inr ⟨0,cap',_,_,by first | rfl | (rw [Nat.zero_add];rfl) | rw [Nat.zero_add],rfl,by omega,fun i j hi hj=> ?_⟩⟩
  rw [catG_ge (by omega)];rfl
theorem S_TwinPoints {m:Mem} {x:AV} {K:AV->Mem->Prop} {n:Nat} {I:Nat->Bool} {X Y:Nat->Nat} (hx:ShowsG m x 9 n (rawsG I X Y)) (hn:n<=1000000) (hK:∀ cap,memK (m++ [some ⟨9,n,rawsG I X Y⟩]) (K (.sl m.length 0 n cap))):ACall Pg F_witankeep_TwinPoints [x] m K:=by
  simp only [memK_eq]at hK
  obtain⟨cap,hl⟩:=hx
  refine lift_G (S_TwinPoints0 n cap I X Y hn) (fun n G hR i j _ _=>by rw [hR.2];exact flat_rawsG) (.cons _ _ _ _ hl .nil) ?_
  rintro n' G cap' ⟨rfl,rfl⟩
  exact hK cap'
end Go.Proofs.YtfolpdmbpbbimaaGreat
end

section
namespace Go.Proofs.YtfolpdmbpbbimaaGreat
open Go Go.Wit
theorem ShowsG.own {m:Mem} {l es n cap N:Nat} {G:Nat->Nat->AV} (h:m[l]? = some (some ⟨es,N,G⟩)) (hn:n<=N) (hf:∀ i j,Flat false (G i j)):ShowsG m (.sl l 0 n cap) es n G:=
  ShowsG.sl h (by omega) fun i j _ _=>⟨by rw [Nat.zero_add],hf i j⟩
end Go.Proofs.YtfolpdmbpbbimaaGreat
end

section
namespace Go.Proofs.YtfolpdmbpbbimaaGreat
open Go Go.Wit
def rowsG (N C:Nat->Nat) (I:Nat->Nat->Bool) (X Y:Nat->Nat->Nat):Nat->Nat->AV:=fun k _=> .vsl 9 (N k) (C k) (rawsG (I k) (X k) (Y k))
theorem ShowsG.raws {m:Mem} {n cap:Nat} {I:Nat->Bool} {X Y:Nat->Nat} {P:Nat->Pt Fp} (h:∀ i,i<n->rawL (I i) (X i) (Y i)=rawL (isI (P i)) (xN (P i)) (yN (P i))):ShowsG m (.vsl 9 n cap (rawsG I X Y)) 9 n (ptsG P):=
  ⟨cap,.vsl _ _ _ _ _ fun i j hi hj=>⟨by unfold ptsG rawsG;rw [h i hi],flat_ptsG⟩⟩
def ShowsR (m:Mem) (x:AV) (r:Nat) (N:Nat->Nat) (I:Nat->Nat->Bool) (X Y:Nat->Nat->Nat):Prop:= ∃ cap C,Lend (fun _=>none) (List.range m.length) m x (.vsl 1 r cap (rowsG N C I X Y))
theorem ShowsR.nils {m:Mem} {N:Nat->Nat} {I:Nat->Nat->Bool} {X Y:Nat->Nat->Nat}:ShowsR m .nils 0 N I X Y:=⟨0,fun _=>0,.nils _ _⟩
theorem ShowsR.sl {m:Mem} {l off r cap M:Nat} {N:Nat->Nat} {I:Nat->Nat->Bool} {X Y:Nat->Nat->Nat} {g:Nat->Nat->AV} (h:m[l]? = some (some ⟨1,M,g⟩)) (hn:off+r<=M) (hG:∀ i,i<r->ShowsG m (g (off+i) 0) 9 (N i) (rawsG (I i) (X i) (Y i))):ShowsR m (.sl l off r cap) r N I X Y:=by
  have hC:∃ C:Nat->Nat,∀ i,i<r->Lend (fun _=>none) (List.range m.length) m (g (off+i) 0) (.vsl 9 (N i) (C i) (rawsG (I i) (X i) (Y i))):=by
    refine⟨fun i=>if h:i<r then Classical.choose (hG i h)else 0,fun i hi=> ?_⟩
    dsimp only
    rw [dif_pos hi]
    exact Classical.choose_spec (hG i hi)
  obtain⟨C,hC⟩:=hC
  refine⟨cap,C,.slR l off r cap ⟨1,M,g⟩ _ (List.mem_range.2 (lt_of_get h)) h hn fun i j hi hj=> ?_⟩
  have hj:j<1:=hj
  obtain rfl:j=0:=by omega
  exact hC i hi
end Go.Proofs.YtfolpdmbpbbimaaGreat
end

section
namespace Go.Proofs.YtfolpdmbpbbimaaGreat
open Go Go.Wit
def plOk (i j:Int):Bool:=isD i && (isD j && !(i == j))
def plN (i j:Int):Int:=if j<i then j - 1 else j - 2
theorem plOk_spec {i j:Int} (h:plOk i j=true):1<=i/\i<=8/\1<=j/\j<=8/\i ≠ j/\0<=plN i j/\plN i j<=6:=by
  simp only [plOk,isD,Bool.and_eq_true,decide_eq_true_eq,Bool.not_eq_true',beq_eq_false_iff_ne,ne_eq]at h
  unfold plN
  split <;> omega
theorem S_jdealer {m:Mem} {K:AV->Mem->Prop} {i:Int} (h:K (.bool (isD i)) m):ACall Pg F_judge_dealer [.int .i64 i] m K:=by
  have h0:ACall Pg F_judge_dealer [.int .i64 i] [] (fun v _=>v= .bool (isD i)/\Flat true v):=by
    refine B_judge_dealer ⟨rfl,?_⟩
    conv=>whnf
    repeat (refine⟨⟨_,rfl⟩,?_⟩;conv=>whnf)
    refine condB_mk (fun h=> ?_) (fun h=> ?_)
    · conv=>whnf
      repeat (refine⟨⟨_,rfl⟩,?_⟩;conv=>whnf)
      have e:decide (1<=i)=true:=by simpa using h
      exact⟨by unfold isD;rw [e];rfl,.bool _⟩
    · conv=>whnf
      repeat (refine⟨⟨_,rfl⟩,?_⟩;conv=>whnf)
      have e:decide (1<=i)=false:=by simpa using h
      exact⟨by unfold isD;rw [e];rfl,.bool _⟩
  refine lift_flat h0 (.cons _ _ _ _ lend_int .nil) ?_
  rintro v rfl
  exact h
theorem S_Place0 (i j:Int):ACall Pg F_judge_Place [.int .i64 i,.int .i64 j] [] (fun v _=>((plOk i j=true/\v= .tup [.int .i64 (plN i j),.int .i64 0])\/(plOk i j=false/\v= .tup [.int .i64 0,.int .i64 1]))/\Flat true v):=by
  refine B_judge_Place ⟨rfl,?_⟩
  conv=>whnf
  repeat (refine⟨⟨_,rfl⟩,?_⟩;conv=>whnf)
  refine S_jdealer ?_
  cases hi:isD i with
  | false =>
    conv=>whnf
    repeat (refine⟨⟨_,rfl⟩,?_⟩;conv=>whnf)
    exact⟨.inr ⟨by simp [plOk,hi],rfl⟩,flat_ii⟩
  | true =>
    conv=>whnf
    repeat (refine⟨⟨_,rfl⟩,?_⟩;conv=>whnf)
    refine S_jdealer ?_
    cases hj:isD j with
    | false =>
      conv=>whnf
      repeat (refine⟨⟨_,rfl⟩,?_⟩;conv=>whnf)
      exact⟨.inr ⟨by simp [plOk,hi,hj],rfl⟩,flat_ii⟩
    | true =>
      conv=>whnf
      repeat (refine⟨⟨_,rfl⟩,?_⟩;conv=>whnf)
      refine condB_mk (fun h=> ?_) (fun h=> ?_)
      · have h:i=j:=by simpa using h
        conv=>whnf
        repeat (refine⟨⟨_,rfl⟩,?_⟩;conv=>whnf)
        exact⟨.inr ⟨by simp [plOk,h],rfl⟩,flat_ii⟩
      · have h:¬ i=j:=by simpa using h
        have hok:plOk i j=true:=by simp [plOk,hi,hj,h]
        have hb:=plOk_spec hok
        conv=>whnf
        repeat (refine⟨⟨_,rfl⟩,?_⟩;conv=>whnf)
        refine condB_mk (fun h2=> ?_) (fun h2=> ?_)
        · have h2:=of_decide_eq_true h2
          conv=>whnf
          repeat (refine⟨⟨_,rfl⟩,?_⟩;conv=>whnf)
          refine⟨.inl ⟨hok,?_⟩,flat_ii⟩
          rw [w64 (by omega) (by omega)]
          unfold plN;rw [if_pos h2]
        · have h2:=of_decide_eq_false h2
          conv=>whnf
          repeat (refine⟨⟨_,rfl⟩,?_⟩;conv=>whnf)
          refine⟨.inl ⟨hok,?_⟩,flat_ii⟩
          rw [w64 (by omega) (by omega)]
          unfold plN;rw [if_neg h2]
theorem S_Place {m:Mem} {K:AV->Mem->Prop} {i j:Int} (h1:plOk i j=true->∀ p,p=plN i j->K (.tup [.int .i64 p,.int .i64 0]) m) (h2:plOk i j=false->K (.tup [.int .i64 0,.int .i64 1]) m):ACall Pg F_judge_Place [.int .i64 i,.int .i64 j] m K:=by
  refine lift_flat (S_Place0 i j) (.cons _ _ _ _ lend_int (.cons _ _ _ _ lend_int .nil)) ?_
  rintro v (⟨h,rfl⟩ | ⟨h,rfl⟩)
  · exact h1 h _ rfl
  · exact h2 h
def comP (d:Dl):Prop:= ∀ k,k<d.nc->∃ P,On P/\rawA (d.I k) (d.X k) (d.Y k)=ptA P
def posP (d:Dl) (p:Int):Prop:=d.ps=true/\p<d.ns/\d.nc<=64/\comP d
def OkD (d:Dl):Prop:=d.x<w256/\d.y<w256/\d.u<w256/\d.v<w256/\(∀ k,k<d.nc->d.X k<w256)/\(∀ k,k<d.nc->d.Y k<w256)/\(∀ k,k<d.ns->∀ b,b<32->0<=d.S k b/\d.S k b<=255)/\d.ns<=1000000/\d.nc<=1000000
def dlA (d:Dl) (c1 c2:Nat):AV:= .agg (dlL d (.vsl 32 d.ns c1 (sealG d.S)) (.vsl 9 d.nc c2 (rawsG d.I d.X d.Y)))
theorem flats_of:∀ {nv:Bool} {l:List AV},(∀ j,Flat nv (l.getD j .un))->Flats nv l
  | _,[],_=> .nil
  | nv,a::r,h=> .cons _ _ (by simpa using h 0) (flats_of fun j=>by simpa using h (j+1))
theorem flat_dlA {d:Dl} {c1 c2:Nat}:Flat false (dlA d c1 c2):= .agg _ (flats_of fun j=>flat_dlL flat_seals flat_raws j)
theorem S_posted0 (d:Dl) (c1 c2:Nat) (p:Int) (hX:∀ k,k<d.nc->d.X k<w256) (hY:∀ k,k<d.nc->d.Y k<w256):ACall Pg F_judge_posted [dlA d c1 c2,.int .i64 p] [] (fun v _=>((posP d p/\v= .bool true)\/(¬ posP d p/\v= .bool false))/\Flat true v):=by
  obtain⟨ac,i,x,y,lb,hd,ps,ns,S,nc,I,X,Y,bd,st,j,u,v⟩:=d
  dsimp only at hX hY
  refine B_judge_posted ⟨rfl,?_⟩
  cases ps with
  | false =>
    conv=>whnf
    repeat (refine⟨⟨_,rfl⟩,?_⟩;conv=>whnf)
    exact⟨.inr ⟨fun h=>Bool.noConfusion h.1,rfl⟩,.bool _⟩
  | true =>
    conv=>whnf
    repeat (refine⟨⟨_,rfl⟩,?_⟩;conv=>whnf)
    refine condB_mk (fun h1=> ?_) (fun h1=> ?_)
    rotate_left
    · have h1:p >= (ns:Int):=of_neqf h1
      conv=>whnf
      repeat (refine⟨⟨_,rfl⟩,?_⟩;conv=>whnf)
      exact⟨.inr ⟨fun h=>absurd h.2.1 (by show ¬ p<(ns:Int);omega),rfl⟩,.bool _⟩
    have h1:¬ p >= (ns:Int):=of_eqf h1
    conv=>whnf
    repeat (refine⟨⟨_,rfl⟩,?_⟩;conv=>whnf)
    refine condB_mk (fun h2=> ?_) (fun h2=> ?_)
    · have h2:(nc:Int) > 64:=of_decide_eq_true h2
      conv=>whnf
      repeat (refine⟨⟨_,rfl⟩,?_⟩;conv=>whnf)
      exact⟨.inr ⟨fun h=>absurd h.2.2.1 (by show ¬ nc<=64;omega),rfl⟩,.bool _⟩
    have h2:¬ (nc:Int) > 64:=of_decide_eq_false h2
    conv=>whnf
    repeat (refine⟨⟨_,rfl⟩,?_⟩;conv=>whnf)
    refine loop_wk mixed (I:=fun q l m=>∃ (k:Nat),l= [(24,.vsl 9 nc c2 (rawsG I X Y)),(25,.int .i64 nc),(26,.int .i64 k)] /\ m= [] /\ q+k=nc/\∀ j,j<k->∃ P,On P/\rawA (I j) (X j) (Y j)=ptA P) nc
      (l0:= [(24,.vsl 9 nc c2 (rawsG I X Y)),(25,.int .i64 nc),(26,.int .i64 (0:Nat))]) (m0:= []) [] ⟨0,rfl,rfl,rfl,fun j hj=>by omega⟩ ?_ ?_
    · exact .mk0 ⟨.eq _ _ rfl flat_raws,Flat.i rfl,Flat.i rfl,trivial⟩ trivial rfl rfl
    · rintro q l m ⟨k,rfl,rfl,hq,hA⟩
      conv=>whnf
      repeat (refine⟨⟨_,rfl⟩,?_⟩;conv=>whnf)
      refine condB_mk (fun hb=> ?_) (fun hb=> ?_)
      · have hb:k<nc:=by simp at hb;omega
        conv=>whnf
        repeat (refine⟨⟨_,rfl⟩,?_⟩;conv=>whnf)
        refine condB_ok (by simp;omega) ?_
        conv=>whnf
        repeat (refine⟨⟨_,rfl⟩,?_⟩;conv=>whnf)
        refine S_CheckD (i:=I k) (x:=X k) (y:=Y k) rfl (hX k hb) (hY k hb) (fun P oP eP=> ?_) (fun hbad=> ?_)
        · conv=>whnf
          repeat (refine⟨⟨_,rfl⟩,?_⟩;conv=>whnf)
          have e5:IntKind.i64.wrap ((k:Int)+1)=((k+1:Nat):Int):=by rw [w64 (by omega) (by omega)];omega
          refine⟨q - 1,[(24,.vsl 9 nc c2 (rawsG I X Y)),(25,.int .i64 nc),(26,.int .i64 ((k+1:Nat):Int))],[],[],by omega,⟨k+1,rfl,rfl,by omega,fun j hj=> ?_⟩,?_⟩
          · by_cases h:j=k
            · subst h;exact⟨P,oP,eP⟩
            · exact hA j (by omega)
          · exact .mk0 ⟨.eq _ _ rfl flat_raws,Flat.i rfl,Flat.i e5,trivial⟩ trivial rfl rfl
        · conv=>whnf
          repeat (refine⟨⟨_,rfl⟩,?_⟩;conv=>whnf)
          exact⟨.inr ⟨fun h=>(h.2.2.2 k hb).elim fun P hP=>hbad P hP.1 hP.2,rfl⟩,.bool _⟩
      · have hb:k=nc:=by simp at hb;omega
        subst hb
        conv=>whnf
        repeat (refine⟨⟨_,rfl⟩,?_⟩;conv=>whnf)
        exact⟨.inl ⟨⟨rfl,by show p<(ns:Int);omega,by show k<=64;omega,hA⟩,rfl⟩,.bool _⟩
theorem S_posted {m:Mem} {K:AV->Mem->Prop} {v:AV} {d:Dl} {c1 c2:Nat} {p:Int} (hv:v=dlA d c1 c2) (hd:OkD d) (h1:posP d p->K (.bool true) m) (h2:¬ posP d p->K (.bool false) m):ACall Pg F_judge_posted [v,.int .i64 p] m K:=by
  subst hv
  refine lift_flat (S_posted0 d c1 c2 p hd.2.2.2.2.1 hd.2.2.2.2.2.1) (.cons _ _ _ _ (lend_flat flat_dlA) (.cons _ _ _ _ lend_int .nil)) ?_
  rintro v (⟨h,rfl⟩ | ⟨h,rfl⟩)
  · exact h1 h
  · exact h2 h
end Go.Proofs.YtfolpdmbpbbimaaGreat
end

section
namespace Go.Proofs.YtfolpdmbpbbimaaGreat
open Go Go.Wit
noncomputable def rawP (i:Bool) (x y:Nat):Pt Fp:=by
  classical
  exact if h:∃ P,On P/\rawA i x y=ptA P then h.choose else .inf
theorem rawP_eq {i:Bool} {x y:Nat} {P:Pt Fp} (oP:On P) (h:rawA i x y=ptA P):rawP i x y=P:=by
  classical
  have hh:∃ P,On P/\rawA i x y=ptA P:=⟨P,oP,h⟩
  unfold rawP
  rw [dif_pos hh]
  exact ptA_inj (hh.choose_spec.2.symm.trans h)
noncomputable def cmP (d:Dl):Nat->Pt Fp:=fun k=>rawP (d.I k) (d.X k) (d.Y k)
theorem cmP_on {d:Dl} (h:comP d):∀ k,k<d.nc->On (cmP d k)/\rawA (d.I k) (d.X k) (d.Y k)=ptA (cmP d k):=fun k hk=>by
  obtain⟨P,oP,eP⟩:=h k hk
  unfold cmP
  rw [rawP_eq oP eP]
  exact⟨oP,eP⟩
theorem rawL_of {i:Bool} {x y:Nat} {P:Pt Fp} (h:rawA i x y=ptA P):rawL i x y=rawL (isI P) (xN P) (yN P):=by
  injection h
theorem S_FitsD {m:Mem} {K:AV->Mem->Prop} {v w:AV} {d:Dl} {c x y:Nat} (hv:v= .vsl 9 d.nc c (rawsG d.I d.X d.Y)) (hw:w=numA x) (hd:comP d) (hn:d.nc<=64) (hx:x<w256) (hy:y<w256)
    (h:∀ b:Bool,(b=true ↔ nmul y gG=polyP (cmP d) x d.nc)->K (.tup [.bool b,.int .i64 0]) m):ACall Pg F_feld_Fits [v,w,numA y] m K:=by
  subst hv hw
  refine S_Fits (P:=cmP d) (ShowsG.raws fun i hi=>rawL_of (cmP_on hd i hi).2) hx hy (fun i hi=>(cmP_on hd i hi).1) hn (fun e=>h true (by simp [e])) (fun e=>h false (by simp [e]))
def hasP (r:Nat) (D:Nat->Dl) (i j:Int):Prop:=i<=r/\j<=r/\posP (D (i.toNat - 1)) (plN i j)
noncomputable def fitV (D:Nat->Dl) (i j:Int) (K:Pt Fp):Nat:=ofZ (tnF K i j ((D (i.toNat - 1)).S (plN i j).toNat))
def FitE (r:Nat) (D:Nat->Dl) (i j:Int) (ki:Bool) (kx ky:Nat) (b:Bool) (e:Int):Prop:=
  (plOk i j=false/\b=false/\e=1)\/(plOk i j=true/\¬ hasP r D i j/\b=false/\e=5)\/(plOk i j=true/\hasP r D i j/\Bad ki kx ky/\b=false/\e=3)\/
  (plOk i j=true/\hasP r D i j/\∃ K,On K/\rawA ki kx ky=ptA K/\e=0/\(b=true ↔ fitV D i j K<nN/\nmul (fitV D i j K) gG=polyP (cmP (D (i.toNat - 1))) j.toNat (D (i.toNat - 1)).nc))
theorem FitE.same {r:Nat} {D:Nat->Dl} {i j:Int} {ki:Bool} {kx ky:Nat} {b b':Bool} {e e':Int} (h:FitE r D i j ki kx ky b e) (h':FitE r D i j ki kx ky b' e'):b=b'/\e=e':=by
  rcases h with⟨h1,hb,he⟩ | ⟨h1,h2,hb,he⟩ | ⟨h1,h2,h3,hb,he⟩ | ⟨h1,h2,K,oK,eK,he,h3⟩
  · rcases h' with⟨g1,gb,ge⟩ | ⟨g1,_⟩ | ⟨g1,_⟩ | ⟨g1,_⟩
    · exact⟨hb.trans gb.symm,he.trans ge.symm⟩
    all_goals (rw [h1]at g1;cases g1)
  · rcases h' with⟨g1,_⟩ | ⟨g1,g2,gb,ge⟩ | ⟨g1,g2,_⟩ | ⟨g1,g2,_⟩
    · rw [h1]at g1;cases g1
    · exact⟨hb.trans gb.symm,he.trans ge.symm⟩
    all_goals exact absurd g2 h2
  · rcases h' with⟨g1,_⟩ | ⟨g1,g2,_⟩ | ⟨g1,g2,g3,gb,ge⟩ | ⟨g1,g2,K',oK',eK',_⟩
    · rw [h1]at g1;cases g1
    · exact absurd h2 g2
    · exact⟨hb.trans gb.symm,he.trans ge.symm⟩
    · exact absurd eK' (h3 K' oK')
  · rcases h' with⟨g1,_⟩ | ⟨g1,g2,_⟩ | ⟨g1,g2,g3,gb,ge⟩ | ⟨g1,g2,K',oK',eK',ge,g3⟩
    · rw [h1]at g1;cases g1
    · exact absurd h2 g2
    · exact absurd eK (g3 K oK)
    · obtain rfl:K=K':=ptA_inj (eK.symm.trans eK')
      refine⟨?_,he.trans ge.symm⟩
      rw [Bool.eq_iff_iff,h3,g3]
theorem S_OpenPt {m:Mem} {K:AV->Mem->Prop} {v w:AV} {P:Pt Fp} {a b:Int} {f:Nat->Int} (hv:v=ptA P) (hw:w= .agg (rowL f)) (oP:On P) (ha:isD a=true) (hb:isD b=true) (hf:∀ i,i<32->0<=f i/\f i<=255) (h:∀ n,n=ofZ (tnF P a b f)->n<w256->K (.tup [numA n,.int .i64 0]) m):ACall Pg F_pair_Open [v,.int .i64 a,.int .i64 b,w] m K:=by
  subst hv hw
  refine S_Open (i:=isI P) (x:=xN P) (y:=yN P) (f:=f) (xN_w P) (yN_w P) hf (fun h=>by rw [ha,hb]at h;cases h) (fun _ _ h=>absurd rfl (h P oP)) (fun _ _ P2 n2 oP2 eP2 hn2=> ?_)
  obtain rfl:P=P2:=ptA_inj eP2
  exact h n2 hn2 (by rw [hn2];exact ofZ_lt (fun i _=>xorB_lt _ _))
theorem S_JFits0 (r cap:Nat) (d1 d2:Nat->Nat) (D:Nat->Dl) (i j:Int) (ki:Bool) (kx ky:Nat) (hr:r<=1000000) (hD:∀ k,k<r->OkD (D k)) (hkx:kx<w256) (hky:ky<w256):
    ACall Pg F_judge_Fits [.vsl 26 r cap (dlG D d1 d2),.int .i64 i,.int .i64 j,rawA ki kx ky] [] (fun v _=>(∃ b e,FitE r D i j ki kx ky b e/\v= .tup [.bool b,.int .i64 e])/\Flat true v):=by
  refine B_judge_Fits ⟨rfl,?_⟩
  conv=>whnf
  repeat (refine⟨⟨_,rfl⟩,?_⟩;conv=>whnf)
  refine S_Place (fun hok p hp=> ?_) (fun hok=> ?_)
  rotate_left
  · conv=>whnf
    repeat (refine⟨⟨_,rfl⟩,?_⟩;conv=>whnf)
    exact⟨⟨false,1,.inl ⟨hok,rfl,rfl⟩,rfl⟩,flat_bE⟩
  obtain⟨hi1,hi8,hj1,hj8,hne,hp0,hp6⟩:=plOk_spec hok
  obtain⟨a,rfl⟩ :∃ a:Nat,i=a:=⟨i.toNat,by omega⟩
  obtain⟨c,rfl⟩ :∃ c:Nat,j=c:=⟨j.toNat,by omega⟩
  obtain⟨q,rfl⟩ :∃ q:Nat,p=q:=⟨p.toNat,by omega⟩
  have e1:IntKind.i64.wrap ((a:Int) - 1)=((a - 1:Nat):Int):=by rw [w64 (by omega) (by omega)];omega
  conv=>whnf
  repeat (refine⟨⟨_,rfl⟩,?_⟩;conv=>whnf)
  refine condB_mk (fun h1=> ?_) (fun h1=> ?_)
  rotate_left
  · have h1:=of_neqf h1
    conv=>whnf
    repeat (refine⟨⟨_,rfl⟩,?_⟩;conv=>whnf)
    exact⟨⟨false,5,.inr (.inl ⟨hok,fun h=>absurd h.1 (by omega),rfl,rfl⟩),rfl⟩,flat_bE⟩
  have h1:=of_eqf h1
  conv=>whnf
  repeat (refine⟨⟨_,rfl⟩,?_⟩;conv=>whnf)
  refine condB_mk (fun h2=> ?_) (fun h2=> ?_)
  rotate_left
  · have h2:=of_neqf h2
    conv=>whnf
    repeat (refine⟨⟨_,rfl⟩,?_⟩;conv=>whnf)
    exact⟨⟨false,5,.inr (.inl ⟨hok,fun h=>absurd h.2.1 (by omega),rfl,rfl⟩),rfl⟩,flat_bE⟩
  have h2:=of_eqf h2
  conv=>whnf
  repeat (refine⟨⟨_,rfl⟩,?_⟩;conv=>whnf)
  rw [e1]
  refine condB_ok (by simp;omega) ?_
  conv=>whnf
  repeat (refine⟨⟨_,rfl⟩,?_⟩;conv=>whnf)
  refine S_posted (d:=D (a - 1)) (c1:=d1 (a - 1)) (c2:=d2 (a - 1)) rfl (hD _ (by omega)) (fun h3=> ?_) (fun h3=> ?_)
  rotate_left
  · conv=>whnf
    repeat (refine⟨⟨_,rfl⟩,?_⟩;conv=>whnf)
    exact⟨⟨false,5,.inr (.inl ⟨hok,fun h=>h3 (by have:=h.2.2;rw [<- hp]at this;exact this),rfl,rfl⟩),rfl⟩,flat_bE⟩
  have hhas:hasP r D a c:=⟨by omega,by omega,by rw [<- hp];exact h3⟩
  conv=>whnf
  repeat (refine⟨⟨_,rfl⟩,?_⟩;conv=>whnf)
  refine S_Check (i:=ki) hkx hky (fun K oK eK=> ?_) (fun hbad=> ?_)
  rotate_left
  · conv=>whnf
    repeat (refine⟨⟨_,rfl⟩,?_⟩;conv=>whnf)
    exact⟨⟨false,3,.inr (.inr (.inl ⟨hok,hhas,hbad,rfl,rfl⟩)),rfl⟩,flat_bE⟩
  conv=>whnf
  repeat (refine⟨⟨_,rfl⟩,?_⟩;conv=>whnf)
  rw [e1]
  have hd:=hD (a - 1) (by omega)
  have hqn:q<(D (a - 1)).ns:=by have:=h3.2.1;omega
  refine condB_ok (by simp;omega) ?_
  conv=>whnf
  repeat (refine⟨⟨_,rfl⟩,?_⟩;conv=>whnf)
  refine condB_ok (by simp;omega) ?_
  conv=>whnf
  repeat (refine⟨⟨_,rfl⟩,?_⟩;conv=>whnf)
  refine S_OpenPt (P:=K) (a:=(a:Int)) (b:=(c:Int)) (f:=(D (a - 1)).S q) eK rfl oK (by unfold isD;simp;omega) (by unfold isD;simp;omega) (fun i hi=>hd.2.2.2.2.2.2.1 q hqn i hi) (fun n hn hnw=> ?_)
  conv=>whnf
  repeat (refine⟨⟨_,rfl⟩,?_⟩;conv=>whnf)
  have hfv:fitV D a c K=n:=by unfold fitV;rw [<- hp];exact hn.symm
  refine S_Prime_1 (fun p hp1=> ?_)
  conv=>whnf
  repeat (refine⟨⟨_,rfl⟩,?_⟩;conv=>whnf)
  refine S_LCmp hnw (by rw [hp1];decide) (fun z hz=> ?_)
  conv=>whnf
  repeat (refine⟨⟨_,rfl⟩,?_⟩;conv=>whnf)
  refine condB_mk (fun h4=> ?_) (fun h4=> ?_)
  · have h5:¬ n<nN:=by
      rcases cmpZ_or hz with⟨_,h⟩ | ⟨h,_⟩
      · rw [h]at h4;exact absurd h4 (by decide)
      · omega
    conv=>whnf
    repeat (refine⟨⟨_,rfl⟩,?_⟩;conv=>whnf)
    exact⟨⟨false,0,.inr (.inr (.inr ⟨hok,hhas,K,oK,eK,rfl,by rw [hfv];simp [h5]⟩)),rfl⟩,flat_bE⟩
  have h5:n<nN:=by
    rcases cmpZ_or hz with⟨h,_⟩ | ⟨_,h | h⟩
    · omega
    · rw [h]at h4;exact absurd h4 (by decide)
    · rw [h]at h4;exact absurd h4 (by decide)
  conv=>whnf
  repeat (refine⟨⟨_,rfl⟩,?_⟩;conv=>whnf)
  rw [e1]
  refine condB_ok (by simp;omega) ?_
  conv=>whnf
  repeat (refine⟨⟨_,rfl⟩,?_⟩;conv=>whnf)
  have ec:AV.agg [.int .u64 (IntKind.u64.wrap (c:Int)),.int .u64 0,.int .u64 0,.int .u64 0] = numA c:=by
    have e:IntKind.u64.wrap (c:Int)=((c:Nat):Int):=by rw [wu64];omega
    rw [e]
    have:=numA_comb (a:=c) (b:=0) (c:=0) (d:=0) (by omega) (by decide) (by decide) (by decide)
    have g:comb c 0 0 0=c:=by simp [comb]
    rw [g]at this
    exact this.symm
  refine S_FitsD (d:=D (a - 1)) (c:=d2 (a - 1)) (x:=c) rfl ec h3.2.2.2 h3.2.2.1 (by show c<2 ^ 256;omega) hnw (fun b hb=> ?_)
  conv=>whnf
  repeat (refine⟨⟨_,rfl⟩,?_⟩;conv=>whnf)
  refine⟨⟨b,0,.inr (.inr (.inr ⟨hok,hhas,K,oK,eK,rfl,?_⟩)),rfl⟩,flat_bE⟩
  rw [hfv,hb]
  exact⟨fun h=>⟨h5,h⟩,fun h=>h.2⟩
theorem S_JFits {m:Mem} {x:AV} {K:AV->Mem->Prop} {r:Nat} {D:Nat->Dl} {i j:Int} {ki:Bool} {kx ky:Nat} (hx:ShowsD m x r D) (hr:r<=1000000) (hD:∀ k,k<r->OkD (D k)) (hkx:kx<w256) (hky:ky<w256)
    (h:∀ b e,FitE r D i j ki kx ky b e->K (.tup [.bool b,.int .i64 e]) m):ACall Pg F_judge_Fits [x,.int .i64 i,.int .i64 j,rawA ki kx ky] m K:=by
  obtain⟨cap,d1,d2,hl⟩:=hx
  refine lift_flat (S_JFits0 r cap d1 d2 D i j ki kx ky hr hD hkx hky) (.cons _ _ _ _ hl (.cons _ _ _ _ lend_int (.cons _ _ _ _ lend_int (.cons _ _ _ _ (lend_flat flat_rawA) .nil)))) ?_
  rintro v ⟨b,e,hf,rfl⟩
  exact h b e hf
theorem FitE.hear {r:Nat} {D:Nat->Dl} {i j:Int} {ki:Bool} {kx ky:Nat} {b:Bool} {e:Int} (h:FitE r D i j ki kx ky b e):(e ≠ 0/\b=false)\/(e=0/\plOk i j=true/\hasP r D i j/\∃ K,On K/\rawA ki kx ky=ptA K):=by
  rcases h with⟨h1,hb,he⟩ | ⟨h1,h2,hb,he⟩ | ⟨h1,h2,h3,hb,he⟩ | ⟨h1,h2,K,oK,eK,he,h3⟩
  · exact .inl ⟨by omega,hb⟩
  · exact .inl ⟨by omega,hb⟩
  · exact .inl ⟨by omega,hb⟩
  · exact .inr ⟨he,h1,h2,K,oK,eK⟩
def VerE (r:Nat) (D:Nat->Dl) (i j:Int) (ki:Bool) (kx ky c s:Nat) (e:Int):Prop:= ∃ b e0,FitE r D i j ki kx ky b e0/\
  ((e0 ≠ 0/\e=e0)\/(e0=0/\(Bad (D (i.toNat - 1)).i (D (i.toNat - 1)).x (D (i.toNat - 1)).y\/Bad (D (j.toNat - 1)).i (D (j.toNat - 1)).x (D (j.toNat - 1)).y)/\e=3)\/
   (e0=0/\∃ A B P,On A/\On B/\On P/\rawA (D (i.toNat - 1)).i (D (i.toNat - 1)).x (D (i.toNat - 1)).y=ptA A/\rawA (D (j.toNat - 1)).i (D (j.toNat - 1)).x (D (j.toNat - 1)).y=ptA B/\rawA ki kx ky=ptA P/\
     e=if hoB B A P c s=true then (if b=true then 13 else 0)else 12))
theorem VerE.same {r:Nat} {D:Nat->Dl} {i j:Int} {ki:Bool} {kx ky c s:Nat} {e e':Int} (h:VerE r D i j ki kx ky c s e) (h':VerE r D i j ki kx ky c s e'):e=e':=by
  obtain⟨b,e0,hf,h⟩:=h
  obtain⟨b',e0',hf',h'⟩:=h'
  obtain⟨rfl,rfl⟩:=hf.same hf'
  rcases h with⟨h1,h2⟩ | ⟨h1,h2,h3⟩ | ⟨h1,A,B,P,oA,oB,oP,eA,eB,eP,h3⟩
  · rcases h' with⟨g1,g2⟩ | ⟨g1,g2,g3⟩ | ⟨g1,_⟩
    · rw [h2,g2]
    · exact absurd g1 h1
    · exact absurd g1 h1
  · rcases h' with⟨g1,g2⟩ | ⟨g1,g2,g3⟩ | ⟨g1,A,B,P,oA,oB,oP,eA,eB,eP,g3⟩
    · exact absurd h1 g1
    · rw [h3,g3]
    · rcases h2 with h | h
      · exact absurd eA (h A oA)
      · exact absurd eB (h B oB)
  · rcases h' with⟨g1,g2⟩ | ⟨g1,g2,g3⟩ | ⟨g1,A',B',P',oA',oB',oP',eA',eB',eP',g3⟩
    · exact absurd h1 g1
    · rcases g2 with h | h
      · exact absurd eA (h A oA)
      · exact absurd eB (h B oB)
    · obtain rfl:A=A':=ptA_inj (eA.symm.trans eA')
      obtain rfl:B=B':=ptA_inj (eB.symm.trans eB')
      obtain rfl:P=P':=ptA_inj (eP.symm.trans eP')
      rw [h3,g3]
theorem S_HoldsD {m:Mem} {K:AV->Mem->Prop} {v w u z:AV} {i j l:Bool} {x1 y1 x2 y2 x3 y3 c r:Nat} (hv:v=rawA i x1 y1) (hw:w=rawA j x2 y2) (hu:u=rawA l x3 y3) (hz:z=prA c r) (hx1:x1<w256) (hy1:y1<w256) (hx2:x2<w256) (hy2:y2<w256) (hx3:x3<w256) (hy3:y3<w256) (hc:c<w256) (hr:r<w256)
    (h1:∀ A B P,On A->On B->On P->rawA i x1 y1=ptA A->rawA j x2 y2=ptA B->rawA l x3 y3=ptA P->∀ t,t=hoB A B P c r->K (.tup [.bool t,.int .i64 0]) m) (h2:(Bad i x1 y1\/Bad j x2 y2\/Bad l x3 y3)->K (.tup [.bool false,.int .i64 3]) m):ACall Pg F_dleq_Holds [v,w,u,z] m K:=by
  subst hv hw hu hz
  by_cases hb:Bad i x1 y1\/Bad j x2 y2\/Bad l x3 y3
  · exact S_Holds_bad hx1 hy1 hx2 hy2 hx3 hy3 hb (h2 hb)
  · have ex:∀ {i:Bool} {x y:Nat},¬ Bad i x y->∃ P,On P/\rawA i x y=ptA P:=fun h=>Classical.byContradiction fun hn=>h fun P oP eP=>hn ⟨P,oP,eP⟩
    obtain⟨A,oA,eA⟩:=ex fun h=>hb (.inl h)
    obtain⟨B,oB,eB⟩:=ex fun h=>hb (.inr (.inl h))
    obtain⟨P,oP,eP⟩:=ex fun h=>hb (.inr (.inr h))
    have h1:=h1 A B P oA oB oP eA eB eP
    rw [eA,eB,eP]
    exact S_Holds hc hr oA oB oP h1
theorem S_Verdict0 (r cap:Nat) (d1 d2:Nat->Nat) (D:Nat->Dl) (i j:Int) (ki:Bool) (kx ky c s:Nat) (hr:r<=1000000) (hD:∀ k,k<r->OkD (D k)) (hkx:kx<w256) (hky:ky<w256) (hc:c<w256) (hs:s<w256):
    ACall Pg F_judge_Verdict [.vsl 26 r cap (dlG D d1 d2),.int .i64 i,.int .i64 j,rawA ki kx ky,prA c s] [] (fun v _=>(∃ e,VerE r D i j ki kx ky c s e/\v= .int .i64 e)/\Flat true v):=by
  refine B_judge_Verdict ⟨rfl,?_⟩
  conv=>whnf
  repeat (refine⟨⟨_,rfl⟩,?_⟩;conv=>whnf)
  refine S_JFits (r:=r) (D:=D) .vsl hr hD hkx hky (fun b e0 hf=> ?_)
  conv=>whnf
  repeat (refine⟨⟨_,rfl⟩,?_⟩;conv=>whnf)
  refine condB_mk (fun h1=> ?_) (fun h1=> ?_)
  · have h1:e0 ≠ 0:=by simpa using h1
    conv=>whnf
    repeat (refine⟨⟨_,rfl⟩,?_⟩;conv=>whnf)
    exact⟨⟨e0,⟨b,e0,hf,.inl ⟨h1,rfl⟩⟩,rfl⟩,.int _ _⟩
  have h1:e0=0:=by simpa using h1
  rcases hf.hear with⟨h,_⟩ | ⟨_,hok,hhas,P,oP,eP⟩
  · exact absurd h1 h
  obtain⟨hi1,hi8,hj1,hj8,hne,hp0,hp6⟩:=plOk_spec hok
  have hir:=hhas.1
  have hjr:=hhas.2.1
  obtain⟨a,rfl⟩ :∃ a:Nat,i=a:=⟨i.toNat,by omega⟩
  obtain⟨q,rfl⟩ :∃ q:Nat,j=q:=⟨j.toNat,by omega⟩
  have e1:IntKind.i64.wrap ((a:Int) - 1)=((a - 1:Nat):Int):=by rw [w64 (by omega) (by omega)];omega
  have e2:IntKind.i64.wrap ((q:Int) - 1)=((q - 1:Nat):Int):=by rw [w64 (by omega) (by omega)];omega
  conv=>whnf
  repeat (refine⟨⟨_,rfl⟩,?_⟩;conv=>whnf)
  rw [e2]
  refine condB_ok (by simp;omega) ?_
  conv=>whnf
  repeat (refine⟨⟨_,rfl⟩,?_⟩;conv=>whnf)
  rw [e1]
  refine condB_ok (by simp;omega) ?_
  conv=>whnf
  repeat (refine⟨⟨_,rfl⟩,?_⟩;conv=>whnf)
  have g1:=hD (a - 1) (by omega)
  have g2:=hD (q - 1) (by omega)
  refine S_HoldsD (i:=(D (q - 1)).i) (x1:=(D (q - 1)).x) (y1:=(D (q - 1)).y) (j:=(D (a - 1)).i) (x2:=(D (a - 1)).x) (y2:=(D (a - 1)).y) (l:=ki) (x3:=kx) (y3:=ky) (c:=c) (r:=s) rfl rfl rfl rfl g2.1 g2.2.1 g1.1 g1.2.1 hkx hky hc hs (fun B A P' oB oA oP' eB eA eP' t ht=> ?_) (fun hb=> ?_)
  rotate_left
  · conv=>whnf
    repeat (refine⟨⟨_,rfl⟩,?_⟩;conv=>whnf)
    refine⟨⟨3,⟨b,e0,hf,.inr (.inl ⟨h1,?_,rfl⟩)⟩,rfl⟩,.int _ _⟩
    rcases hb with h | h | h
    · exact .inr h
    · exact .inl h
    · exact absurd eP (h P oP)
  conv=>whnf
  repeat (refine⟨⟨_,rfl⟩,?_⟩;conv=>whnf)
  cases t with
  | false =>
    conv=>whnf
    repeat (refine⟨⟨_,rfl⟩,?_⟩;conv=>whnf)
    exact⟨⟨12,⟨b,e0,hf,.inr (.inr ⟨h1,A,B,P',oA,oB,oP',eA,eB,eP',by rw [<- ht];rfl⟩)⟩,rfl⟩,.int _ _⟩
  | true =>
    cases b with
    | false =>
      conv=>whnf
      repeat (refine⟨⟨_,rfl⟩,?_⟩;conv=>whnf)
      exact⟨⟨0,⟨false,e0,hf,.inr (.inr ⟨h1,A,B,P',oA,oB,oP',eA,eB,eP',by rw [<- ht];rfl⟩)⟩,rfl⟩,.int _ _⟩
    | true =>
      conv=>whnf
      repeat (refine⟨⟨_,rfl⟩,?_⟩;conv=>whnf)
      exact⟨⟨13,⟨true,e0,hf,.inr (.inr ⟨h1,A,B,P',oA,oB,oP',eA,eB,eP',by rw [<- ht];rfl⟩)⟩,rfl⟩,.int _ _⟩
theorem S_Verdict {m:Mem} {x:AV} {K:AV->Mem->Prop} {r:Nat} {D:Nat->Dl} {i j:Int} {ki:Bool} {kx ky c s:Nat} (hx:ShowsD m x r D) (hr:r<=1000000) (hD:∀ k,k<r->OkD (D k)) (hkx:kx<w256) (hky:ky<w256) (hc:c<w256) (hs:s<w256)
    (h:∀ e,VerE r D i j ki kx ky c s e->K (.int .i64 e) m):ACall Pg F_judge_Verdict [x,.int .i64 i,.int .i64 j,rawA ki kx ky,prA c s] m K:=by
  obtain⟨cap,d1,d2,hl⟩:=hx
  refine lift_flat (S_Verdict0 r cap d1 d2 D i j ki kx ky c s hr hD hkx hky hc hs) (.cons _ _ _ _ hl (.cons _ _ _ _ lend_int (.cons _ _ _ _ lend_int (.cons _ _ _ _ (lend_flat flat_rawA) (.cons _ _ _ _ (lend_flat flat_prA) .nil))))) ?_
  rintro v ⟨e,hf,rfl⟩
  exact h e hf
end Go.Proofs.YtfolpdmbpbbimaaGreat
end

section
namespace Go.Proofs.YtfolpdmbpbbimaaGreat
open Go Go.Wit
theorem S_RInt {m:Mem} {K:AV->Mem->Prop} {i:Nat} (hi:i<1000000) (h:K (numA i) m):ACall Pg F_witanref06_Int [.int .i64 (i:Int)] m K:=by
  have h0:ACall Pg F_witanref06_Int [.int .i64 (i:Int)] [] (fun v _=>v=numA i/\Flat true v):=by
    refine B_witanref06_Int ⟨rfl,?_⟩
    conv=>whnf
    repeat (refine⟨⟨[],rfl⟩,?_⟩;conv=>whnf)
    have e:IntKind.u64.wrap (i:Int)=((i:Nat):Int):=by rw [wu64];omega
    have g:AV.agg [.int .u64 (IntKind.u64.wrap (i:Int)),.int .u64 0,.int .u64 0,.int .u64 0] = numA i:=by
      rw [e]
      have:=numA_comb (a:=i) (b:=0) (c:=0) (d:=0) (by omega) (by decide) (by decide) (by decide)
      rw [show comb i 0 0 0=i by unfold comb;omega]at this
      rw [this];rfl
    refine⟨g,?_⟩
    exact Eq.mpr (congrArg (Flat true) g) flat_numA
  refine lift_flat h0 (.cons _ _ _ _ lend_int .nil) ?_
  rintro v rfl
  exact h
theorem S_rCheckD {m:Mem} {K:AV->Mem->Prop} {v:AV} {i:Bool} {x y:Nat} (hv:v=rawA i x y) (hx:x<w256) (hy:y<w256) (h1:∀ P,On P->rawA i x y=ptA P->K (.bool true) m) (h2:Bad i x y->K (.bool false) m):ACall Pg F_witanref01_Check [v] m K:=by
  subst hv;exact S_rCheck hx hy h1 h2
theorem S_RHoldsD {m:Mem} {K:AV->Mem->Prop} {v w u z:AV} {a b k:Pt Fp} {c r:Nat} (hv:v=ptA a) (hw:w=ptA b) (hu:u=ptA k) (hz:z=prA c r) (hc:c<w256) (hr:r<w256) (oa:On a) (ob:On b) (ok:On k) (h:∀ x,x=hoB a b k c r->K (.bool x) m):ACall Pg F_witanref06_Holds [v,w,u,z] m K:=by
  subst hv hw hu hz;exact S_RHolds hc hr oa ob ok h
end Go.Proofs.YtfolpdmbpbbimaaGreat
end

section
namespace Go.Proofs.YtfolpdmbpbbimaaGreat
open Go Go.Wit
theorem S_Rpmul {m:Mem} {K:AV->Mem->Prop} {a b:Nat} (ha:a<w256) (hb:b<w256) (h:∀ r,r=a*b % nN->K (numA r) m):ACall Pg F_witanref06_mul [numA a,numA b] m K:=by
  have h0:ACall Pg F_witanref06_mul [numA a,numA b] [] (fun v _=>v=numA (a*b % nN)/\Flat true v):=by
    refine B_witanref06_mul ⟨rfl,?_⟩
    conv=>whnf
    repeat (refine⟨⟨[],rfl⟩,?_⟩;conv=>whnf)
    refine S_RFMul_1 ha hb (fun r hr=> ?_)
    conv=>whnf
    repeat (refine⟨⟨[],rfl⟩,?_⟩;conv=>whnf)
    rw [<- hr]
    exact⟨rfl,flat_numA⟩
  refine lift_flat h0 (.cons _ _ _ _ lend_numA (.cons _ _ _ _ lend_numA .nil)) ?_
  rintro v rfl
  exact h _ rfl
theorem S_Rpadd {m:Mem} {K:AV->Mem->Prop} {a b:Nat} (ha:a<w256) (hb:b<w256) (h:∀ r,r=(a+b) % nN->K (numA r) m):ACall Pg F_witanref06_add [numA a,numA b] m K:=by
  have h0:ACall Pg F_witanref06_add [numA a,numA b] [] (fun v _=>v=numA ((a+b) % nN)/\Flat true v):=by
    refine B_witanref06_add ⟨rfl,?_⟩
    conv=>whnf
    repeat (refine⟨⟨[],rfl⟩,?_⟩;conv=>whnf)
    refine S_RFAdd_1 ha hb (fun r hr=> ?_)
    conv=>whnf
    repeat (refine⟨⟨[],rfl⟩,?_⟩;conv=>whnf)
    rw [<- hr]
    exact⟨rfl,flat_numA⟩
  refine lift_flat h0 (.cons _ _ _ _ lend_numA (.cons _ _ _ _ lend_numA .nil)) ?_
  rintro v rfl
  exact h _ rfl
theorem S_REval0 (n cap:Nat) (c:Nat->Nat) (x:Nat) (hx:x<w256) (hc:∀ i,i<n->c i<w256) (hn:n<=140737488355328):ACall Pg F_witanref06_Eval [.vsl 4 n cap (numsG c),numA x] [] (fun v _=>v=numA (sumN c x n % nN)/\Flat true v):=by
  refine B_witanref06_Eval ⟨rfl,?_⟩
  conv=>whnf
  repeat (refine⟨⟨[],rfl⟩,?_⟩;conv=>whnf)
  have e10:IntKind.i64.wrap ((n:Int) - 1)=(n:Int) - 1:=w64 (by omega) (by omega)
  refine loop_wk mixed (I:=fun q l m=>∃ (v:Int) (t o:Nat),l= [(0,.vsl 4 n cap (numsG c)),(3,.ptr 0 0 0),(4,.ptr 1 0 0),(5,.ptr 2 0 0),(6,.int .i64 v)] /\
      m= [some ⟨1,4,lstG 1 (numL x)⟩,some ⟨1,4,lstG 1 (numL 0)⟩,some ⟨1,4,lstG 1 (numL o)⟩] /\ q+t=n/\v=(q:Int) - 1/\o=horN c x n t % nN) n
    (l0:= [(0,.vsl 4 n cap (numsG c)),(3,.ptr 0 0 0),(4,.ptr 1 0 0),(5,.ptr 2 0 0),(6,.int .i64 ((n:Int) - 1))])
    (m0:= [some ⟨1,4,lstG 1 (numL x)⟩,some ⟨1,4,lstG 1 (numL 0)⟩,some ⟨1,4,lstG 1 (numL 0)⟩]) [some 0,some 1,some 2] ⟨_,0,0,rfl,rfl,rfl,rfl,rfl⟩ ?_ ?_
  · refine .mk0 ⟨.eq _ _ rfl (.vsl _ _ _ _ rfl (fun _ _ _ _=>flat_numsG)),.ptr _ _ _ _ rfl,.ptr _ _ _ _ rfl,.ptr _ _ _ _ rfl,Flat.i e10,trivial⟩ ⟨.old 0 0 _ _ rfl rfl ⟨rfl,Nat.le_refl _,fun i j hi hj=> .eq _ _ rfl flat_numG⟩,
      .old 1 1 _ _ rfl rfl ⟨rfl,Nat.le_refl _,fun i j hi hj=> ?_⟩,.old 2 2 _ _ rfl rfl ⟨rfl,Nat.le_refl _,fun i j hi hj=> ?_⟩,trivial⟩ rfl rfl
    all_goals
      have hj:j<1:=hj
      have hi:i<4:=hi
      obtain rfl:j=0:=by omega
      have:i=0\/i=1\/i=2\/i=3:=by omega
      rcases this with rfl | rfl | rfl | rfl <;> exact .eq _ _ rfl (.int _ _)
  · rintro q l m ⟨v,t,o,rfl,rfl,hq,hv,ho⟩
    have ho1:o<w256:=by rw [ho];exact Nat.lt_trans (Nat.mod_lt _ (by decide)) (by decide)
    conv=>whnf
    repeat (refine⟨⟨[],rfl⟩,?_⟩;conv=>whnf)
    refine condB_mk (fun hb=> ?_) (fun hb=> ?_)
    · have hb:v >= 0:=of_decide_eq_true hb
      obtain⟨k,rfl⟩ :∃ k,q=k+1:=⟨q - 1,by omega⟩
      obtain rfl:v=(k:Int):=by omega
      conv=>whnf
      repeat (refine⟨⟨[],rfl⟩,?_⟩;conv=>whnf)
      refine condB_ok (by simp;omega) ?_
      conv=>whnf
      repeat (refine⟨⟨[],rfl⟩,?_⟩;conv=>whnf)
      refine S_Rpmul ho1 hx (fun r hr=> ?_)
      have hr1:r<w256:=by rw [hr];exact Nat.lt_trans (Nat.mod_lt _ (by decide)) (by decide)
      conv=>whnf
      repeat (refine⟨⟨[],rfl⟩,?_⟩;conv=>whnf)
      refine S_Rpadd (b:=c k) hr1 (hc k (by omega)) (fun s hs=> ?_)
      conv=>whnf
      repeat (refine⟨⟨[],rfl⟩,?_⟩;conv=>whnf)
      have hs2:s=horN c x n (t+1) % nN:=by rw [hs,hr,ho,mod_hor,horN_succ,show n - 1 - t=k by omega]
      have e5:IntKind.i64.wrap ((k:Int) - 1)=(k:Int) - 1:=w64 (by omega) (by omega)
      refine⟨k,_,_,[some 0,some 1,some 2],Nat.lt_succ_self _,⟨(k:Int) - 1,t+1,s,rfl,rfl,by omega,rfl,hs2⟩,?_⟩
      exact .mk0 ⟨.eq _ _ rfl (.vsl _ _ _ _ rfl (fun _ _ _ _=>flat_numsG)),.ptr _ _ _ _ rfl,.ptr _ _ _ _ rfl,.ptr _ _ _ _ rfl,Flat.i e5,trivial⟩ ⟨.old 0 0 _ _ rfl rfl ⟨rfl,Nat.le_refl _,fun i j hi hj=> .eq _ _ rfl flat_numG1⟩,
        .old 1 1 _ _ rfl rfl ⟨rfl,Nat.le_refl _,fun i j hi hj=> .eq _ _ rfl flat_numG1⟩,.old 2 2 _ _ rfl rfl ⟨rfl,Nat.le_refl _,fun i j hi hj=> .eq _ _ rfl flat_numG1⟩,trivial⟩ rfl rfl
    · have hb:¬ v >= 0:=of_decide_eq_false hb
      obtain rfl:q=0:=by omega
      obtain rfl:t=n:=by omega
      rw [horN_all]at ho
      conv=>whnf
      repeat (refine⟨⟨[],rfl⟩,?_⟩;conv=>whnf)
      rw [<- ho]
      exact⟨rfl,flat_numA⟩
theorem S_REval {m:Mem} {a:AV} {K:AV->Mem->Prop} {n x:Nat} {c:Nat->Nat} (ha:ShowsG m a 4 n (numsG c)) (hx:x<w256) (hc:∀ i,i<n->c i<w256) (hn:n<=140737488355328) (h:∀ r,r=sumN c x n % nN->r<w256->K (numA r) m):ACall Pg F_witanref06_Eval [a,numA x] m K:=by
  obtain⟨cap,hl⟩:=ha
  refine lift_flat (S_REval0 n cap c x hx hc hn) (.cons _ _ _ _ hl (.cons _ _ _ _ lend_numA .nil)) ?_
  rintro v rfl
  exact h _ rfl (Nat.lt_trans (Nat.mod_lt _ (by decide)) (by decide))
theorem seal_row0 {nv:Bool} {σ:Nat->Option Nat} {A:AV} {S:Nat->Nat->Int} {i j:Nat} {s:Nat->Int} {g h:Nat->Nat->AV} (hi:i<0+1) (hj:j<32) (hs:∀ j,j<32->s j=S 0 j) (hA:A=catG 0 h g i j) (hg:∀ j,j<32->g 0 j= .int .u8 (s j)):RV nv σ A (sealG S i j):=by
  obtain rfl:i=0:=by omega
  refine RV.of (hA.trans ?_) flat_sealG
  rw [catG_ge (Nat.le_refl _),Nat.sub_self,hg j hj,hs j hj];rfl
set_option maxHeartbeats 4000000 in
theorem S_RPost0 (n cap t:Nat) (f:Nat->Int) (r c1:Nat) (d1 d2:Nat->Nat) (D:Nat->Dl) (me:Nat) (hn:n<=16384) (ht:t<64) (hf:∀ i,i<n->0<=f i/\f i<=255) (hr:r<=8) (hm:1<=me/\me<=r) (hD:∀ k,k<r->On (ptOf (D k))/\rawA (D k).i (D k).x (D k).y=ptA (ptOf (D k))/\(D k).x<w256/\(D k).y<w256):
    ACall Pg F_witanref21_Post [.vsl 1 n cap (bytesG f),.int .i64 t,.vsl 26 r c1 (dlG D d1 d2),.int .i64 me] []
      (fun v m'=>∃ sl co,v= .tup [actA 2 false 0 0 nB sl co 0 0 0,.int .i64 0] /\ RetG 32 (r - 1) (fun q j=> .int .u8 (sealN n f t D me q j)) sl m'/\RetG 9 (t+1) (ptsG fun i=>nmul (coN n f i) gG) co m'):=by
  obtain⟨S,hS⟩ :∃ S:Nat->Nat->Int,S=sealN n f t D me:=⟨_,rfl⟩
  have hSq:∀ q,S q=tnF (nmul (secN n f) (ptOf (D (othN me q - 1)))) me (othN me q) (byteZ (sumN (coN n f) (othN me q) (t+1) % nN)):=fun q=>by rw [hS];rfl
  rw [<- hS]
  clear hS
  obtain⟨xs,hxs⟩ :∃ s,s=secN n f:=⟨_,rfl⟩
  obtain⟨c,hc⟩ :∃ c,c=coN n f:=⟨_,rfl⟩
  rw [<- hc]
  rw [<- hc,<- hxs]at hSq
  refine B_witanref21_Post ⟨rfl,?_⟩
  conv=>whnf
  repeat (refine⟨⟨_,rfl⟩,?_⟩;conv=>whnf)
  refine condB_yes (by simp;omega) ?_
  conv=>whnf
  repeat (refine⟨⟨_,rfl⟩,?_⟩;conv=>whnf)
  refine condB_yes (by simp;omega) ?_
  conv=>whnf
  repeat (refine⟨⟨_,rfl⟩,?_⟩;conv=>whnf)
  refine condB_yes (by simp;omega) ?_
  conv=>whnf
  repeat (refine⟨⟨_,rfl⟩,?_⟩;conv=>whnf)
  refine condB_no (by simp;omega) ?_
  conv=>whnf
  repeat (refine⟨⟨_,rfl⟩,?_⟩;conv=>whnf)
  refine loop_wk mixed (I:=fun q l m=>∃ (k:Nat),l= [(0,.vsl 1 n cap (bytesG f)),(1,.int .i64 t),(2,.vsl 26 r c1 (dlG D d1 d2)),(3,.int .i64 me),(8,.ptr 0 0 0),(10,.int .i64 k)] /\ m= [some ⟨22,1,lstG 22 actZ⟩] /\ q+k=r) r
    (l0:= [(0,.vsl 1 n cap (bytesG f)),(1,.int .i64 t),(2,.vsl 26 r c1 (dlG D d1 d2)),(3,.int .i64 me),(8,.ptr 0 0 0),(10,.int .i64 (0:Nat))]) (m0:= [some ⟨22,1,lstG 22 actZ⟩]) [some 0] ⟨0,rfl,rfl,rfl⟩ ?_ ?_
  · exact .mk0 ⟨.eq _ _ rfl flat_bytesV,Flat.i rfl,.eq _ _ rfl flat_dls,Flat.i rfl,.ptr _ _ _ _ rfl,Flat.i rfl,trivial⟩ ⟨.old 0 0 _ _ rfl rfl ⟨rfl,Nat.le_refl _,fun i j hi hj=>act_blk0 hi rfl⟩,trivial⟩ rfl rfl
  · rintro q l m ⟨k,rfl,rfl,hq⟩
    conv=>whnf
    repeat (refine⟨⟨_,rfl⟩,?_⟩;conv=>whnf)
    refine condB_mk (fun hb=> ?_) (fun hb=> ?_)
    · have hb:k<r:=by simp at hb;omega
      have e5:IntKind.i64.wrap ((k:Int)+1)=((k+1:Nat):Int):=by rw [w64 (by omega) (by omega)];omega
      conv=>whnf
      repeat (refine⟨⟨_,rfl⟩,?_⟩;conv=>whnf)
      refine condB_ok (by simp;omega) ?_
      conv=>whnf
      repeat (refine⟨⟨_,rfl⟩,?_⟩;conv=>whnf)
      refine S_rCheckD (i:=(D k).i) (x:=(D k).x) (y:=(D k).y) rfl (hD k hb).2.2.1 (hD k hb).2.2.2 (fun P oP eP=> ?_) (fun hbad=>absurd (hD k hb).2.1 (hbad _ (hD k hb).1))
      conv=>whnf
      repeat (refine⟨⟨_,rfl⟩,?_⟩;conv=>whnf)
      refine⟨q - 1,[(0,.vsl 1 n cap (bytesG f)),(1,.int .i64 t),(2,.vsl 26 r c1 (dlG D d1 d2)),(3,.int .i64 me),(8,.ptr 0 0 0),(10,.int .i64 ((k+1:Nat):Int))],[some ⟨22,1,lstG 22 actZ⟩],[some 0],by omega,⟨k+1,rfl,rfl,by omega⟩,?_⟩
      exact .mk0 ⟨.eq _ _ rfl flat_bytesV,Flat.i rfl,.eq _ _ rfl flat_dls,Flat.i rfl,.ptr _ _ _ _ rfl,Flat.i e5,trivial⟩ ⟨.old 0 0 _ _ rfl rfl ⟨rfl,Nat.le_refl _,fun i j hi hj=>act_blk hi hj rfl⟩,trivial⟩ rfl rfl
    · have hb:k=r:=by simp at hb;omega
      subst hb
      conv=>whnf
      repeat (refine⟨⟨_,rfl⟩,?_⟩;conv=>whnf)
      refine S_RPoly (n:=n) (t:=t) (f:=f) Shows.vsl hn ht hf (fun c' cc hc' hcN _=> ?_)
      obtain rfl:c=c':=hc.trans hc'.symm
      conv=>whnf
      repeat (refine⟨⟨_,rfl⟩,?_⟩;conv=>whnf)
      refine S_RCommit (n:=t+1) (c:=c) (ShowsG.sl rfl (by omega) (fun i j _ _=>⟨by rw [Nat.zero_add],flat_numsG⟩)) (fun i _=>Nat.lt_trans (hcN i) (by decide)) (by omega) (fun P cp hP=> ?_)
      conv=>whnf
      repeat (refine⟨⟨_,rfl⟩,?_⟩;conv=>whnf)
      have hsel0:∀ w,selN me w<=w:=fun w=>by unfold selN;split <;> omega
      refine loop_wk mixed (I:=fun q l m=>∃ w:Nat,q+w=k/\l= [(0,.vsl 1 n cap (bytesG f)),(2,.vsl 26 k c1 (dlG D d1 d2)),(3,.int .i64 me),(8,.ptr 0 0 0),(11,.sl 1 0 (t+1) cc),(12,.ptr 3 0 0),(13,.int .i64 ((w+1:Nat):Int))] /\
          ((selN me w=0/\m= [some ⟨22,1,lstG 22 actZ⟩,some ⟨4,t+1,numsG c⟩,some ⟨9,t+1,ptsG P⟩,some ⟨22,1,lstG 22 (actL 2 false 0 0 nB .nils (.sl 2 0 (t+1) cp) 0 0 0)⟩,none])\/
           (∃ s ca,selN me w=s+1/\m= [some ⟨22,1,lstG 22 actZ⟩,some ⟨4,t+1,numsG c⟩,some ⟨9,t+1,ptsG P⟩,some ⟨22,1,lstG 22 (actL 2 false 0 0 nB (.sl 4 0 (s+1) ca) (.sl 2 0 (t+1) cp) 0 0 0)⟩,some ⟨32,s+1,sealG S⟩]))) k
        (l0:= [(0,.vsl 1 n cap (bytesG f)),(2,.vsl 26 k c1 (dlG D d1 d2)),(3,.int .i64 me),(8,.ptr 0 0 0),(11,.sl 1 0 (t+1) cc),(12,.ptr 3 0 0),(13,.int .i64 ((0+1:Nat):Int))]) (m0:= [some ⟨22,1,lstG 22 actZ⟩,some ⟨4,t+1,numsG c⟩,some ⟨9,t+1,ptsG P⟩,some ⟨22,1,lstG 22 (actL 2 false 0 0 nB .nils (.sl 2 0 (t+1) cp) 0 0 0)⟩,none]) [some 0,some 1,some 2,some 3,none] ⟨0,rfl,rfl,.inl ⟨selN_0,rfl⟩⟩ ?_ ?_
      · refine .mk0 ⟨.eq _ _ rfl flat_bytesV,.eq _ _ rfl flat_dls,Flat.i rfl,.ptr _ _ _ _ rfl,.sl _ _ _ _ _ rfl,.ptr _ _ _ _ rfl,Flat.i rfl,trivial⟩ ⟨.old 0 0 _ _ rfl rfl ⟨rfl,Nat.le_refl _,fun i j hi hj=>act_blk hi hj rfl⟩,.old 1 1 _ _ rfl rfl ⟨rfl,Nat.le_refl _,fun i j hi hj=>RV.of rfl flat_numsG⟩,.old 2 2 _ _ rfl rfl ⟨rfl,Nat.le_refl _,fun i j hi hj=>RV.of rfl flat_ptsG⟩,.old 3 3 _ _ rfl rfl ⟨rfl,Nat.le_refl _,fun i j hi hj=> ?_⟩,.dead _,trivial⟩ rfl rfl
        have hi:i<1:=hi
        have hj:j<22:=hj
        obtain rfl:i=0:=by omega
        have:j=0\/j=1\/j=2\/j=3\/j=4\/j=5\/j=6\/j=7\/j=8\/j=9\/j=10\/j=11\/j=12\/j=13\/j=14\/j=15\/j=16\/j=17\/j=18\/j=19\/j=20\/j=21:=by omega
        rcases this with rfl | rfl | rfl | rfl | rfl | rfl | rfl | rfl | rfl | rfl | rfl | rfl | rfl | rfl | rfl | rfl | rfl | rfl | rfl | rfl | rfl | rfl
        all_goals first
          | exact .eq _ _ rfl (.int _ _)
          | exact .eq _ _ rfl (.bool _)
          | exact .eq _ _ rfl (.str _)
          | exact .eq _ _ rfl .nils
          | exact .nils _ _
          | exact .sl _ _ _ _ _ rfl
      · rintro q l m ⟨w,hq,rfl,hm⟩
        rcases hm with⟨hs0,rfl⟩ | ⟨s,ca,hs0,rfl⟩
        · conv=>whnf
          repeat (refine⟨⟨_,rfl⟩,?_⟩;conv=>whnf)
          refine condB_mk (fun hb=> ?_) (fun hb=> ?_)
          · have hb:w<k:=by simp at hb;omega
            have e5:IntKind.i64.wrap (((w+1:Nat):Int)+1)=((w+1+1:Nat):Int):=by rw [w64 (by omega) (by omega)];omega
            have e1:IntKind.i64.wrap (((w+1:Nat):Int) - 1)=((w:Nat):Int):=by rw [w64 (by omega) (by omega)];omega
            conv=>whnf
            repeat (refine⟨⟨_,rfl⟩,?_⟩;conv=>whnf)
            refine condB_mk (fun hj=> ?_) (fun hj=> ?_)
            · have hj:¬ w+1=me:=by simp at hj;omega
              have es:selN me (w+1)=selN me w+1:=by unfold selN;split <;> split <;> omega
              have eo:othN me (selN me w)=w+1:=by unfold othN selN;split <;> split <;> omega
              conv=>whnf
              repeat (refine⟨⟨_,rfl⟩,?_⟩;conv=>whnf)
              rw [e1]
              refine condB_ok (by simp;omega) ?_
              conv=>whnf
              repeat (refine⟨⟨_,rfl⟩,?_⟩;conv=>whnf)
              refine S_RSecret (n:=n) (f:=f) Shows.vsl (by omega) hf (fun xs' hxs' hxs1 _=> ?_)
              obtain rfl:xs=xs':=hxs.trans hxs'.symm
              conv=>whnf
              repeat (refine⟨⟨_,rfl⟩,?_⟩;conv=>whnf)
              refine T_rTimesE (n:=xs) (P:=ptOf (D w)) rfl (Eq.trans (b:=rawA (D w).i (D w).x (D w).y) rfl (hD w hb).2.1) (Nat.lt_trans hxs1 (by decide)) (hD w hb).1 (fun Q oQ hQ=> ?_)
              conv=>whnf
              repeat (refine⟨⟨_,rfl⟩,?_⟩;conv=>whnf)
              refine S_RInt (i:=w+1) (by omega) ?_
              conv=>whnf
              repeat (refine⟨⟨_,rfl⟩,?_⟩;conv=>whnf)
              refine S_REval (n:=t+1) (x:=w+1) (c:=c) (ShowsG.sl rfl (by omega) (fun i j _ _=>⟨by rw [Nat.zero_add],flat_numsG⟩)) (Nat.lt_of_le_of_lt (m:=8) (by omega) (by decide)) (fun i _=>Nat.lt_trans (hcN i) (by decide)) (by omega) (fun z hz hz1=> ?_)
              conv=>whnf
              repeat (refine⟨⟨_,rfl⟩,?_⟩;conv=>whnf)
              refine S_RSeal (P:=Q) (a:=(me:Int)) (b:=((w+1:Nat):Int)) (n:=z) (isD_nat (by omega) (by omega)) (isD_nat (by omega) (by omega)) (fun s1 hs hs1=> ?_)
              have hsS:∀ j,s1 j=S (0) j:=fun j=>by
                rw [<- hs0,hSq,eo,show w+1 - 1=w by omega,<- hQ,<- hz,hs]
              clear hs
              rw [rowL]
              conv=>whnf
              repeat (refine⟨⟨_,rfl⟩,?_⟩;conv=>whnf)
              first
                | refine fun cap' hcap=> ?_
                | refine condB_ok (app_ok (by first | rfl | simp) rfl rfl (by have:=hsel0 w;omega) (by have:=hsel0 w;omega)) (fun cap' hcap=> ?_)
              conv=>whnf
              repeat (refine⟨⟨_,rfl⟩,?_⟩;conv=>whnf)
              refine⟨q - 1,[(0,.vsl 1 n cap (bytesG f)),(2,.vsl 26 k c1 (dlG D d1 d2)),(3,.int .i64 me),(8,.ptr 0 0 0),(11,.sl 1 0 (t+1) cc),(12,.ptr 3 0 0),(13,.int .i64 ((w+1+1:Nat):Int))],[some ⟨22,1,lstG 22 actZ⟩,some ⟨4,t+1,numsG c⟩,some ⟨9,t+1,ptsG P⟩,some ⟨22,1,lstG 22 (actL 2 false 0 0 nB (.sl 4 0 (0+1) cap') (.sl 2 0 (t+1) cp) 0 0 0)⟩,some ⟨32,0+1,sealG S⟩],[some 0,some 1,some 2,some 3,some 6],by omega,⟨w+1,by omega,rfl,.inr ⟨0,cap',by rw [es,hs0],rfl⟩⟩,?_⟩
              refine .mk0 ⟨.eq _ _ rfl flat_bytesV,.eq _ _ rfl flat_dls,Flat.i rfl,.ptr _ _ _ _ rfl,.sl _ _ _ _ _ rfl,.ptr _ _ _ _ rfl,Flat.i e5,trivial⟩ ⟨.old 0 0 _ _ rfl rfl ⟨rfl,Nat.le_refl _,fun i j hi hj=>act_blk hi hj rfl⟩,.old 1 1 _ _ rfl rfl ⟨rfl,Nat.le_refl _,fun i j hi hj=>RV.of rfl flat_numsG⟩,.old 2 2 _ _ rfl rfl ⟨rfl,Nat.le_refl _,fun i j hi hj=>RV.of rfl flat_ptsG⟩,.old 3 3 _ _ rfl rfl ⟨rfl,Nat.le_refl _,fun i j hi hj=> ?_⟩,.old 4 6 _ _ rfl rfl ⟨rfl,Nat.le_refl _,fun i j hi hj=> ?_⟩,trivial⟩ rfl rfl
              · have hi:i<1:=hi
                have hj:j<22:=hj
                obtain rfl:i=0:=by omega
                have:j=0\/j=1\/j=2\/j=3\/j=4\/j=5\/j=6\/j=7\/j=8\/j=9\/j=10\/j=11\/j=12\/j=13\/j=14\/j=15\/j=16\/j=17\/j=18\/j=19\/j=20\/j=21:=by omega
                rcases this with rfl | rfl | rfl | rfl | rfl | rfl | rfl | rfl | rfl | rfl | rfl | rfl | rfl | rfl | rfl | rfl | rfl | rfl | rfl | rfl | rfl | rfl
                all_goals first
                  | exact .eq _ _ rfl (.int _ _)
                  | exact .eq _ _ rfl (.bool _)
                  | exact .eq _ _ rfl (.str _)
                  | exact .eq _ _ rfl .nils
                  | exact .nils _ _
                  | exact .sl _ _ _ _ _ rfl
              · dsimp only at hi hj ⊢
                first
                  | refine seal_row hi hj (fun j _=>hsS j) rfl ?_
                  | refine seal_row0 hi hj (fun j _=>hsS j) rfl ?_
                exact all32 ⟨rfl,rfl,rfl,rfl,rfl,rfl,rfl,rfl,rfl,rfl,rfl,rfl,rfl,rfl,rfl,rfl,rfl,rfl,rfl,rfl,rfl,rfl,rfl,rfl,rfl,rfl,rfl,rfl,rfl,rfl,rfl,rfl⟩
            · have hj:w+1=me:=by simp at hj;omega
              have es:selN me (w+1)=selN me w:=by unfold selN;rw [if_neg (by omega),if_pos (by omega)];omega
              conv=>whnf
              repeat (refine⟨⟨_,rfl⟩,?_⟩;conv=>whnf)
              refine⟨q - 1,[(0,.vsl 1 n cap (bytesG f)),(2,.vsl 26 k c1 (dlG D d1 d2)),(3,.int .i64 me),(8,.ptr 0 0 0),(11,.sl 1 0 (t+1) cc),(12,.ptr 3 0 0),(13,.int .i64 ((w+1+1:Nat):Int))],[some ⟨22,1,lstG 22 actZ⟩,some ⟨4,t+1,numsG c⟩,some ⟨9,t+1,ptsG P⟩,some ⟨22,1,lstG 22 (actL 2 false 0 0 nB (.nils) (.sl 2 0 (t+1) cp) 0 0 0)⟩,none],[some 0,some 1,some 2,some 3,none],by omega,⟨w+1,by omega,rfl,by first | exact .inl ⟨by rw [es,hs0],rfl⟩ | exact .inr ⟨_,_,by rw [es,hs0],rfl⟩⟩,?_⟩
              refine .mk0 ⟨.eq _ _ rfl flat_bytesV,.eq _ _ rfl flat_dls,Flat.i rfl,.ptr _ _ _ _ rfl,.sl _ _ _ _ _ rfl,.ptr _ _ _ _ rfl,Flat.i e5,trivial⟩ ⟨.old 0 0 _ _ rfl rfl ⟨rfl,Nat.le_refl _,fun i j hi hj=>act_blk hi hj rfl⟩,.old 1 1 _ _ rfl rfl ⟨rfl,Nat.le_refl _,fun i j hi hj=>RV.of rfl flat_numsG⟩,.old 2 2 _ _ rfl rfl ⟨rfl,Nat.le_refl _,fun i j hi hj=>RV.of rfl flat_ptsG⟩,.old 3 3 _ _ rfl rfl ⟨rfl,Nat.le_refl _,fun i j hi hj=> ?_⟩,by first | exact .dead _ | exact .old 4 4 _ _ rfl rfl ⟨rfl,Nat.le_refl _,fun i j hi hj=>RV.of rfl flat_sealG⟩,trivial⟩ rfl rfl
              have hi:i<1:=hi
              have hj:j<22:=hj
              obtain rfl:i=0:=by omega
              have:j=0\/j=1\/j=2\/j=3\/j=4\/j=5\/j=6\/j=7\/j=8\/j=9\/j=10\/j=11\/j=12\/j=13\/j=14\/j=15\/j=16\/j=17\/j=18\/j=19\/j=20\/j=21:=by omega
              rcases this with rfl | rfl | rfl | rfl | rfl | rfl | rfl | rfl | rfl | rfl | rfl | rfl | rfl | rfl | rfl | rfl | rfl | rfl | rfl | rfl | rfl | rfl
              all_goals first
                | exact .eq _ _ rfl (.int _ _)
                | exact .eq _ _ rfl (.bool _)
                | exact .eq _ _ rfl (.str _)
                | exact .eq _ _ rfl .nils
                | exact .nils _ _
                | exact .sl _ _ _ _ _ rfl
          · have hb:w=k:=by simp at hb;omega
            subst hb
            conv=>whnf
            repeat (refine⟨⟨_,rfl⟩,?_⟩;conv=>whnf)
            have hsel:selN me w=w - 1:=by unfold selN;rw [if_neg (by omega)]
            have hw1:w - 1=0:=hsel.symm.trans hs0
            exact⟨.nils,.sl 2 0 (t+1) cp,rfl,by first | exact .inl ⟨rfl,hw1⟩ | exact .inr ⟨4,_,_,_,by rw [hw1],rfl,by omega,fun _ _ _ _=>rfl⟩,.inr ⟨_,cp,t+1,_,rfl,rfl,Nat.le_refl _,fun _ _ _ _=>by rw [hP]⟩⟩
        · conv=>whnf
          repeat (refine⟨⟨_,rfl⟩,?_⟩;conv=>whnf)
          refine condB_mk (fun hb=> ?_) (fun hb=> ?_)
          · have hb:w<k:=by simp at hb;omega
            have e5:IntKind.i64.wrap (((w+1:Nat):Int)+1)=((w+1+1:Nat):Int):=by rw [w64 (by omega) (by omega)];omega
            have e1:IntKind.i64.wrap (((w+1:Nat):Int) - 1)=((w:Nat):Int):=by rw [w64 (by omega) (by omega)];omega
            conv=>whnf
            repeat (refine⟨⟨_,rfl⟩,?_⟩;conv=>whnf)
            refine condB_mk (fun hj=> ?_) (fun hj=> ?_)
            · have hj:¬ w+1=me:=by simp at hj;omega
              have es:selN me (w+1)=selN me w+1:=by unfold selN;split <;> split <;> omega
              have eo:othN me (selN me w)=w+1:=by unfold othN selN;split <;> split <;> omega
              conv=>whnf
              repeat (refine⟨⟨_,rfl⟩,?_⟩;conv=>whnf)
              rw [e1]
              refine condB_ok (by simp;omega) ?_
              conv=>whnf
              repeat (refine⟨⟨_,rfl⟩,?_⟩;conv=>whnf)
              refine S_RSecret (n:=n) (f:=f) Shows.vsl (by omega) hf (fun xs' hxs' hxs1 _=> ?_)
              obtain rfl:xs=xs':=hxs.trans hxs'.symm
              conv=>whnf
              repeat (refine⟨⟨_,rfl⟩,?_⟩;conv=>whnf)
              refine T_rTimesE (n:=xs) (P:=ptOf (D w)) rfl (Eq.trans (b:=rawA (D w).i (D w).x (D w).y) rfl (hD w hb).2.1) (Nat.lt_trans hxs1 (by decide)) (hD w hb).1 (fun Q oQ hQ=> ?_)
              conv=>whnf
              repeat (refine⟨⟨_,rfl⟩,?_⟩;conv=>whnf)
              refine S_RInt (i:=w+1) (by omega) ?_
              conv=>whnf
              repeat (refine⟨⟨_,rfl⟩,?_⟩;conv=>whnf)
              refine S_REval (n:=t+1) (x:=w+1) (c:=c) (ShowsG.sl rfl (by omega) (fun i j _ _=>⟨by rw [Nat.zero_add],flat_numsG⟩)) (Nat.lt_of_le_of_lt (m:=8) (by omega) (by decide)) (fun i _=>Nat.lt_trans (hcN i) (by decide)) (by omega) (fun z hz hz1=> ?_)
              conv=>whnf
              repeat (refine⟨⟨_,rfl⟩,?_⟩;conv=>whnf)
              refine S_RSeal (P:=Q) (a:=(me:Int)) (b:=((w+1:Nat):Int)) (n:=z) (isD_nat (by omega) (by omega)) (isD_nat (by omega) (by omega)) (fun s1 hs hs1=> ?_)
              have hsS:∀ j,s1 j=S ((s+1)) j:=fun j=>by
                rw [<- hs0,hSq,eo,show w+1 - 1=w by omega,<- hQ,<- hz,hs]
              clear hs
              rw [rowL]
              conv=>whnf
              repeat (refine⟨⟨_,rfl⟩,?_⟩;conv=>whnf)
              first
                | refine fun cap' hcap=> ?_
                | refine condB_ok (app_ok (by first | rfl | simp) rfl rfl (by have:=hsel0 w;omega) (by have:=hsel0 w;omega)) (fun cap' hcap=> ?_)
              conv=>whnf
              repeat (refine⟨⟨_,rfl⟩,?_⟩;conv=>whnf)
              refine⟨q - 1,[(0,.vsl 1 n cap (bytesG f)),(2,.vsl 26 k c1 (dlG D d1 d2)),(3,.int .i64 me),(8,.ptr 0 0 0),(11,.sl 1 0 (t+1) cc),(12,.ptr 3 0 0),(13,.int .i64 ((w+1+1:Nat):Int))],[some ⟨22,1,lstG 22 actZ⟩,some ⟨4,t+1,numsG c⟩,some ⟨9,t+1,ptsG P⟩,some ⟨22,1,lstG 22 (actL 2 false 0 0 nB (.sl 4 0 ((s+1)+1) cap') (.sl 2 0 (t+1) cp) 0 0 0)⟩,some ⟨32,(s+1)+1,sealG S⟩],[some 0,some 1,some 2,some 3,some 6],by omega,⟨w+1,by omega,rfl,.inr ⟨(s+1),cap',by rw [es,hs0],rfl⟩⟩,?_⟩
              refine .mk0 ⟨.eq _ _ rfl flat_bytesV,.eq _ _ rfl flat_dls,Flat.i rfl,.ptr _ _ _ _ rfl,.sl _ _ _ _ _ rfl,.ptr _ _ _ _ rfl,Flat.i e5,trivial⟩ ⟨.old 0 0 _ _ rfl rfl ⟨rfl,Nat.le_refl _,fun i j hi hj=>act_blk hi hj rfl⟩,.old 1 1 _ _ rfl rfl ⟨rfl,Nat.le_refl _,fun i j hi hj=>RV.of rfl flat_numsG⟩,.old 2 2 _ _ rfl rfl ⟨rfl,Nat.le_refl _,fun i j hi hj=>RV.of rfl flat_ptsG⟩,.old 3 3 _ _ rfl rfl ⟨rfl,Nat.le_refl _,fun i j hi hj=> ?_⟩,.old 4 6 _ _ rfl rfl ⟨rfl,Nat.le_refl _,fun i j hi hj=> ?_⟩,trivial⟩ rfl rfl
              · have hi:i<1:=hi
                have hj:j<22:=hj
                obtain rfl:i=0:=by omega
                have:j=0\/j=1\/j=2\/j=3\/j=4\/j=5\/j=6\/j=7\/j=8\/j=9\/j=10\/j=11\/j=12\/j=13\/j=14\/j=15\/j=16\/j=17\/j=18\/j=19\/j=20\/j=21:=by omega
                rcases this with rfl | rfl | rfl | rfl | rfl | rfl | rfl | rfl | rfl | rfl | rfl | rfl | rfl | rfl | rfl | rfl | rfl | rfl | rfl | rfl | rfl | rfl
                all_goals first
                  | exact .eq _ _ rfl (.int _ _)
                  | exact .eq _ _ rfl (.bool _)
                  | exact .eq _ _ rfl (.str _)
                  | exact .eq _ _ rfl .nils
                  | exact .nils _ _
                  | exact .sl _ _ _ _ _ rfl
              · dsimp only at hi hj ⊢
                first
                  | refine seal_row hi hj (fun j _=>hsS j) rfl ?_
                  | refine seal_row0 hi hj (fun j _=>hsS j) rfl ?_
                exact all32 ⟨rfl,rfl,rfl,rfl,rfl,rfl,rfl,rfl,rfl,rfl,rfl,rfl,rfl,rfl,rfl,rfl,rfl,rfl,rfl,rfl,rfl,rfl,rfl,rfl,rfl,rfl,rfl,rfl,rfl,rfl,rfl,rfl⟩
            · have hj:w+1=me:=by simp at hj;omega
              have es:selN me (w+1)=selN me w:=by unfold selN;rw [if_neg (by omega),if_pos (by omega)];omega
              conv=>whnf
              repeat (refine⟨⟨_,rfl⟩,?_⟩;conv=>whnf)
              refine⟨q - 1,[(0,.vsl 1 n cap (bytesG f)),(2,.vsl 26 k c1 (dlG D d1 d2)),(3,.int .i64 me),(8,.ptr 0 0 0),(11,.sl 1 0 (t+1) cc),(12,.ptr 3 0 0),(13,.int .i64 ((w+1+1:Nat):Int))],[some ⟨22,1,lstG 22 actZ⟩,some ⟨4,t+1,numsG c⟩,some ⟨9,t+1,ptsG P⟩,some ⟨22,1,lstG 22 (actL 2 false 0 0 nB (.sl 4 0 (s+1) ca) (.sl 2 0 (t+1) cp) 0 0 0)⟩,some ⟨32,s+1,sealG S⟩],[some 0,some 1,some 2,some 3,some 4],by omega,⟨w+1,by omega,rfl,by first | exact .inl ⟨by rw [es,hs0],rfl⟩ | exact .inr ⟨_,_,by rw [es,hs0],rfl⟩⟩,?_⟩
              refine .mk0 ⟨.eq _ _ rfl flat_bytesV,.eq _ _ rfl flat_dls,Flat.i rfl,.ptr _ _ _ _ rfl,.sl _ _ _ _ _ rfl,.ptr _ _ _ _ rfl,Flat.i e5,trivial⟩ ⟨.old 0 0 _ _ rfl rfl ⟨rfl,Nat.le_refl _,fun i j hi hj=>act_blk hi hj rfl⟩,.old 1 1 _ _ rfl rfl ⟨rfl,Nat.le_refl _,fun i j hi hj=>RV.of rfl flat_numsG⟩,.old 2 2 _ _ rfl rfl ⟨rfl,Nat.le_refl _,fun i j hi hj=>RV.of rfl flat_ptsG⟩,.old 3 3 _ _ rfl rfl ⟨rfl,Nat.le_refl _,fun i j hi hj=> ?_⟩,by first | exact .dead _ | exact .old 4 4 _ _ rfl rfl ⟨rfl,Nat.le_refl _,fun i j hi hj=>RV.of rfl flat_sealG⟩,trivial⟩ rfl rfl
              have hi:i<1:=hi
              have hj:j<22:=hj
              obtain rfl:i=0:=by omega
              have:j=0\/j=1\/j=2\/j=3\/j=4\/j=5\/j=6\/j=7\/j=8\/j=9\/j=10\/j=11\/j=12\/j=13\/j=14\/j=15\/j=16\/j=17\/j=18\/j=19\/j=20\/j=21:=by omega
              rcases this with rfl | rfl | rfl | rfl | rfl | rfl | rfl | rfl | rfl | rfl | rfl | rfl | rfl | rfl | rfl | rfl | rfl | rfl | rfl | rfl | rfl | rfl
              all_goals first
                | exact .eq _ _ rfl (.int _ _)
                | exact .eq _ _ rfl (.bool _)
                | exact .eq _ _ rfl (.str _)
                | exact .eq _ _ rfl .nils
                | exact .nils _ _
                | exact .sl _ _ _ _ _ rfl
          · have hb:w=k:=by simp at hb;omega
            subst hb
            conv=>whnf
            repeat (refine⟨⟨_,rfl⟩,?_⟩;conv=>whnf)
            have hsel:selN me w=w - 1:=by unfold selN;rw [if_neg (by omega)]
            have hw1:w - 1=(s+1):=hsel.symm.trans hs0
            exact⟨.sl 4 0 (s+1) ca,.sl 2 0 (t+1) cp,rfl,by first | exact .inl ⟨rfl,hw1⟩ | exact .inr ⟨4,_,_,_,by rw [hw1],rfl,by omega,fun _ _ _ _=>rfl⟩,.inr ⟨_,cp,t+1,_,rfl,rfl,Nat.le_refl _,fun _ _ _ _=>by rw [hP]⟩⟩
theorem S_RPost {m:Mem} {x z:AV} {K:AV->Mem->Prop} {n t:Nat} {f:Nat->Int} {r:Nat} {D:Nat->Dl} {me:Nat} (M:Nat) (hM:M+1=r) (hx:Shows m x n f) (hz:ShowsD m z r D) (hn:n<=16384) (ht:t<64) (hf:∀ i,i<n->0<=f i/\f i<=255) (hr:r<=8) (hm:1<=me/\me<=r) (hD:∀ k,k<r->On (ptOf (D k))/\rawA (D k).i (D k).x (D k).y=ptA (ptOf (D k))/\(D k).x<w256/\(D k).y<w256)
    (h:∀ S P c1 c2,S=sealN n f t D me->P=(fun i=>nmul (coN n f i) gG)->memK (m++ [some ⟨32,M,sealG S⟩,some ⟨9,t+1,ptsG P⟩]) (K (.tup [actA 2 false 0 0 nB (.sl m.length 0 M c1) (.sl (m.length+1) 0 (t+1) c2) 0 0 0,.int .i64 0]))):ACall Pg F_witanref21_Post [x,.int .i64 t,z,.int .i64 me] m K:=by
  simp only [memK_eq]at h
  obtain rfl:M=r - 1:=by omega
  obtain⟨cap,hl⟩:=hx
  obtain⟨c1,d1,d2,hl2⟩:=hz
  exact lift_act (S_RPost0 n cap t f r c1 d1 d2 D me hn ht hf hr hm hD) (fun i j _ _=> .int _ _) (fun i j _ _=>flat_ptsG) (.cons _ _ _ _ hl (.cons _ _ _ _ lend_int (.cons _ _ _ _ hl2 (.cons _ _ _ _ lend_int .nil)))) (fun k1 k2=>h _ _ k1 k2 rfl rfl)
end Go.Proofs.YtfolpdmbpbbimaaGreat
end

section
namespace Go.Proofs.YtfolpdmbpbbimaaGreat
open Go Go.Wit
def t32:Ty:= .arr 32 (.int .u8)
end Go.Proofs.YtfolpdmbpbbimaaGreat
end

section
namespace Go.Proofs.YtfolpdmbpbbimaaGreat
open Go Go.Wit
def OkZ (d:Dl):Prop:=d.x<w256/\d.y<w256/\d.u<w256/\d.v<w256/\(∀ k,k<d.nc->d.X k<w256)/\(∀ k,k<d.nc->d.Y k<w256)/\(∀ k,k<d.ns->∀ b,b<32->0<=d.S k b/\d.S k b<=255)/\d.ns<=Go.maxLen/\d.nc<=Go.maxLen/\d.lb.size<=Go.maxLen
theorem OkZ.ok {d:Dl} (h:OkZ d) (h1:d.ns<=1000000) (h2:d.nc<=1000000):OkD d:=⟨h.1,h.2.1,h.2.2.1,h.2.2.2.1,h.2.2.2.2.1,h.2.2.2.2.2.1,h.2.2.2.2.2.2.1,h1,h2⟩
instance:Nonempty Dl:=⟨⟨0,false,0,0,.empty,0,false,0,fun _ _=>0,0,fun _=>false,fun _=>0,fun _=>0,false,false,false,0,0⟩⟩
end Go.Proofs.YtfolpdmbpbbimaaGreat
end

section
namespace Go.Wit
def FzV (l:Nat) (blk:Blk) (v v':AV):Prop:=v'=v\/v'= .un\/∃ o n c get,v= .sl l o n c/\v'= .vsl blk.es n c get/\o+n<=blk.n/\∀ i j,i<n->j<blk.es->get i j=blk.get (o+i) j
def FzB (l:Nat) (blk:Blk) (k:Nat) (b b':Option Blk):Prop:=b'=none\/(k ≠ l/\∃ x y,b=some x/\b'=some y/\y.es=x.es/\y.n<=x.n/\∀ i j,i<y.n->j<y.es->FzV l blk (x.get i j) (y.get i j))
def FzL (l:Nat) (blk:Blk):Nat->Mem->Mem->Prop
  | _,[],[] =>True
  | k,b::r,b'::r'=>FzB l blk k b b'/\FzL l blk (k+1) r r'
  | _,_,_=>False
theorem FzL.n {l k:Nat} {blk:Blk}:FzL l blk k [] [] :=trivial
theorem FzL.c {l k:Nat} {blk:Blk} {b b':Option Blk} {r r':Mem} (h1:FzB l blk k b b') (h2:FzL l blk (k+1) r r'):FzL l blk k (b::r) (b'::r'):=⟨h1,h2⟩
theorem FzL.len {l:Nat} {blk:Blk}:∀ {k:Nat} {m m1:Mem},FzL l blk k m m1->m1.length=m.length
  | _,[],[],_=>rfl
  | k,b::r,b'::r',h=>by simp [FzL.len h.2]
  | _,[],b'::r',h=>h.elim
  | _,b::r,[],h=>h.elim
theorem FzL.get {l:Nat} {blk:Blk}:∀ {k:Nat} {m m1:Mem},FzL l blk k m m1->∀ i b',m1[i]? = some b'->∃ b,m[i]? = some b/\FzB l blk (k+i) b b'
  | _,[],[],_,i,b',h=>by simp at h
  | k, b :: r, c :: r', h, 0, b', hb => by
    simp at hb;subst hb
    exact⟨b,rfl,h.1⟩
  | k, b :: r, c :: r', h, i + 1, b', hb => by
    obtain⟨x,h1,h2⟩:=FzL.get h.2 i b' (by simpa using hb)
    exact⟨x,by simpa using h1,by rw [show k+(i+1)=k+1+i by omega];exact h2⟩
  | _,[],b'::r',h,_,_,_=>h.elim
  | _,b::r,[],h,_,_,_=>h.elim
theorem MRel.frz {C:Ctx} {m m1:Mem} {w:World} {L:Lay} (hR:MRel C m w L) {l:Nat} {blk:Blk} (hl:m[l]? = some (some blk)) (hm:FzL l blk 0 m m1):
    MRel C m1 w L/\Ext w.heap L (OO C m L) w.heap L (OO C m1 L):=by
  have hlen:=hm.len
  have hget:∀ {i:Nat} {y:Blk},m1[i]? = some (some y)->i ≠ l/\∃ x,m[i]? = some (some x)/\y.es=x.es/\y.n<=x.n/\∀ a b,a<y.n->b<y.es->FzV l blk (x.get a b) (y.get a b):=by
    intro i y hi
    obtain⟨b,h1,h2⟩:=hm.get i _ hi
    rcases h2 with h2 | ⟨h3,x,y',rfl,h5,h6,h7,h8⟩
    · cases h2
    · obtain rfl:=Option.some.inj h5
      rw [Nat.zero_add]at h3
      exact⟨h3,x,h1,h6,h7,h8⟩
  have hown:∀ b,own m1 L b->own m L b:=by
    rintro b ⟨i,y,e,h1,h2,h3,h4⟩
    obtain⟨_,x,h5,_⟩:=hget h1
    exact⟨i,x,e,h5,h2,h3,h4⟩
  have hext:Ext w.heap L (OO C m L) w.heap L (OO C m1 L):=
    ⟨fun l e h=>h,fun b _ _=>rfl,fun b _ hO hO'=>hO (hO'.elim .inl fun h=> .inr (hown b h))⟩
  refine⟨⟨hR.os,hR.tape,hR.output,hR.size,hR.frame,fun i hi=>hR.lay i (by omega),fun i y hi=> ?_,fun i i' b b' e e' h1 h2 h3 h4 t1 t2 h5=> ?_,fun i hi=>⟨by rw [hlen];exact(hR.base i hi).1,(hR.base i hi).2⟩,hR.xlt,fun b hb=>hR.notX b (hown b hb)⟩,hext⟩
  · obtain⟨hne,x,g1,g2,g3,g4⟩:=hget hi
    obtain⟨e,k1,k2,k3,k0⟩:=hR.blk i x g1
    refine⟨e,k1,by rw [k2,g2],by omega,fun ht=> ?_⟩
    obtain⟨c,T,k4,k5,k6,k7⟩:=k0 ht
    refine⟨c,T,k4,k5,k6,fun a b ha hb=> ?_⟩
    obtain⟨v,r1,r2,r3⟩:=k7 a b (by omega) (by rw [<- g2];exact hb)
    refine⟨v,by rw [g2];exact r1,?_,r3⟩
    rcases g4 a b ha hb with h | h | ⟨o,n,cp,get,h1,h2,h3,h4⟩
    · rw [h];exact r2.ext hext
    · rw [h];exact .un _
    · rw [h1]at r2
      rw [h2]
      cases r2 with
      | sl0 _ _ ad=>exact .vsl0 _ _ _
      | sl0n _ _=>exact .vsl0 _ _ _
      | sl _ _ _ _ le q1 q2 q3 =>
        obtain⟨e2,p1,p2,p3,p0⟩:=hR.blk l blk hl
        rw [q1]at p1;obtain rfl:=Option.some.inj p1
        by_cases hc0:cp=0
        · subst hc0
          obtain rfl:n=0:=by omega
          exact .vsl0 _ _ _
        have ht2:0<le.tot:=by omega
        obtain⟨c2,T2,p4,p5,p6,p7⟩:=p0 ht2
        have key:∀ a b,a<n->b<blk.es->∃ v,cellAt w.heap le.b (o*le.es+(a*blk.es+b))=some v/\VR w.heap L (OO C m L) (blk.get (o+a) b) v/\v.oneCell'=true:=by
          intro a b ha hb
          obtain⟨v,s1,s2,s3⟩:=p7 (o+a) b (by omega) hb
          refine⟨v,?_,s2,s3⟩
          simp only [cellAt,p4]
          rw [<- s1,p2];congr 1
          rw [Nat.add_mul];omega
        have hnO:¬ OO C m1 L le.b:=by
          rintro(hX | ⟨i2,y2,e3,s1,s2,s3,s4⟩)
          · exact hR.notX le.b ⟨l,blk,le,hl,q1,ht2,rfl⟩ hX
          · obtain⟨hne2,x2,s5,_⟩:=hget s1
            exact hne2 (hR.inj i2 l x2 blk e3 le s5 hl s2 q1 s3 ht2 s4)
        classical
        refine .vsl _ _ _ _ le.b (o*le.es) (fun a b=>if hij:a<n/\b<blk.es then (key a b hij.1 hij.2).choose else undef) q2 (fun a b ha hb=> ?_) (fun a b ha hb=> ?_)
        · have hk:=(key a b ha hb).choose_spec
          rw [dif_pos ⟨ha,hb⟩]
          exact⟨hnO,hk.1,hk.2.2⟩
        · have hk:=(key a b ha hb).choose_spec
          rw [dif_pos ⟨ha,hb⟩,h4 a b ha hb]
          exact hk.2.1.ext hext
  · obtain⟨_,x,g1,_⟩:=hget h1
    obtain⟨_,x',g2,_⟩:=hget h2
    exact hR.inj i i' x x' e e' g1 g2 h3 h4 t1 t2 h5
inductive FzM:Mem->Mem->Prop where
  | refl (m:Mem):FzM m m
  | step (l:Nat) (blk:Blk) (m m1 m2:Mem):m[l]? = some (some blk)->FzL l blk 0 m m1->FzM m1 m2->FzM m m2
theorem FzM.rel {C:Ctx} {n:Nat} {e:Env} {m m1:Mem} {a:Act} {w:World} {L:Lay} (h:FzM m m1) (hr:Rel C n e m a w L):Rel C n e m1 a w L:=by
  induction h with
  | refl=>exact hr
  | step l blk m m1 m2 hl hm _ ih =>
    obtain⟨h1,h2⟩:=hr.mem.frz hl hm
    exact ih ⟨hr.size,hr.defers,h1,fun t=>(hr.env t).ext h2⟩
section
variable {D:DrawKit} {P:Program} {n k:Nat}
theorem AWp.fz {c:Code} {e:Env} {m m1:Mem} {Q:XPost} (hf:FzM m m1) (h:AWp P n k c e m1 Q):AWp P n k c e m Q:=fun C a w L hk hr=>h C a w L hk (hf.rel hr)
theorem loop_fz (hm:P.follows .mixedOrders=true) {c:ACode} {e:Env} {m:Mem} {Q:XPost} (I:Nat->List (Nat × AV)->Mem->Prop) (k0:Nat) {l0:List (Nat × AV)} {m0:Mem} (src:List (Option Nat)) (hi:I k0 l0 m0) (hw:Wk k e m l0 m0 src)
    (hstep:∀ q l m,I q l m->mkEnvK l .nil fun e=>vcCode D P n k c e m fun x e' m'=>match x with
      | .normal=>∃ q' l' m1 m2 src,q'<q/\I q' l' m2/\FzM m' m1/\Wk k e' m1 l' m2 src
      | .exit i=>Q (.exit i) e' m'
      | .ret=>Q .ret e' m'
      | _=>False):ALoop D P n k c e m Q:=by
  refine loop_sem (fun q e m=>∃ l m1 m2 src,I q l m2/\FzM m m1/\Wk k e m1 l m2 src) k0 ⟨l0,m,m0,src,hi,.refl _,hw⟩ (fun q e1 m1 hI b hb=> ?_)
  obtain⟨l,m2,m3,s2,hI,hf,hw2⟩:=hI
  refine AWp.fz hf (AWp.wk hw2 ?_)
  have:=hstep q l m3 hI
  rw [mkEnvK_eq]at this
  refine AWp.mono ?_ (vcCode_sound hm b c hb this)
  intro x e' m' h
  cases x with
  | normal =>
    obtain⟨q',l',m4,m5,s3,h1,h2,h3,h4⟩:=h
    exact⟨q',h1,l',m4,m5,s3,h2,h3,h4⟩
  | exit i=>exact h
  | ret=>exact h
  | _=>exact h.elim
end
end Go.Wit
end

section
namespace Go.Proofs.YtfolpdmbpbbimaaGreat
open Go Go.Wit
end Go.Proofs.YtfolpdmbpbbimaaGreat
end

section
namespace Go.Proofs.YtfolpdmbpbbimaaGreat
open Go Go.Wit
end Go.Proofs.YtfolpdmbpbbimaaGreat
end

section
namespace Go.Proofs.YtfolpdmbpbbimaaGreat
open Go Go.Wit
theorem lt26 {P:Nat->Prop} (h0:P 0) (h1:P 1) (h2:P 2) (h3:P 3) (h4:P 4) (h5:P 5) (h6:P 6) (h7:P 7) (h8:P 8) (h9:P 9) (h10:P 10) (h11:P 11) (h12:P 12) (h13:P 13) (h14:P 14) (h15:P 15) (h16:P 16) (h17:P 17) (h18:P 18) (h19:P 19) (h20:P 20) (h21:P 21) (h22:P 22) (h23:P 23) (h24:P 24) (h25:P 25):∀ j,j<26->P j:=by
  intro j hj
  have:j=0\/j=1\/j=2\/j=3\/j=4\/j=5\/j=6\/j=7\/j=8\/j=9\/j=10\/j=11\/j=12\/j=13\/j=14\/j=15\/j=16\/j=17\/j=18\/j=19\/j=20\/j=21\/j=22\/j=23\/j=24\/j=25:=by omega
  rcases this with rfl | rfl | rfl | rfl | rfl | rfl | rfl | rfl | rfl | rfl | rfl | rfl | rfl | rfl | rfl | rfl | rfl | rfl | rfl | rfl | rfl | rfl | rfl | rfl | rfl | rfl <;> assumption
theorem ShowsD.own {m:Mem} {l n cap N:Nat} {D:Nat->Dl} {c1 c2:Nat->Nat} (h:m[l]? = some (some ⟨26,N,dlG D c1 c2⟩)) (hn:n<=N):ShowsD m (.sl l 0 n cap) n D:=by
  obtain⟨cap',hl⟩:=ShowsG.own h hn (fun i j=>flat_dlG)
  exact⟨cap',c1,c2,hl⟩
end Go.Proofs.YtfolpdmbpbbimaaGreat
end

section
namespace Go.Proofs.YtfolpdmbpbbimaaGreat
open Go Go.Wit
theorem upd_cell {es n p q i j:Nat} {g:Nat->Nat->AV} {v:AV} (hq:q<es):updG ⟨es,n,g⟩ p q 1 [v] i j=if i=p/\j=q then v else g i j:=by
  unfold updG
  have h1:Nat.ble (q+1) es=true:=by rw [Nat.ble_eq];omega
  simp only [h1,cond_true,pickA_eq]
  by_cases hp:i=p
  · by_cases hj:j=q
    · subst hp hj
      have h2:(Nat.ble j j && Nat.blt j (j+1))=true:=by simp only [Bool.and_eq_true,Nat.ble_eq,Nat.blt_eq];omega
      rw [h2];simp
    · have h2:(Nat.ble q j && Nat.blt j (q+1))=false:=by
        cases h:(Nat.ble q j && Nat.blt j (q+1))with
        | false=>rfl
        | true=>simp only [Bool.and_eq_true,Nat.ble_eq,Nat.blt_eq]at h;omega
      rw [h2,if_neg (fun h=>hj h.2)]
      simp
  · have h2:(i == p)=false:=by simpa using hp
    rw [h2,if_neg (fun h=>hp h.1)]
    simp
theorem lim0 (i:Nat):lim 0 i=0:=by simp [lim]
def intsG (f:Nat->Int):Nat->Nat->AV:=fun i _=> .int .i64 (f i)
def sdF (n:Nat) (f:Nat->Int) (i:Nat):Nat->Int:=fun j=>if j<n then f j else (i:Int)
noncomputable def PK (n:Nat) (f:Nat->Int) (i:Nat):Pt Fp:=nmul (secN (n+1) (sdF n f i)) gG
noncomputable def D0 (n:Nat) (f:Nat->Int) (i:Nat):Dl:=⟨i,isI (PK n f i),xN (PK n f i),yN (PK n f i),nB,0,false,0,fun _ _=>0,0,fun _=>false,fun _=>0,fun _=>0,false,false,false,0,0⟩
noncomputable def D1 (n:Nat) (f:Nat->Int) (r t:Nat) (S:Nat->Nat->Int) (P:Nat->Pt Fp) (i:Nat):Dl:=⟨i,isI (PK n f i),xN (PK n f i),yN (PK n f i),nB,0,true,r - 1,S,t+1,fun k=>isI (P k),fun k=>xN (P k),fun k=>yN (P k),false,false,false,0,0⟩
noncomputable def sealS (n:Nat) (f:Nat->Int) (t i:Nat):Nat->Nat->Int:=fun q=>tnF (nmul (secN (n+1) (sdF n f i)) (PK n f (othN (i+1) q - 1))) ((i+1:Nat):Int) (othN (i+1) q) (byteZ (sumN (coN (n+1) (sdF n f i)) (othN (i+1) q) (t+1) % nN))
noncomputable def comC (n:Nat) (f:Nat->Int) (i:Nat):Nat->Pt Fp:=fun k=>nmul (coN (n+1) (sdF n f i) k) gG
def parB (sp:Nat->Int) (i:Nat):Nat->Bool
  | 0=>false
  | c+1=>parB sp i c != (sp c == (i:Int))
theorem parB_true {sp:Nat->Int} {i c:Nat} (h:sp c=(i:Int)):parB sp i (c+1)= !parB sp i c:=by
  show (parB sp i c != (sp c == (i:Int)))=_
  rw [h];simp
theorem parB_false {sp:Nat->Int} {i c:Nat} (h:¬ sp c=(i:Int)):parB sp i (c+1)=parB sp i c:=by
  show (parB sp i c != (sp c == (i:Int)))=_
  have:(sp c == (i:Int))=false:=by simpa using h
  rw [this];simp
def spS (S:Nat->Nat->Int) (w:Nat) (b:Bool):Nat->Nat->Int:=fun q j=>if b=true/\q=w/\j=31 then xorB (S q j) 1 else S q j
theorem spS_no {S:Nat->Nat->Int} {w:Nat}:spS S w false=S:=by funext q j;simp [spS]
theorem PK_on {n:Nat} {f:Nat->Int} {i:Nat}:On (PK n f i):=on_G.nmul crvP _
theorem ptOf_D0 {n:Nat} {f:Nat->Int} {i:Nat}:ptOf (D0 n f i)=PK n f i:=ptOf_eq PK_on rfl
theorem ptOf_D1 {n:Nat} {f:Nat->Int} {r t i:Nat} {S:Nat->Nat->Int} {P:Nat->Pt Fp}:ptOf (D1 n f r t S P i)=PK n f i:=ptOf_eq PK_on rfl
theorem sdF_lt {n:Nat} {f:Nat->Int} {i:Nat} (hf:∀ j,j<n->0<=f j/\f j<=255) (hi:i<=255):∀ j,j<n+1->0<=sdF n f i j/\sdF n f i j<=255:=fun j hj=>by
  unfold sdF
  by_cases h:j<n
  · rw [if_pos h];exact hf j h
  · rw [if_neg h];omega
noncomputable def dq0 (n:Nat) (f:Nat->Int):Nat->Nat->AV:=fun k j=>(dlL (D0 n f k) .nils .nils).getD j .un
theorem flat_dq0 {nv:Bool} {n k j:Nat} {f:Nat->Int}:Flat nv (dq0 n f k j):=flat_dlL .nils .nils j
theorem sd_cell {n k i:Nat} {f:Nat->Int} {v:AV} {g:Nat->Nat->AV} (hk:k<=255) (hi:i<n+1) (hv:v=catG n (bytesG f) g i 0) (hg:g 0 0= .int .u8 (IntKind.u8.wrap (k:Int))):v= .int .u8 (sdF n f k i):=by
  subst hv
  unfold sdF
  by_cases h:i<n
  · rw [catG_lt h,if_pos h];rfl
  · rw [catG_ge (by omega),if_neg h,show i - n=0 by omega,hg,IntKind.wrap_u8]
    congr 1;omega
noncomputable def Dm (n:Nat) (f:Nat->Int) (E:Nat->Dl) (k i:Nat):Dl:=if i<k then E i else D0 n f i
noncomputable def dqG (n:Nat) (f:Nat->Int) (E:Nat->Dl) (k:Nat) (C1 C2:Nat->Nat):Nat->Nat->AV:=fun i j=>if i<k then dlG E C1 C2 i j else dq0 n f i j
theorem flat_dqG {n k i j:Nat} {f:Nat->Int} {E:Nat->Dl} {C1 C2:Nat->Nat}:Flat false (dqG n f E k C1 C2 i j):=by
  unfold dqG;split
  · exact flat_dlG
  · exact flat_dq0
noncomputable def dqI (n:Nat) (f:Nat->Int) (E:Nat->Dl) (k R t a1 a2:Nat) (C1 C2:Nat->Nat):Nat->Nat->AV:=fun i j=>if i=k then (dlL {D0 n f k with ps:=true} (.sl 2 0 (R+1) a1) (.sl 3 0 (t+1) a2)).getD j .un else dqG n f E k C1 C2 i j
theorem dqG_zero {n i j:Nat} {f:Nat->Int} {E:Nat->Dl} {C1 C2:Nat->Nat}:dqG n f E 0 C1 C2 i j=dq0 n f i j:=if_neg (Nat.not_lt_zero _)
theorem shows_dq {m:Mem} {l r c n k N:Nat} {f:Nat->Int} {E:Nat->Dl} {C1 C2:Nat->Nat} (h:m[l]? = some (some ⟨26,N,dqG n f E k C1 C2⟩)) (hr:r<=N):ShowsD m (.sl l 0 r c) r (Dm n f E k):=by
  refine⟨c,fun i=>if i<k then C1 i else 0,fun i=>if i<k then C2 i else 0,?_⟩
  refine Lend.slR l 0 r c ⟨26,N,dqG n f E k C1 C2⟩ _ (List.mem_range.2 (lt_of_get h)) h (by show 0+r<=N;omega) (fun i j hi hj=> ?_)
  rw [Nat.zero_add]
  show Lend _ _ _ (dqG n f E k C1 C2 i j) _
  unfold dqG
  by_cases hik:i<k
  · rw [if_pos hik]
    have e:dlG (Dm n f E k) (fun i=>if i<k then C1 i else 0) (fun i=>if i<k then C2 i else 0) i j=dlG E C1 C2 i j:=by
      unfold dlG Dm;simp only [if_pos hik]
    rw [e]
    exact lend_flat flat_dlG
  · rw [if_neg hik]
    have e:dlG (Dm n f E k) (fun i=>if i<k then C1 i else 0) (fun i=>if i<k then C2 i else 0) i j=(dlL (D0 n f i) (.vsl 32 0 0 (sealG (D0 n f i).S)) (.vsl 9 0 0 (rawsG (D0 n f i).I (D0 n f i).X (D0 n f i).Y))).getD j .un:=by
      unfold dlG Dm;simp only [if_neg hik];rfl
    rw [e]
    replace hj:j<26:=hj
    clear e
    revert j
    refine lt26 ?_ ?_ ?_ ?_ ?_ ?_ ?_ ?_ ?_ ?_ ?_ ?_ ?_ ?_ ?_ ?_ ?_ ?_ ?_ ?_ ?_ ?_ ?_ ?_ ?_ ?_
    all_goals first
      | exact .nils _ _
      | exact .rv _ _ (.eq _ _ rfl (.int _ _))
      | exact .rv _ _ (.eq _ _ rfl (.bool _))
      | exact .rv _ _ (.eq _ _ rfl (.str _))
theorem Dm_pt {n k i:Nat} {f:Nat->Int} {E:Nat->Dl} (hE:∀ i,ptOf (E i)=PK n f i/\rawA (E i).i (E i).x (E i).y=ptA (PK n f i)/\(E i).x<w256/\(E i).y<w256):ptOf (Dm n f E k i)=PK n f i/\rawA (Dm n f E k i).i (Dm n f E k i).x (Dm n f E k i).y=ptA (PK n f i)/\(Dm n f E k i).x<w256/\(Dm n f E k i).y<w256:=by
  unfold Dm
  by_cases h:i<k
  · rw [if_pos h];exact hE i
  · rw [if_neg h];exact⟨ptOf_D0,rfl,xN_w _,yN_w _⟩
noncomputable def DP (n:Nat) (f:Nat->Int) (r t w ns:Nat) (sp:Nat->Int) (i:Nat):Dl:=D1 n f r t (spS (sealS n f t i) w (parB sp i ns)) (comC n f i) i
theorem DP_pt {n r t w ns:Nat} {f sp:Nat->Int} (i:Nat):ptOf (DP n f r t w ns sp i)=PK n f i/\rawA (DP n f r t w ns sp i).i (DP n f r t w ns sp i).x (DP n f r t w ns sp i).y=ptA (PK n f i)/\(DP n f r t w ns sp i).x<w256/\(DP n f r t w ns sp i).y<w256:=⟨ptOf_D1,rfl,xN_w _,yN_w _⟩
theorem seal_Dm {n t k:Nat} {f:Nat->Int} {E:Nat->Dl} (hE:∀ i,ptOf (E i)=PK n f i):sealN (n+1) (sdF n f k) t (Dm n f E k) (k+1)=sealS n f t k:=by
  funext q
  unfold sealN sealS
  have:ptOf (Dm n f E k (othN (k+1) q - 1))=PK n f (othN (k+1) q - 1):=by
    unfold Dm
    by_cases h:othN (k+1) q - 1<k
    · rw [if_pos h];exact hE _
    · rw [if_neg h];exact ptOf_D0
  rw [this]
theorem dqI_rv {n k R t a1 a2 i j:Nat} {f:Nat->Int} {E:Nat->Dl} {C1 C2:Nat->Nat} (hj:j<26):
    RV false (fun l=> [some 0,some 1,some 5,some 6].getD l none) (updG ⟨26,R+2,updG ⟨26,R+2,updG ⟨26,R+2,dqG n f E k C1 C2⟩ (0+k) 12 1 [.bool true]⟩ (0+k) 13 1 [.sl 5 0 (R+1) a1]⟩ (0+k) 14 1 [.sl 6 0 (t+1) a2] i j) (dqI n f E k R t a1 a2 C1 C2 i j):=by
  rw [upd_cell (by decide),upd_cell (by decide),upd_cell (by decide),Nat.zero_add]
  unfold dqI
  by_cases hik:i=k
  · subst hik
    simp only [true_and,if_true]
    by_cases h14:j=14
    · subst h14;rw [if_pos rfl];exact .sl _ _ _ _ _ rfl
    by_cases h13:j=13
    · subst h13;rw [if_neg h14,if_pos rfl];exact .sl _ _ _ _ _ rfl
    by_cases h12:j=12
    · subst h12;rw [if_neg h14,if_neg h13,if_pos rfl];exact .eq _ _ rfl (.bool _)
    rw [if_neg h14,if_neg h13,if_neg h12]
    unfold dqG dq0
    rw [if_neg (Nat.lt_irrefl _)]
    revert h12 h13 h14
    revert j
    intro j hj
    refine lt26 (P:=fun j=>j ≠ 14->j ≠ 13->j ≠ 12->RV false (fun l=> [some 0,some 1,some 5,some 6].getD l none) ((dlL (D0 n f i) .nils .nils).getD j .un) ((dlL {D0 n f i with ps:=true} (.sl 2 0 (R+1) a1) (.sl 3 0 (t+1) a2)).getD j .un)) ?_ ?_ ?_ ?_ ?_ ?_ ?_ ?_ ?_ ?_ ?_ ?_ ?_ ?_ ?_ ?_ ?_ ?_ ?_ ?_ ?_ ?_ ?_ ?_ ?_ ?_ j hj
    all_goals (intro a b c;first | exact absurd rfl a | exact absurd rfl b | exact absurd rfl c | exact .eq _ _ rfl (.int _ _) | exact .eq _ _ rfl (.bool _) | exact .eq _ _ rfl (.str _))
  · simp only [hik,false_and,if_false]
    exact RV.of rfl flat_dqG
theorem cell_I {n k R t a1 a2 N:Nat} {f:Nat->Int} {E:Nat->Dl} {C1 C2:Nat->Nat}:cellG ⟨26,N,fun i j=>fl0 4 (dqI n f E k R t a1 a2 C1 C2 i j)⟩ (0+(k:Int).toNat) (0+13) 0= .sl 2 0 (R+1) a1:=by
  rw [show 0+(k:Int).toNat=k by simp]
  show fl0 4 (dqI n f E k R t a1 a2 C1 C2 k 13)=_
  unfold dqI
  rw [if_pos rfl]
  rfl
theorem dqI_self {n k R t a1 a2 i j:Nat} {f:Nat->Int} {E:Nat->Dl} {C1 C2:Nat->Nat} (hj:j<26):RV false (fun l=> [some 0,some 1,some 2,some 3].getD l none) (dqI n f E k R t a1 a2 C1 C2 i j) (dqI n f E k R t a1 a2 C1 C2 i j):=by
  unfold dqI
  by_cases hik:i=k
  · rw [if_pos hik]
    revert j
    intro j hj
    refine lt26 (P:=fun j=>RV false (fun l=> [some 0,some 1,some 2,some 3].getD l none) ((dlL {D0 n f k with ps:=true} (.sl 2 0 (R+1) a1) (.sl 3 0 (t+1) a2)).getD j .un) ((dlL {D0 n f k with ps:=true} (.sl 2 0 (R+1) a1) (.sl 3 0 (t+1) a2)).getD j .un)) ?_ ?_ ?_ ?_ ?_ ?_ ?_ ?_ ?_ ?_ ?_ ?_ ?_ ?_ ?_ ?_ ?_ ?_ ?_ ?_ ?_ ?_ ?_ ?_ ?_ ?_ j hj
    all_goals (first | exact .eq _ _ rfl (.int _ _) | exact .eq _ _ rfl (.bool _) | exact .eq _ _ rfl (.str _) | exact .sl _ _ _ _ _ rfl)
  · rw [if_neg hik]
    exact RV.of rfl flat_dqG
theorem xorB_key {A C:Nat} (h1:A<256) (h2:C<256):xorB (A:Int) (C:Int)=((A ^^^ C:Nat):Int):=by
  have e:(BitVec.ofInt 8 (A:Int) ^^^ BitVec.ofInt 8 (C:Int)).toNat=A ^^^ C:=by
    rw [BitVec.toNat_xor,BitVec.toNat_ofInt,BitVec.toNat_ofInt]
    have g1:((A:Int) % ((2 ^ 8:Nat):Int)).toNat=A:=by omega
    have g2:((C:Int) % ((2 ^ 8:Nat):Int)).toNat=C:=by omega
    rw [g1,g2]
  show IntKind.u8.wrap ((BitVec.ofInt 8 (A:Int) ^^^ BitVec.ofInt 8 (C:Int)).toNat:Int)=_
  rw [e,IntKind.wrap_u8]
  have:A ^^^ C<2 ^ 8:=Nat.xor_lt_two_pow h1 h2
  omega
theorem byte_nat {a:Int} (ha:0<=a/\a<=255):∃ A:Nat,a=A/\A<256:=⟨a.toNat,by omega,by omega⟩
theorem xorB_xorB1 {a c:Int} (ha:0<=a/\a<=255) (hc:0<=c/\c<=255):xorB (xorB a c) c=a:=by
  obtain⟨A,rfl,hA⟩:=byte_nat ha
  obtain⟨C,rfl,hC⟩:=byte_nat hc
  have h1:A ^^^ C<2 ^ 8:=Nat.xor_lt_two_pow hA hC
  rw [xorB_key hA hC,xorB_key h1 hC,Nat.xor_assoc,Nat.xor_self,Nat.xor_zero]
theorem xorB_swap {a c d:Int} (ha:0<=a/\a<=255) (hc:0<=c/\c<=255) (hd:0<=d/\d<=255):xorB (xorB (xorB a c) d) c=xorB a d:=by
  obtain⟨A,rfl,hA⟩:=byte_nat ha
  obtain⟨C,rfl,hC⟩:=byte_nat hc
  obtain⟨D,rfl,hD⟩:=byte_nat hd
  have h1:A ^^^ C<2 ^ 8:=Nat.xor_lt_two_pow hA hC
  have h2:A ^^^ C ^^^ D<2 ^ 8:=Nat.xor_lt_two_pow h1 hD
  rw [xorB_key hA hC,xorB_key h1 hD,xorB_key h2 hC,xorB_key hA hD,Nat.xor_assoc (A ^^^ C),Nat.xor_comm D C,<- Nat.xor_assoc,Nat.xor_assoc A C C,Nat.xor_self,Nat.xor_zero]
theorem spS_step {S:Nat->Nat->Int} {w i j:Nat} {b:Bool} (hS:∀ q j,0<=S q j/\S q j<=255):spS S w (!b) i j=if i=w/\j=31 then xorB (spS S w b i j) 1 else spS S w b i j:=by
  unfold spS
  by_cases h:i=w/\j=31
  · rw [if_pos h]
    cases b with
    | false=>rw [if_pos ⟨rfl,h⟩,if_neg (fun x=>Bool.noConfusion x.1)]
    | true=>rw [if_neg (fun x=>Bool.noConfusion x.1),if_pos ⟨rfl,h⟩,xorB_xorB1 (hS _ _) ⟨by decide,by decide⟩]
  · rw [if_neg h,if_neg (fun x=>h x.2),if_neg (fun x=>h x.2)]
theorem sealS_lt {n t k:Nat} {f:Nat->Int} (q j:Nat):0<=sealS n f t k q j/\sealS n f t k q j<=255:=xorB_lt _ _
theorem sp_cell {n:Nat} {S:Nat->Nat->Int} {w i j:Nat} {b:Bool} (hS:∀ q j,0<=S q j/\S q j<=255):updG ⟨32,n,sealG (spS S w b)⟩ (0+(w:Int).toNat) (0+Int.toNat 31*1) 1 [.int .u8 (bitsV .xor .u8 (spS S w b (0+(w:Int).toNat) (0+Int.toNat 31*1+0)) 1)] i j=sealG (spS S w (!b)) i j:=by
  show updG ⟨32,n,sealG (spS S w b)⟩ (0+(w:Int).toNat) 31 1 [.int .u8 (xorB (spS S w b (0+(w:Int).toNat) 31) 1)] i j=sealG (spS S w (!b)) i j
  rw [upd_cell (by decide),show 0+(w:Int).toNat=w by simp]
  show _=AV.int .u8 _
  rw [spS_step hS]
  by_cases h:i=w/\j=31
  · rw [if_pos h,if_pos h,h.1,h.2]
  · rw [if_neg h,if_neg h];rfl
noncomputable def dqJ (n:Nat) (f:Nat->Int) (E:Nat->Dl) (k t a1 a2:Nat) (C1 C2:Nat->Nat):Nat->Nat->AV:=fun i j=>if i=k/\j=14 then .sl 3 0 (t+1) a2 else dqG n f E (k+1) (fun i=>if i=k then a1 else C1 i) C2 i j
theorem fz_c {n k R t a1 a2 i j:Nat} {f:Nat->Int} {E:Nat->Dl} {S:Nat->Nat->Int} {C1 C2:Nat->Nat} (hE:E k=D1 n f (R+2) t S (comC n f k) k) (hj:j<26):FzV 2 ⟨32,R+1,sealG S⟩ (dqI n f E k R t a1 a2 C1 C2 i j) (dqJ n f E k t a1 a2 C1 C2 i j):=by
  unfold dqI dqJ
  by_cases hik:i=k
  · subst hik
    rw [if_pos rfl]
    by_cases h14:j=14
    · subst h14;rw [if_pos ⟨rfl,rfl⟩];exact .inl rfl
    rw [if_neg (fun h=>h14 h.2)]
    unfold dqG
    rw [if_pos (Nat.lt_succ_self _)]
    unfold dlG
    rw [hE];dsimp only;rw [if_pos rfl]
    by_cases h13:j=13
    · subst h13
      exact .inr (.inr ⟨0,R+1,a1,sealG S,rfl,rfl,by show 0+(R+1)<=R+1;omega,fun a b _ _=>by rw [Nat.zero_add]⟩)
    refine .inl ?_
    revert h13 h14
    revert j
    intro j hj
    refine lt26 (P:=fun j=>j ≠ 14->j ≠ 13->(dlL (D1 n f (R+2) t S (comC n f i) i) (.vsl 32 (R+2 - 1) a1 (sealG S)) (.vsl 9 (t+1) (C2 i) (ptsG (comC n f i)))).getD j .un=(dlL {D0 n f i with ps:=true} (.sl 2 0 (R+1) a1) (.sl 3 0 (t+1) a2)).getD j .un) ?_ ?_ ?_ ?_ ?_ ?_ ?_ ?_ ?_ ?_ ?_ ?_ ?_ ?_ ?_ ?_ ?_ ?_ ?_ ?_ ?_ ?_ ?_ ?_ ?_ ?_ j hj
    all_goals (intro a b;first | rfl | exact absurd rfl a | exact absurd rfl b)
  · rw [if_neg hik,if_neg (fun h=>hik h.1)]
    refine .inl ?_
    unfold dqG
    by_cases h:i<k
    · rw [if_pos h,if_pos (by omega)]
      unfold dlG;simp only [if_neg hik]
    · rw [if_neg h,if_neg (by omega)]
theorem fz_d {n k R t a1 a2 i j:Nat} {f:Nat->Int} {E:Nat->Dl} {S:Nat->Nat->Int} {C1 C2:Nat->Nat} (hE:E k=D1 n f (R+2) t S (comC n f k) k) (hj:j<26):FzV 3 ⟨9,t+1,ptsG (comC n f k)⟩ (dqJ n f E k t a1 a2 C1 C2 i j) (dqG n f E (k+1) (fun i=>if i=k then a1 else C1 i) (fun i=>if i=k then a2 else C2 i) i j):=by
  unfold dqJ
  by_cases hik:i=k
  · subst hik
    by_cases h14:j=14
    · subst h14
      rw [if_pos ⟨rfl,rfl⟩]
      unfold dqG
      rw [if_pos (Nat.lt_succ_self _)]
      unfold dlG
      rw [hE];dsimp only;rw [if_pos rfl,if_pos rfl]
      exact .inr (.inr ⟨0,t+1,a2,ptsG (comC n f i),rfl,rfl,by show 0+(t+1)<=t+1;omega,fun a b _ _=>by rw [Nat.zero_add]⟩)
    rw [if_neg (fun h=>h14 h.2)]
    refine .inl ?_
    unfold dqG
    rw [if_pos (Nat.lt_succ_self _),if_pos (Nat.lt_succ_self _)]
    unfold dlG
    revert h14
    revert j
    intro j hj
    refine lt26 (P:=fun j=>j ≠ 14->(dlL (E i) (.vsl 32 (E i).ns (if i=i then a1 else C1 i) (sealG (E i).S)) (.vsl 9 (E i).nc (if i=i then a2 else C2 i) (rawsG (E i).I (E i).X (E i).Y))).getD j .un=(dlL (E i) (.vsl 32 (E i).ns (if i=i then a1 else C1 i) (sealG (E i).S)) (.vsl 9 (E i).nc (C2 i) (rawsG (E i).I (E i).X (E i).Y))).getD j .un) ?_ ?_ ?_ ?_ ?_ ?_ ?_ ?_ ?_ ?_ ?_ ?_ ?_ ?_ ?_ ?_ ?_ ?_ ?_ ?_ ?_ ?_ ?_ ?_ ?_ ?_ j hj
    all_goals (intro a;first | rfl | exact absurd rfl a)
  · rw [if_neg (fun h=>hik h.1)]
    refine .inl ?_
    unfold dqG
    by_cases h:i<k+1
    · rw [if_pos h,if_pos h]
      unfold dlG;simp only [if_neg hik]
    · rw [if_neg h,if_neg h]
set_option maxHeartbeats 4000000 in
theorem S_PostedO (R t n cap ns Ns cs w:Nat) (f sp:Nat->Int) (whom:Int) (hNs:ns<=Ns) (hR:R<=2) (ht:t<64) (hn:n<=100) (hns:ns<=1000) (hf:∀ i,i<n->0<=f i/\f i<=255)
    (hw:IntKind.i64.wrap ((IntKind.u64.wrap whom).tmod (IntKind.u64.wrap (IntKind.i64.wrap (((R+2:Nat):Int) - 1))))=w) (hwR:w<R+1):
    ACall Pg F_witanlaw14_Posted [.int .i64 (R+2:Nat),.int .i64 t,.vsl 1 n cap (bytesG f),.sl 0 0 ns cs,.int .i64 whom] [some ⟨1,Ns,intsG sp⟩]
      (fun v m'=>m'[0]? = some (some ⟨1,Ns,intsG sp⟩)/\∃ l c C1 C2,1<=l/\v= .sl l 0 (R+2) c/\m'[l]? = some (some ⟨26,R+2,dqG n f (DP n f (R+2) t w ns sp) (R+2) C1 C2⟩)):=by
  have e7:IntKind.u64.wrap (IntKind.i64.wrap (((R+2:Nat):Int) - 1))=((R+1:Nat):Int):=by
    have:R=0\/R=1\/R=2:=by omega
    rcases this with rfl | rfl | rfl <;> decide
  have e8:(((R+1:Nat):Int) == 0)=false:=by simp;omega
  refine B_witanlaw14_Posted ⟨rfl,?_⟩
  conv=>whnf
  repeat (refine⟨⟨_,rfl⟩,?_⟩;conv=>whnf)
  refine loop_wk mixed (I:=fun q l m=>∃ k c':Nat,q+k=R+2/\l= [(0,.int .i64 (R+2:Nat)),(1,.int .i64 t),(2,.vsl 1 n cap (bytesG f)),(3,.sl 0 0 ns cs),(4,.int .i64 whom),(11,.sl 1 0 k c'),(12,.int .i64 k)] /\ m= [some ⟨1,Ns,intsG sp⟩,some ⟨26,k,dq0 n f⟩]) (R+2)
    (l0:= [(0,.int .i64 (R+2:Nat)),(1,.int .i64 t),(2,.vsl 1 n cap (bytesG f)),(3,.sl 0 0 ns cs),(4,.int .i64 whom),(11,.sl 1 0 0 0),(12,.int .i64 (0:Nat))]) (m0:= [some ⟨1,Ns,intsG sp⟩,some ⟨26,0,dq0 n f⟩]) [some 0,none] ⟨0,0,rfl,rfl,rfl⟩ ?_ ?_
  · exact .mkN ⟨Flat.i rfl,Flat.i rfl,.eq _ _ rfl flat_bytesV,.sl _ _ _ _ _ rfl,Flat.i rfl,.nils _ _,Flat.i rfl,trivial⟩ ⟨.old 0 0 _ _ rfl rfl ⟨rfl,Nat.le_refl _,fun i j hi hj=> .eq _ _ rfl (.int _ _)⟩,.ph _ _ _ rfl,trivial⟩ rfl rfl rfl
  · rintro q l m ⟨k,c',hq,rfl,rfl⟩
    conv=>whnf
    repeat (refine⟨⟨_,rfl⟩,?_⟩;conv=>whnf)
    refine condB_mk (fun hb=> ?_) (fun hb=> ?_)
    · have hb:k<R+2:=by simp at hb;omega
      have e5:IntKind.i64.wrap ((k:Int)+1)=((k+1:Nat):Int):=by rw [w64 (by omega) (by omega)];omega
      conv=>whnf
      repeat (refine⟨⟨_,rfl⟩,?_⟩;conv=>whnf)
      refine S_Twin (n:=n) (f:=f) Shows.vsl (by omega) (fun cap1=> ?_)
      conv=>whnf
      repeat (refine⟨⟨_,rfl⟩,?_⟩;conv=>whnf)
      refine condB_ok (app_ok (by first | rfl | simp) rfl rfl (by omega) (by omega)) (fun cap2 hcap2=> ?_)
      conv=>whnf
      repeat (refine⟨⟨_,rfl⟩,?_⟩;conv=>whnf)
      refine S_RSecret (n:=n+1) (f:=sdF n f k) (Shows.slG rfl (Nat.le_of_eq (Nat.zero_add _)) fun i hi=> ?_) (by omega) (sdF_lt hf (by omega)) (fun a ha ha1 _=> ?_)
      · rw [show 0+i=i from Nat.zero_add i]
        exact sd_cell (by omega) hi rfl rfl
      conv=>whnf
      repeat (refine⟨⟨_,rfl⟩,?_⟩;conv=>whnf)
      refine T_RBase (n:=a) (Nat.lt_trans ha1 (by decide)) (fun P oP hP=> ?_)
      obtain rfl:P=PK n f k:=by rw [hP,ha];rfl
      conv=>whnf
      repeat (refine⟨⟨_,rfl⟩,?_⟩;conv=>whnf)
      refine condB_ok (app_ok (by first | rfl | simp) rfl rfl (by omega) (by omega)) (fun cap3 hcap3=> ?_)
      conv=>whnf
      repeat (refine⟨⟨_,rfl⟩,?_⟩;conv=>whnf)
      refine⟨q - 1,[(0,.int .i64 (R+2:Nat)),(1,.int .i64 t),(2,.vsl 1 n cap (bytesG f)),(3,.sl 0 0 ns cs),(4,.int .i64 whom),(11,.sl 1 0 (k+1) cap3),(12,.int .i64 ((k+1:Nat):Int))],[some ⟨1,Ns,intsG sp⟩,some ⟨26,k+1,dq0 n f⟩],[some 0,some 6],by omega,⟨k+1,cap3,by omega,rfl,rfl⟩,?_⟩
      refine .mkN ⟨Flat.i rfl,Flat.i rfl,.eq _ _ rfl flat_bytesV,.sl _ _ _ _ _ rfl,Flat.i rfl,.sl _ _ _ _ _ rfl,Flat.i e5,trivial⟩ ⟨.old 0 0 _ _ rfl rfl ⟨rfl,Nat.le_refl _,fun i j hi hj=> .eq _ _ rfl (.int _ _)⟩,.old 1 6 _ _ rfl rfl ⟨rfl,Nat.le_refl _,fun i j hi hj=>RV.of ?_ flat_dq0⟩,trivial⟩ rfl rfl rfl
      replace hi:i<k+1:=hi
      replace hj:j<26:=hj
      dsimp only
      by_cases hik:i<k
      · rw [catG_lt hik]
      · obtain rfl:i=k:=by omega
        rw [catG_ge (Nat.le_refl _),Nat.sub_self]
        clear hi hik
        revert j
        refine lt26 ?_ ?_ ?_ ?_ ?_ ?_ ?_ ?_ ?_ ?_ ?_ ?_ ?_ ?_ ?_ ?_ ?_ ?_ ?_ ?_ ?_ ?_ ?_ ?_ ?_ ?_
        all_goals first
          | rfl
          | exact congrArg (AV.int IntKind.u64) (lim0 _).symm
    · have hb:k=R+2:=by simp at hb;omega
      subst hb
      conv=>whnf
      repeat (refine⟨⟨_,rfl⟩,?_⟩;conv=>whnf)
      refine loop_fz mixed (I:=fun q l m=>∃ (k c:Nat) (C1 C2:Nat->Nat),q+k=R+2/\l= [(0,.int .i64 (R+2:Nat)),(1,.int .i64 t),(2,.vsl 1 n cap (bytesG f)),(3,.sl 0 0 ns cs),(4,.int .i64 whom),(11,.sl 1 0 (R+2) c),(14,.int .i64 k)] /\ m= [some ⟨1,Ns,intsG sp⟩,some ⟨26,R+2,dqG n f (DP n f (R+2) t w ns sp) k C1 C2⟩]) (R+2)
        (l0:= [(0,.int .i64 (R+2:Nat)),(1,.int .i64 t),(2,.vsl 1 n cap (bytesG f)),(3,.sl 0 0 ns cs),(4,.int .i64 whom),(11,.sl 1 0 (R+2) c'),(14,.int .i64 (0:Nat))]) (m0:= [some ⟨1,Ns,intsG sp⟩,some ⟨26,R+2,dqG n f (DP n f (R+2) t w ns sp) 0 (fun _=>0) (fun _=>0)⟩]) [some 0,some 1] ⟨0,c',_,_,rfl,rfl,rfl⟩ ?_ ?_
      · exact .mkN ⟨Flat.i rfl,Flat.i rfl,.eq _ _ rfl flat_bytesV,.sl _ _ _ _ _ rfl,Flat.i rfl,.sl _ _ _ _ _ rfl,Flat.i rfl,trivial⟩ ⟨.old 0 0 _ _ rfl rfl ⟨rfl,Nat.le_refl _,fun i j hi hj=> .eq _ _ rfl (.int _ _)⟩,.old 1 1 _ _ rfl rfl ⟨rfl,Nat.le_refl _,fun i j hi hj=>RV.of (dqG_zero (n:=n) (f:=f) (E:=DP n f (R+2) t w ns sp) (C1:=fun _=>0) (C2:=fun _=>0)).symm (by dsimp only;exact flat_dqG)⟩,trivial⟩ rfl rfl rfl
      · rintro q0 l m ⟨k,c,C1,C2,hq,rfl,rfl⟩
        conv=>whnf
        repeat (refine⟨⟨_,rfl⟩,?_⟩;conv=>whnf)
        refine condB_mk (fun hb=> ?_) (fun hb=> ?_)
        · have hb:k<R+2:=by simp at hb;omega
          have e5:IntKind.i64.wrap ((k:Int)+1)=((k+1:Nat):Int):=by rw [w64 (by omega) (by omega)];omega
          conv=>whnf
          repeat (refine⟨⟨_,rfl⟩,?_⟩;conv=>whnf)
          refine S_Twin (n:=n) (f:=f) Shows.vsl (by omega) (fun cap1=> ?_)
          conv=>whnf
          repeat (refine⟨⟨_,rfl⟩,?_⟩;conv=>whnf)
          refine condB_ok (app_ok (by first | rfl | simp) rfl rfl (by omega) (by omega)) (fun cap2 hcap2=> ?_)
          conv=>whnf
          repeat (refine⟨⟨_,rfl⟩,?_⟩;conv=>whnf)
          rw [e5]
          refine S_RPost (n:=n+1) (f:=sdF n f k) (t:=t) (r:=R+2) (D:=Dm n f (DP n f (R+2) t w ns sp) k) (me:=k+1) (R+1) rfl (Shows.slG rfl (Nat.le_of_eq (Nat.zero_add _)) fun i hi=> ?_) (shows_dq rfl (Nat.le_refl _)) (by omega) ht (sdF_lt hf (by omega)) (by omega) (by omega) (fun i hi=> ?_) (fun S P a1 a2 hS hP=> ?_)
          · rw [show 0+i=i from Nat.zero_add i]
            exact sd_cell (by omega) hi rfl rfl
          · obtain⟨g1,g2,g3,g4⟩:=Dm_pt (k:=k) (i:=i) (DP_pt (n:=n) (f:=f) (r:=R+2) (t:=t) (w:=w) (ns:=ns) (sp:=sp))
            exact⟨by rw [g1];exact PK_on,by rw [g1];exact g2,g3,g4⟩
          have hS:S=sealS n f t k:=hS.trans (seal_Dm (fun i=>(DP_pt i).1))
          have hP:P=comC n f k:=hP
          conv=>whnf
          repeat (refine⟨⟨_,rfl⟩,?_⟩;conv=>whnf)
          refine condB_ok (by simp only [Bool.and_eq_true,decide_eq_true_eq];omega) ?_
          conv=>whnf
          repeat (refine⟨⟨_,rfl⟩,?_⟩;conv=>whnf)
          refine condB_ok (by simp [roomG,Nat.ble_eq];omega) ?_
          conv=>whnf
          repeat (refine⟨⟨_,rfl⟩,?_⟩;conv=>whnf)
          refine condB_ok (by simp only [Bool.and_eq_true,decide_eq_true_eq];omega) ?_
          conv=>whnf
          repeat (refine⟨⟨_,rfl⟩,?_⟩;conv=>whnf)
          refine condB_ok (by simp [roomG,Nat.ble_eq];omega) ?_
          conv=>whnf
          repeat (refine⟨⟨_,rfl⟩,?_⟩;conv=>whnf)
          refine condB_ok (by simp only [Bool.and_eq_true,decide_eq_true_eq];omega) ?_
          conv=>whnf
          repeat (refine⟨⟨_,rfl⟩,?_⟩;conv=>whnf)
          refine condB_ok (by simp [roomG,Nat.ble_eq];omega) ?_
          conv=>whnf
          repeat (refine⟨⟨_,rfl⟩,?_⟩;conv=>whnf)
          refine loop_wk mixed (I:=fun q l m=>∃ kk:Nat,q+kk=ns/\l= [(0,.int .i64 (R+2:Nat)),(1,.int .i64 t),(2,.vsl 1 n cap (bytesG f)),(3,.sl 0 0 ns cs),(4,.int .i64 whom),(11,.sl 1 0 (R+2) c),(14,.int .i64 k),(18,.int .i64 kk)] /\ m= [some ⟨1,Ns,intsG sp⟩,some ⟨26,R+2,dqI n f (DP n f (R+2) t w ns sp) k R t a1 a2 C1 C2⟩,some ⟨32,R+1,sealG (spS (sealS n f t k) w (parB sp k kk))⟩,some ⟨9,t+1,ptsG (comC n f k)⟩]) ns
            (l0:= [(0,.int .i64 (R+2:Nat)),(1,.int .i64 t),(2,.vsl 1 n cap (bytesG f)),(3,.sl 0 0 ns cs),(4,.int .i64 whom),(11,.sl 1 0 (R+2) c),(14,.int .i64 k),(18,.int .i64 (0:Nat))]) (m0:= [some ⟨1,Ns,intsG sp⟩,some ⟨26,R+2,dqI n f (DP n f (R+2) t w ns sp) k R t a1 a2 C1 C2⟩,some ⟨32,R+1,sealG (spS (sealS n f t k) w (parB sp k 0))⟩,some ⟨9,t+1,ptsG (comC n f k)⟩]) [some 0,some 1,some 5,some 6] ⟨0,rfl,rfl,rfl⟩ ?_ ?_
          · refine .mkN ⟨Flat.i rfl,Flat.i rfl,.eq _ _ rfl flat_bytesV,.sl _ _ _ _ _ rfl,Flat.i rfl,.sl _ _ _ _ _ rfl,Flat.i rfl,Flat.i rfl,trivial⟩ ⟨.old 0 0 _ _ rfl rfl ⟨rfl,Nat.le_refl _,fun i j hi hj=> .eq _ _ rfl (.int _ _)⟩,.old 1 1 _ _ rfl rfl ⟨rfl,Nat.le_refl _,fun i j hi hj=> ?_⟩,.old 2 5 _ _ rfl rfl ⟨rfl,Nat.le_refl _,fun i j hi hj=> .eq _ _ ?_ flat_sealG⟩,.old 3 6 _ _ rfl rfl ⟨rfl,Nat.le_refl _,fun i j hi hj=> .eq _ _ ?_ flat_ptsG⟩,trivial⟩ rfl rfl rfl
            · exact dqI_rv hj
            · show sealG S i j=sealG (spS (sealS n f t k) w false) i j
              rw [hS,spS_no]
            · show ptsG P i j=_
              rw [hP]
          · rintro q l m ⟨kk,hq,rfl,rfl⟩
            have e6:IntKind.i64.wrap ((kk:Int)+1)=((kk+1:Nat):Int):=by rw [w64 (by omega) (by omega)];omega
            conv=>whnf
            repeat (refine⟨⟨_,rfl⟩,?_⟩;conv=>whnf)
            refine condB_mk (fun hb2=> ?_) (fun hb2=> ?_)
            · have hb2:kk<ns:=by simp at hb2;omega
              conv=>whnf
              repeat (refine⟨⟨_,rfl⟩,?_⟩;conv=>whnf)
              refine condB_ok (by simp only [Bool.and_eq_true,decide_eq_true_eq];omega) ?_
              conv=>whnf
              repeat (refine⟨⟨_,rfl⟩,?_⟩;conv=>whnf)
              first
                | refine condB_ok (by simp [roomG,Nat.ble_eq];omega) ?_
                | skip
              conv=>whnf
              repeat (refine⟨⟨_,rfl⟩,?_⟩;conv=>whnf)
              refine condB_mk (fun hb3=> ?_) (fun hb3=> ?_)
              · have hb3:sp kk=(k:Int):=by simpa using hb3
                conv=>whnf
                repeat (refine⟨⟨_,rfl⟩,?_⟩;conv=>whnf)
                refine condB_yes (decide_eq_true (by omega)) ?_
                conv=>whnf
                repeat (refine⟨⟨_,rfl⟩,?_⟩;conv=>whnf)
                refine condB_ok (by simp only [Bool.and_eq_true,decide_eq_true_eq];omega) ?_
                conv=>whnf
                repeat (refine⟨⟨_,rfl⟩,?_⟩;conv=>whnf)
                rw [cell_I]
                conv=>whnf
                repeat (refine⟨⟨_,rfl⟩,?_⟩;conv=>whnf)
                refine condB_ok (by simp [roomG,Nat.ble_eq];omega) ?_
                conv=>whnf
                repeat (refine⟨⟨_,rfl⟩,?_⟩;conv=>whnf)
                refine condB_ok (by rw [e7,e8];rfl) ?_
                conv=>whnf
                repeat (refine⟨⟨_,rfl⟩,?_⟩;conv=>whnf)
                rw [hw]
                refine condB_ok (by simp only [Bool.and_eq_true,decide_eq_true_eq];omega) ?_
                conv=>whnf
                repeat (refine⟨⟨_,rfl⟩,?_⟩;conv=>whnf)
                refine condB_ok (by simp [roomG,Nat.ble_eq];omega) ?_
                conv=>whnf
                repeat (refine⟨⟨_,rfl⟩,?_⟩;conv=>whnf)
                refine condB_ok (by simp [roomG,Nat.ble_eq];omega) ?_
                conv=>whnf
                repeat (refine⟨⟨_,rfl⟩,?_⟩;conv=>whnf)
                refine condB_ok (by simp [roomG,Nat.ble_eq];omega) ?_
                conv=>whnf
                repeat (refine⟨⟨_,rfl⟩,?_⟩;conv=>whnf)
                refine⟨q - 1,[(0,.int .i64 (R+2:Nat)),(1,.int .i64 t),(2,.vsl 1 n cap (bytesG f)),(3,.sl 0 0 ns cs),(4,.int .i64 whom),(11,.sl 1 0 (R+2) c),(14,.int .i64 k),(18,.int .i64 ((kk+1:Nat):Int))],[some ⟨1,Ns,intsG sp⟩,some ⟨26,R+2,dqI n f (DP n f (R+2) t w ns sp) k R t a1 a2 C1 C2⟩,some ⟨32,R+1,sealG (spS (sealS n f t k) w (parB sp k (kk+1)))⟩,some ⟨9,t+1,ptsG (comC n f k)⟩],[some 0,some 1,some 2,some 3],by omega,⟨kk+1,by omega,rfl,rfl⟩,?_⟩
                refine .mkN ⟨Flat.i rfl,Flat.i rfl,.eq _ _ rfl flat_bytesV,.sl _ _ _ _ _ rfl,Flat.i rfl,.sl _ _ _ _ _ rfl,Flat.i rfl,Flat.i e6,trivial⟩ ⟨.old 0 0 _ _ rfl rfl ⟨rfl,Nat.le_refl _,fun i j hi hj=> .eq _ _ rfl (.int _ _)⟩,.old 1 1 _ _ rfl rfl ⟨rfl,Nat.le_refl _,fun i j hi hj=>dqI_self hj⟩,.old 2 2 _ _ rfl rfl ⟨rfl,Nat.le_refl _,fun i j hi hj=>RV.of ?_ (by dsimp only;exact flat_sealG)⟩,.old 3 3 _ _ rfl rfl ⟨rfl,Nat.le_refl _,fun i j hi hj=> .eq _ _ rfl flat_ptsG⟩,trivial⟩ rfl rfl rfl
                rw [parB_true hb3];exact sp_cell (n:=R+1) (S:=sealS n f t k) (w:=w) (b:=parB sp k kk) (i:=i) (j:=j) sealS_lt
              · have hb3:¬ sp kk=(k:Int):=by simpa using hb3
                conv=>whnf
                repeat (refine⟨⟨_,rfl⟩,?_⟩;conv=>whnf)
                refine⟨q - 1,[(0,.int .i64 (R+2:Nat)),(1,.int .i64 t),(2,.vsl 1 n cap (bytesG f)),(3,.sl 0 0 ns cs),(4,.int .i64 whom),(11,.sl 1 0 (R+2) c),(14,.int .i64 k),(18,.int .i64 ((kk+1:Nat):Int))],[some ⟨1,Ns,intsG sp⟩,some ⟨26,R+2,dqI n f (DP n f (R+2) t w ns sp) k R t a1 a2 C1 C2⟩,some ⟨32,R+1,sealG (spS (sealS n f t k) w (parB sp k (kk+1)))⟩,some ⟨9,t+1,ptsG (comC n f k)⟩],[some 0,some 1,some 2,some 3],by omega,⟨kk+1,by omega,rfl,rfl⟩,?_⟩
                refine .mkN ⟨Flat.i rfl,Flat.i rfl,.eq _ _ rfl flat_bytesV,.sl _ _ _ _ _ rfl,Flat.i rfl,.sl _ _ _ _ _ rfl,Flat.i rfl,Flat.i e6,trivial⟩ ⟨.old 0 0 _ _ rfl rfl ⟨rfl,Nat.le_refl _,fun i j hi hj=> .eq _ _ rfl (.int _ _)⟩,.old 1 1 _ _ rfl rfl ⟨rfl,Nat.le_refl _,fun i j hi hj=>dqI_self hj⟩,.old 2 2 _ _ rfl rfl ⟨rfl,Nat.le_refl _,fun i j hi hj=>RV.of ?_ (by dsimp only;exact flat_sealG)⟩,.old 3 3 _ _ rfl rfl ⟨rfl,Nat.le_refl _,fun i j hi hj=> .eq _ _ rfl flat_ptsG⟩,trivial⟩ rfl rfl rfl
                rw [parB_false hb3]
            · have hb2:kk=ns:=by simp at hb2;omega
              conv=>whnf
              repeat (refine⟨⟨_,rfl⟩,?_⟩;conv=>whnf)
              have hE:DP n f (R+2) t w ns sp k=D1 n f (R+2) t (spS (sealS n f t k) w (parB sp k kk)) (comC n f k) k:=by rw [hb2];rfl
              refine⟨q0 - 1,[(0,.int .i64 (R+2:Nat)),(1,.int .i64 t),(2,.vsl 1 n cap (bytesG f)),(3,.sl 0 0 ns cs),(4,.int .i64 whom),(11,.sl 1 0 (R+2) c),(14,.int .i64 ((k+1:Nat):Int))],[some ⟨1,Ns,intsG sp⟩,some ⟨26,R+2,dqG n f (DP n f (R+2) t w ns sp) (k+1) (fun i=>if i=k then a1 else C1 i) (fun i=>if i=k then a2 else C2 i)⟩,none,none],[some ⟨1,Ns,intsG sp⟩,some ⟨26,R+2,dqG n f (DP n f (R+2) t w ns sp) (k+1) (fun i=>if i=k then a1 else C1 i) (fun i=>if i=k then a2 else C2 i)⟩],[some 0,some 1],by omega,⟨k+1,c,_,_,by omega,rfl,rfl⟩,?_,?_⟩
              · refine .step 2 _ _ [some ⟨1,Ns,intsG sp⟩,some ⟨26,R+2,dqJ n f (DP n f (R+2) t w ns sp) k t a1 a2 C1 C2⟩,none,some ⟨9,t+1,ptsG (comC n f k)⟩] _ rfl (.c (.inr ⟨by decide,_,_,rfl,rfl,rfl,Nat.le_refl _,fun i j _ _=> .inl rfl⟩) (.c (.inr ⟨by decide,_,_,rfl,rfl,rfl,Nat.le_refl _,fun i j hi hj=>fz_c hE hj⟩) (.c (.inl rfl) (.c (.inr ⟨by decide,_,_,rfl,rfl,rfl,Nat.le_refl _,fun i j _ _=> .inl rfl⟩) .n)))) ?_
                exact .step 3 _ _ [some ⟨1,Ns,intsG sp⟩,some ⟨26,R+2,dqG n f (DP n f (R+2) t w ns sp) (k+1) (fun i=>if i=k then a1 else C1 i) (fun i=>if i=k then a2 else C2 i)⟩,none,none] _ rfl (.c (.inr ⟨by decide,_,_,rfl,rfl,rfl,Nat.le_refl _,fun i j _ _=> .inl rfl⟩) (.c (.inr ⟨by decide,_,_,rfl,rfl,rfl,Nat.le_refl _,fun i j hi hj=>fz_d hE hj⟩) (.c (.inl rfl) (.c (.inl rfl) .n)))) (.refl _)
              · exact .mkN ⟨Flat.i rfl,Flat.i rfl,.eq _ _ rfl flat_bytesV,.sl _ _ _ _ _ rfl,Flat.i rfl,.sl _ _ _ _ _ rfl,Flat.i e5,trivial⟩ ⟨.old 0 0 _ _ rfl rfl ⟨rfl,Nat.le_refl _,fun i j hi hj=> .eq _ _ rfl (.int _ _)⟩,.old 1 1 _ _ rfl rfl ⟨rfl,Nat.le_refl _,fun i j hi hj=>RV.of rfl (by dsimp only;exact flat_dqG)⟩,trivial⟩ rfl rfl rfl
        · have hb:k=R+2:=by simp at hb;omega
          subst hb
          conv=>whnf
          repeat (refine⟨⟨_,rfl⟩,?_⟩;conv=>whnf)
          exact⟨rfl,1,c,C1,C2,Nat.le_refl _,rfl,rfl⟩
end Go.Proofs.YtfolpdmbpbbimaaGreat
end

section
namespace Go.Proofs.YtfolpdmbpbbimaaGreat
open Go Go.Wit
theorem dqG_all {n r i j:Nat} {f:Nat->Int} {E:Nat->Dl} {C1 C2:Nat->Nat} (hi:i<r):dqG n f E r C1 C2 i j=dlG E C1 C2 i j:=if_pos hi
theorem S_PostedW {m:Mem} {K:AV->Mem->Prop} {R t n cap ns cs w l0 Ns:Nat} {f sp:Nat->Int} {g:Nat->Nat->AV} {whom:Int} {v0 v1:AV} (hv0:v0= .int .i64 (R+2:Nat)) (hv1:v1= .int .i64 t) (hl0:m[l0]? = some (some ⟨1,Ns,g⟩)) (hg:∀ i,i<Ns->g i 0= .int .i64 (sp i)) (hNs:ns<=Ns) (hR:R<=2) (ht:t<64) (hn:n<=100) (hns:ns<=1000) (hf:∀ i,i<n->0<=f i/\f i<=255)
    (hw:IntKind.i64.wrap ((IntKind.u64.wrap whom).tmod (IntKind.u64.wrap (IntKind.i64.wrap (((R+2:Nat):Int) - 1))))=w) (hwR:w<R+1)
    (h:∀ c C1 C2,memK (m++ [some ⟨26,R+2,dlG (DP n f (R+2) t w ns sp) C1 C2⟩]) (K (.sl m.length 0 (R+2) c))):ACall Pg F_witanlaw14_Posted [v0,v1,.vsl 1 n cap (bytesG f),.sl l0 0 ns cs,.int .i64 whom] m K:=by
  subst hv0 hv1
  simp only [memK_eq]at h
  have hlt:=lt_of_get hl0
  have hb0:∀ i j,i<Ns->j<1->g i j=intsG sp i j:=fun i j hi hj=>by
    obtain rfl:j=0:=by omega
    exact hg i hi
  have hg1:∀ {i q:Nat},[some l0].getD i none=some q->i=0/\q=l0:=fun {i q} h=>by
    match i,h with
    | 0,h=>exact ⟨rfl,by simpa using h.symm⟩
    | i+1,h=>simp at h
  refine(S_PostedO R t n cap ns Ns cs w f sp whom hNs hR ht hn hns hf hw hwR).frame false [some l0] [] (fun _=>rfl) (.cons _ _ _ _ (.rv _ _ (.eq _ _ rfl (.int _ _))) (.cons _ _ _ _ (.rv _ _ (.eq _ _ rfl (.int _ _))) (.cons _ _ _ _ (.rv _ _ (.eq _ _ rfl flat_bytesV)) (.cons _ _ _ _ (.rv _ _ (.sl _ _ _ _ _ rfl)) (.cons _ _ _ _ (.rv _ _ (.eq _ _ rfl (.int _ _))) .nil))))) ⟨.old 0 l0 _ _ rfl hl0 ⟨rfl,Nat.le_refl _,fun i j hi hj=>RV.of (hb0 i j hi hj) (.int _ _)⟩,trivial⟩ rfl (fun i j q g1 g2=>by rw [(hg1 g1).1,(hg1 g2).1]) (fun q hq=>by cases hq) ?_
  rintro v m' ⟨k0,l,c,C1,C2,hl,rfl,hb⟩
  have ht:∀ {q r:Nat},(if q=l0 then some 0 else if q=m.length then some l else none)=some r->(q=l0/\r=0)\/(q=m.length/\1<=r/\r=l):=by
    intro q r hq
    by_cases h:q=l0
    · rw [if_pos h]at hq;exact .inl ⟨h,(Option.some.inj hq).symm⟩
    · rw [if_neg h]at hq
      by_cases h'':q=m.length
      · rw [if_pos h'']at hq;obtain rfl:=Option.some.inj hq;exact .inr ⟨h'',hl,rfl⟩
      · rw [if_neg h'']at hq;cases hq
  refine⟨.sl m.length 0 (R+2) c,m++ [some ⟨26,R+2,dlG (DP n f (R+2) t w ns sp) C1 C2⟩],fun q=>if q=l0 then some 0 else if q=m.length then some l else none,⟨by simp,fun q r hq=> ?_,fun q q' r hq hq'=> ?_,fun q r hlt' hq=> ?_,fun q b hq=> ?_⟩,.sl _ _ _ _ _ (by rw [if_neg (by omega),if_pos rfl]),h c C1 C2⟩
  · rw [List.length_append]
    rcases ht hq with⟨rfl,_⟩ | ⟨rfl,_⟩
    · omega
    · simp
  · rcases ht hq with⟨rfl,rfl⟩ | ⟨rfl,e,_⟩ <;> rcases ht hq' with⟨rfl,e'⟩ | ⟨rfl,e',_⟩
    all_goals first
      | rfl
      | (exfalso;omega)
  · rcases ht hq with⟨rfl,rfl⟩ | ⟨rfl,e,_⟩
    · exact⟨by simp,rfl⟩
    · exact absurd hlt' (Nat.lt_irrefl _)
  · by_cases hqm:q<m.length
    · rw [List.getElem?_append_left hqm]at hq
      by_cases hql:q=l0
      · subst hql
        rw [hl0]at hq
        obtain rfl:=Option.some.inj (Option.some.inj hq)
        exact .inr (.inl ⟨0,_,if_pos rfl,k0,rfl,Nat.le_refl _,fun i j hi hj=> .eq _ _ (hb0 i j hi hj).symm (.int _ _)⟩)
      · refine .inl ⟨by rw [if_neg hql,if_neg (by omega)],hq,fun i hi=>hql (hg1 hi).2⟩
    · rw [List.getElem?_append_right (by omega)]at hq
      have hqe:q=m.length:=by
        rcases Nat.lt_or_ge (q - m.length) 1 with g | g
        · omega
        · rw [List.getElem?_eq_none (by simpa using g)]at hq;cases hq
      subst hqe
      rw [Nat.sub_self]at hq
      obtain rfl:=Option.some.inj (Option.some.inj hq)
      exact .inr (.inl ⟨l,_,by rw [if_neg (by omega),if_pos rfl],hb,rfl,Nat.le_refl _,fun i j hi hj=>RV.of (dqG_all hi) (by dsimp only;exact flat_dlG)⟩)
end Go.Proofs.YtfolpdmbpbbimaaGreat
end

section
namespace Go.Proofs.YtfolpdmbpbbimaaGreat
open Go Go.Wit
theorem nmul_G_inj {a b:Nat} (ha:a<nN) (hb:b<nN) (h:nmul a gG=nmul b gG):a=b:=by
  have h1:nmul (a+(nN - b)) gG= .inf:=by
    rw [nmul_add crvP on_G,h,<- nmul_add crvP on_G,show b+(nN - b)=nN by omega,<- nmul_mod,Nat.mod_self];rfl
  obtain⟨k,hk⟩:=nmul_G_inf h1
  have hk1:k=1:=by
    rcases Nat.lt_or_ge k 1 with g | g
    · obtain rfl:k=0:=by omega
      omega
    · rcases Nat.lt_or_ge 1 k with g' | g'
      · have:=Nat.mul_le_mul_left nN (show 2<=k from g')
        omega
      · omega
  subst hk1
  omega
theorem tn_tn {P:Pt Fp} {a b:Int} {f:Nat->Int} {i:Nat} (hf:0<=f i/\f i<=255):tnF P a b (tnF P a b f) i=f i:=xorB_xorB1 hf (stF_lt i)
theorem oth_pl {i j:Nat} (h1:1<=i) (h2:1<=j) (hij:i ≠ j):othN i (plN i j).toNat=j:=by
  unfold othN plN
  by_cases h:(j:Int)<i
  · rw [if_pos h,if_pos (by omega)];omega
  · rw [if_neg h,if_neg (by omega)];omega
noncomputable def yS (n:Nat) (f:Nat->Int) (t i j:Nat):Nat:=sumN (coN (n+1) (sdF n f (i - 1))) j (t+1) % nN
noncomputable def KS (n:Nat) (f:Nat->Int) (i j:Nat):Pt Fp:=nmul (secN (n+1) (sdF n f (j - 1))) (PK n f (i - 1))
theorem KS_sym {n i j:Nat} {f:Nat->Int}:KS n f i j=KS n f j i:=by
  unfold KS PK
  rw [<- nmul_mul crvP on_G,<- nmul_mul crvP on_G,Nat.mul_comm]
theorem KS_on {n i j:Nat} {f:Nat->Int}:On (KS n f i j):=PK_on.nmul crvP _
theorem seal_at {n t i j:Nat} {f:Nat->Int} (h1:1<=i) (h2:1<=j) (hij:i ≠ j):sealS n f t (i - 1) (plN i j).toNat=tnF (KS n f i j) i j (byteZ (yS n f t i j)):=by
  unfold sealS
  rw [show i - 1+1=i by omega,oth_pl h1 h2 hij]
  show tnF (KS n f j i) _ _ _=_
  rw [KS_sym]
  rfl
theorem yS_lt {n t i j:Nat} {f:Nat->Int}:yS n f t i j<nN:=Nat.mod_lt _ (by decide)
theorem xor1_ne {a:Int} (ha:0<=a/\a<=255):xorB a 1 ≠ a:=by
  obtain⟨A,rfl,hA⟩:=byte_nat ha
  rw [show (1:Int)=((1:Nat):Int)from rfl,xorB_key hA (by decide)]
  intro h
  have h1:A ^^^ 1=A:=by exact_mod_cast h
  have h2:A ^^^ (A ^^^ 1)=A ^^^ A:=by rw [h1]
  rw [<- Nat.xor_assoc,Nat.xor_self,Nat.zero_xor]at h2
  cases h2
theorem fitV_good {R n t w ns i j:Nat} {f sp:Nat->Int} (h1:1<=i) (h2:1<=j) (hij:i ≠ j) (hb:¬ (parB sp (i - 1) ns=true/\(plN i j).toNat=w)):fitV (DP n f (R+2) t w ns sp) i j (KS n f i j)=yS n f t i j:=by
  unfold fitV
  refine ofZ_byteZ (Nat.lt_trans yS_lt (by decide)) fun b hb32=> ?_
  have e:(DP n f (R+2) t w ns sp ((i:Int).toNat - 1)).S (plN i j).toNat=tnF (KS n f i j) i j (byteZ (yS n f t i j)):=by
    show spS (sealS n f t (i - 1)) w (parB sp (i - 1) ns) (plN i j).toNat=_
    rw [<- seal_at h1 h2 hij]
    funext b
    unfold spS
    exact if_neg fun h=>hb ⟨h.1,h.2.1⟩
  rw [e]
  exact tn_tn (byteZ_lt _ _)
theorem fitV_bad {R n t w ns i j:Nat} {f sp:Nat->Int} (h1:1<=i) (h2:1<=j) (hij:i ≠ j) (hb:parB sp (i - 1) ns=true/\(plN i j).toNat=w):fitV (DP n f (R+2) t w ns sp) i j (KS n f i j) ≠ yS n f t i j:=by
  unfold fitV
  intro h
  have hl:∀ b,b<32->0<=tnF (KS n f i j) i j ((DP n f (R+2) t w ns sp ((i:Int).toNat - 1)).S (plN i j).toNat) b/\tnF (KS n f i j) i j ((DP n f (R+2) t w ns sp ((i:Int).toNat - 1)).S (plN i j).toNat) b<=255:=fun b _=>xorB_lt _ _
  have g:=byteZ_ofZ hl (show 31<32 by decide)
  rw [h]at g
  have e:(DP n f (R+2) t w ns sp ((i:Int).toNat - 1)).S (plN i j).toNat 31=xorB (tnF (KS n f i j) i j (byteZ (yS n f t i j)) 31) 1:=by
    show spS (sealS n f t (i - 1)) w (parB sp (i - 1) ns) (plN i j).toNat 31=_
    rw [<- seal_at h1 h2 hij]
    unfold spS
    exact if_pos ⟨hb.1,hb.2,rfl⟩
  have g2:tnF (KS n f i j) i j ((DP n f (R+2) t w ns sp ((i:Int).toNat - 1)).S (plN i j).toNat) 31=xorB (byteZ (yS n f t i j) 31) 1:=by
    show xorB ((DP n f (R+2) t w ns sp ((i:Int).toNat - 1)).S (plN i j).toNat 31) _=_
    rw [e]
    exact xorB_swap (byteZ_lt _ _) (stF_lt _) ⟨by decide,by decide⟩
  rw [g2]at g
  exact xor1_ne (byteZ_lt _ _) g.symm
theorem cm_DP {n r t w ns i:Nat} {f sp:Nat->Int}:cmP (DP n f r t w ns sp i)=comC n f i:=by
  funext k
  exact rawP_eq (on_G.nmul crvP _) rfl
theorem poly_yS {n t i j:Nat} {f:Nat->Int}:polyP (comC n f (i - 1)) j (t+1)=nmul (yS n f t i j) gG:=by
  unfold yS comC
  rw [polyP_sum,nmul_mod]
theorem fits_iff {R n t w ns i j:Nat} {f sp:Nat->Int} (h1:1<=i) (h2:1<=j) (hij:i ≠ j):
    (fitV (DP n f (R+2) t w ns sp) i j (KS n f i j)<nN/\nmul (fitV (DP n f (R+2) t w ns sp) i j (KS n f i j)) gG=polyP (cmP (DP n f (R+2) t w ns sp (i - 1))) j (t+1)) ↔ ¬ (parB sp (i - 1) ns=true/\(plN i j).toNat=w):=by
  rw [cm_DP,poly_yS]
  constructor
  · intro h hb
    exact fitV_bad h1 h2 hij hb (nmul_G_inj h.1 yS_lt h.2)
  · intro hb
    rw [fitV_good h1 h2 hij hb]
    exact⟨yS_lt,rfl⟩
theorem ok_DP {n r t w ns k:Nat} {f sp:Nat->Int} (hr:r<=1000) (ht:t<=1000):OkD (DP n f r t w ns sp k):=by
  refine⟨xN_w _,yN_w _,show 0<w256 by decide,show 0<w256 by decide,fun k _=>xN_w _,fun k _=>yN_w _,fun q _ b _=> ?_,?_,?_⟩
  · show 0<=spS (sealS n f t k) w (parB sp k ns) q b/\spS (sealS n f t k) w (parB sp k ns) q b<=255
    unfold spS
    split
    · exact xorB_lt _ _
    · exact sealS_lt _ _
  · show r - 1<=1000000;omega
  · show t+1<=1000000;omega
theorem has_DP {R n t w ns i j:Nat} {f sp:Nat->Int} (h1:1<=i) (h2:1<=j) (hij:i ≠ j) (hi:i<=R+2) (hj:j<=R+2) (ht:t<64):hasP (R+2) (DP n f (R+2) t w ns sp) i j:=by
  refine⟨by omega,by omega,rfl,?_,?_,fun k _=>⟨comC n f _ k,on_G.nmul crvP _,rfl⟩⟩
  · show plN i j<((R+2 - 1:Nat):Int)
    unfold plN
    split <;> omega
  · show t+1<=64;omega
theorem pl_ok {R i j:Nat} (h1:1<=i) (h2:1<=j) (hij:i ≠ j) (hi:i<=R+2) (hj:j<=R+2) (hR:R<=2):plOk i j=true:=by
  simp only [plOk,isD,Bool.and_eq_true,decide_eq_true_eq,Bool.not_eq_true',beq_eq_false_iff_ne,ne_eq]
  omega
theorem fit_DP {R n t w ns i j:Nat} {f sp:Nat->Int} {b:Bool} {e:Int} (h1:1<=i) (h2:1<=j) (hij:i ≠ j) (hi:i<=R+2) (hj:j<=R+2) (hR:R<=2) (ht:t<64) (h:FitE (R+2) (DP n f (R+2) t w ns sp) i j (isI (KS n f i j)) (xN (KS n f i j)) (yN (KS n f i j)) b e):
    e=0/\b= !(parB sp (i - 1) ns && decide ((plN i j).toNat=w)):=by
  have hok:=pl_ok h1 h2 hij hi hj hR
  have hh:=has_DP (n:=n) (f:=f) (sp:=sp) (w:=w) (ns:=ns) h1 h2 hij hi hj ht
  rcases h with⟨g1,_⟩ | ⟨_,g2,_⟩ | ⟨_,_,g3,_⟩ | ⟨_,_,K,oK,eK,he,hb⟩
  · rw [hok]at g1;cases g1
  · exact absurd hh g2
  · exact absurd rfl (g3 _ KS_on)
  · obtain rfl:KS n f i j=K:=ptA_inj eK
    refine⟨he,?_⟩
    have hb':b=true ↔ ¬ (parB sp (i - 1) ns=true/\(plN i j).toNat=w):=hb.trans (fits_iff h1 h2 hij)
    cases hp:parB sp (i - 1) ns with
    | false=>rw [hb'.2 (fun x=>by rw [hp]at x;cases x.1)];rfl
    | true =>
      by_cases hw:(plN i j).toNat=w
      · rw [decide_eq_true hw]
        cases b with
        | false=>rfl
        | true=>exact absurd ⟨hp,hw⟩ (hb'.1 rfl)
      · rw [hb'.2 (fun x=>hw x.2),decide_eq_false hw];rfl
theorem ver_DP {R n t w ns i j c s:Nat} {f sp:Nat->Int} {e:Int} (h1:1<=i) (h2:1<=j) (hij:i ≠ j) (hi:i<=R+2) (hj:j<=R+2) (hR:R<=2) (ht:t<64) (hc:hoB (PK n f (j - 1)) (PK n f (i - 1)) (KS n f i j) c s=true)
    (h:VerE (R+2) (DP n f (R+2) t w ns sp) i j (isI (KS n f i j)) (xN (KS n f i j)) (yN (KS n f i j)) c s e):e=if (parB sp (i - 1) ns && decide ((plN i j).toNat=w))=true then 0 else 13:=by
  obtain⟨b,e0,hf,h⟩:=h
  obtain⟨rfl,rfl⟩:=fit_DP h1 h2 hij hi hj hR ht hf
  rcases h with⟨g1,_⟩ | ⟨_,g2,_⟩ | ⟨_,A,B,P,oA,oB,oP,eA,eB,eP,g⟩
  · exact absurd rfl g1
  · rcases g2 with g2 | g2
    · exact absurd rfl (g2 _ PK_on)
    · exact absurd rfl (g2 _ PK_on)
  · obtain rfl:PK n f (i - 1)=A:=ptA_inj eA
    obtain rfl:PK n f (j - 1)=B:=ptA_inj eB
    obtain rfl:KS n f i j=P:=ptA_inj eP
    rw [g,if_pos hc]
    cases (parB sp (i - 1) ns && decide ((plN i j).toNat=w)) <;> rfl
theorem ver_no {R n t w ns i j c s:Nat} {f sp:Nat->Int} {e:Int} (h1:1<=i) (h2:1<=j) (hij:i ≠ j) (hi:i<=R+2) (hj:j<=R+2) (hR:R<=2) (ht:t<64) (hc:hoB (PK n f (j - 1)) (PK n f (i - 1)) (KS n f i j) c s=false)
    (h:VerE (R+2) (DP n f (R+2) t w ns sp) i j (isI (KS n f i j)) (xN (KS n f i j)) (yN (KS n f i j)) c s e):e=12:=by
  obtain⟨b,e0,hf,h⟩:=h
  obtain⟨rfl,rfl⟩:=fit_DP h1 h2 hij hi hj hR ht hf
  rcases h with⟨g1,_⟩ | ⟨_,g2,_⟩ | ⟨_,A,B,P,oA,oB,oP,eA,eB,eP,g⟩
  · exact absurd rfl g1
  · rcases g2 with g2 | g2
    · exact absurd rfl (g2 _ PK_on)
    · exact absurd rfl (g2 _ PK_on)
  · obtain rfl:PK n f (i - 1)=A:=ptA_inj eA
    obtain rfl:PK n f (j - 1)=B:=ptA_inj eB
    obtain rfl:KS n f i j=P:=ptA_inj eP
    rw [g,hc];rfl
theorem ver_arg {r c s kx ky:Nat} {ki:Bool} {D:Nat->Dl} {i j e:Int} (hp:plOk i j=false) (h:VerE r D i j ki kx ky c s e):e=1:=by
  obtain⟨b,e0,hf,h⟩:=h
  have h0:e0=1:=by
    rcases hf with⟨_,_,he⟩ | ⟨g,_⟩ | ⟨g,_⟩ | ⟨g,_⟩
    · exact he
    all_goals (rw [hp]at g;cases g)
  subst h0
  rcases h with⟨_,g⟩ | ⟨g,_⟩ | ⟨g,_⟩
  · exact g
  all_goals cases g
theorem ver_none {r c s kx ky:Nat} {ki:Bool} {D:Nat->Dl} {i j e:Int} (hp:plOk i j=true) (hn:¬ hasP r D i j) (h:VerE r D i j ki kx ky c s e):e=5:=by
  obtain⟨b,e0,hf,h⟩:=h
  have h0:e0=5:=by
    rcases hf with⟨g,_⟩ | ⟨_,_,_,he⟩ | ⟨_,g,_⟩ | ⟨_,g,_⟩
    · rw [hp]at g;cases g
    · exact he
    all_goals exact absurd g hn
  subst h0
  rcases h with⟨_,g⟩ | ⟨g,_⟩ | ⟨g,_⟩
  · exact g
  all_goals cases g
theorem ver_point {r c s kx ky:Nat} {ki:Bool} {D:Nat->Dl} {i j e:Int} (hp:plOk i j=true) (hn:hasP r D i j) (hb:Bad ki kx ky) (h:VerE r D i j ki kx ky c s e):e=3:=by
  obtain⟨b,e0,hf,h⟩:=h
  have h0:e0=3:=by
    rcases hf with⟨g,_⟩ | ⟨_,g,_⟩ | ⟨_,_,_,_,he⟩ | ⟨_,_,K,oK,eK,_⟩
    · rw [hp]at g;cases g
    · exact absurd hn g
    · exact he
    · exact absurd eK (hb K oK)
  subst h0
  rcases h with⟨_,g⟩ | ⟨g,_⟩ | ⟨g,_⟩
  · exact g
  all_goals cases g
theorem hoB_big {a b k:Pt Fp} {c r:Nat} (h:nN<=c):hoB a b k c r=false:=by
  unfold hoB
  rw [decide_eq_false (p:=c<nN) (by omega)];rfl
end Go.Proofs.YtfolpdmbpbbimaaGreat
end

section
namespace Go.Proofs.YtfolpdmbpbbimaaGreat
open Go Go.Wit
theorem S_wakes14 {m:Mem} {K:AV->Mem->Prop} (h:K (.bool true) m):ACall Pg F_witanlaw14_wakes [] m K:=by
  have h0:ACall Pg F_witanlaw14_wakes [] [] (fun v _=>v= .bool true/\Flat true v):=by
    refine B_witanlaw14_wakes ⟨rfl,?_⟩
    conv=>whnf
    repeat (refine⟨⟨_,rfl⟩,?_⟩;conv=>whnf)
    refine S_Place (fun _ p hp=> ?_) (fun h=>absurd h (by decide))
    conv=>whnf
    repeat (refine⟨⟨_,rfl⟩,?_⟩;conv=>whnf)
    refine S_Place (fun _ q hq=> ?_) (fun h=>absurd h (by decide))
    conv=>whnf
    repeat (refine⟨⟨_,rfl⟩,?_⟩;conv=>whnf)
    refine S_Place (fun h=>absurd h (by decide)) (fun _=> ?_)
    have hp:p=0:=by rw [hp];decide
    have hq:q=1:=by rw [hq];decide
    subst hp hq
    conv=>whnf
    repeat (refine⟨⟨_,rfl⟩,?_⟩;conv=>whnf)
    exact⟨rfl,.bool _⟩
  refine lift_flat h0 .nil ?_
  rintro v rfl
  exact h
end Go.Proofs.YtfolpdmbpbbimaaGreat
end

section
namespace Go.Proofs.YtfolpdmbpbbimaaGreat
open Go Go.Wit
theorem modR (a:Int) (R:Nat) (hR:R<=2):∃ w:Nat,w<R+1/\IntKind.i64.wrap ((IntKind.u64.wrap a).tmod (IntKind.u64.wrap (IntKind.i64.wrap (((R+2:Nat):Int) - 1))))=(w:Int):=by
  have h:0<=IntKind.u64.wrap a:=by rw [IntKind.wrap_u64];omega
  have e7:IntKind.u64.wrap (IntKind.i64.wrap (((R+2:Nat):Int) - 1))=((R+1:Nat):Int):=by
    have:R=0\/R=1\/R=2:=by omega
    rcases this with rfl | rfl | rfl <;> decide
  rw [e7]
  have g1:0<=IntKind.u64.wrap a % ((R+1:Nat):Int):=Int.emod_nonneg _ (by omega)
  have g2:IntKind.u64.wrap a % ((R+1:Nat):Int)<((R+1:Nat):Int):=Int.emod_lt_of_pos _ (by omega)
  refine⟨((IntKind.u64.wrap a).tmod ((R+1:Nat):Int)).toNat,?_,?_⟩
  · rw [Int.tmod_eq_emod_of_nonneg h];omega
  · rw [Int.tmod_eq_emod_of_nonneg h,w64 (by omega) (by omega)];omega
end Go.Proofs.YtfolpdmbpbbimaaGreat
end

