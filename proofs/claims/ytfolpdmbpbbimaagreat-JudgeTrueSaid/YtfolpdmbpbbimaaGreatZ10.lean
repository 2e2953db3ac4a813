/- Texts of a proof, one behind the other; the last of these: Dealers of an own block, made twice; no condition. -/
import Derived.Test.YtfolpdmbpbbimaaGreatZ9
set_option linter.unusedVariables false
set_option linter.unusedSimpArgs false
set_option maxRecDepth 100000
section
namespace Go.Proofs.YtfolpdmbpbbimaaGreat
open Go Go.Wit
theorem dqG_all {n r i j:Nat} {f:Nat->Int} {E:Nat->Dl} {C1 C2:Nat->Nat} (hi:i<r):dqG n f E r C1 C2 i j=dlG E C1 C2 i j:=if_pos hi
theorem S_Posted {m:Mem} {K:AV->Mem->Prop} {R t n cap ns cs w:Nat} {f sp:Nat->Int} {whom:Int} {v0 v1:AV} (hv0:v0= .int .i64 (R+2:Nat)) (hv1:v1= .int .i64 t) (hR:R<=2) (ht:t<64) (hn:n<=100) (hns:ns<=1000) (hf:∀ i,i<n->0<=f i/\f i<=255)
    (hw:IntKind.i64.wrap ((IntKind.u64.wrap whom).tmod (IntKind.u64.wrap (IntKind.i64.wrap (((R+2:Nat):Int) - 1))))=w) (hwR:w<R+1)
    (h:∀ c C1 C2,memK (m++ [some ⟨26,R+2,dlG (DP n f (R+2) t w ns sp) C1 C2⟩]) (K (.sl m.length 0 (R+2) c))):ACall Pg F_witanlaw14_Posted [v0,v1,.vsl 1 n cap (bytesG f),.vsl 1 ns cs (intsG sp),.int .i64 whom] m K:=by
  subst hv0 hv1
  simp only [memK_eq]at h
  have h0:∀ i q,([none] :List (Option Nat)).getD i none ≠ some q:=fun i q hq=>by
    match i,hq with
    | 0,hq=>cases hq
    | i+1,hq=>simp at hq
  refine(S_PostedV R t n cap ns cs w f sp whom hR ht hn hns hf hw hwR).frame false [none] [] (fun _=>rfl) (.cons _ _ _ _ (.rv _ _ (.eq _ _ rfl (.int _ _))) (.cons _ _ _ _ (.rv _ _ (.eq _ _ rfl (.int _ _))) (.cons _ _ _ _ (.rv _ _ (.eq _ _ rfl flat_bytesV)) (.cons _ _ _ _ (.rv _ _ (.eq _ _ rfl (.vsl _ _ _ _ rfl fun _ _ _ _=> .int _ _))) (.cons _ _ _ _ (.rv _ _ (.eq _ _ rfl (.int _ _))) .nil))))) ⟨.dead _,trivial⟩ rfl (fun i j q g1 g2=>absurd g1 (h0 i q)) (fun q hq=>by cases hq) ?_
  rintro v m' ⟨k0,l,c,C1,C2,hl,rfl,hb⟩
  have ht:∀ {q r:Nat},(if q=m.length then some l else none)=some r->q=m.length/\r=l:=by
    intro q r hq
    by_cases g:q=m.length
    · rw [if_pos g]at hq;exact⟨g,(Option.some.inj hq).symm⟩
    · rw [if_neg g]at hq;cases hq
  refine⟨.sl m.length 0 (R+2) c,m++ [some ⟨26,R+2,dlG (DP n f (R+2) t w ns sp) C1 C2⟩],fun q=>if q=m.length then some l else none,⟨by simp,fun q r hq=> ?_,fun q q' r hq hq'=> ?_,fun q r hlt hq=> ?_,fun q b hq=> ?_⟩,.sl _ _ _ _ _ (if_pos rfl),h c C1 C2⟩
  · rw [(ht hq).1];simp
  · rw [(ht hq).1,(ht hq').1]
  · exact absurd hlt (by rw [(ht hq).1];exact Nat.lt_irrefl _)
  · by_cases hqm:q<m.length
    · refine .inl ⟨if_neg (by omega),?_,fun i=>h0 i q⟩
      rw [List.getElem?_append_left hqm]at hq;exact hq
    · have hq2:q=m.length:=by
        have:=(List.getElem?_eq_some_iff.1 hq).1
        simp at this;omega
      subst hq2
      simp at hq
      subst hq
      exact .inr (.inl ⟨l,_,if_pos rfl,hb,rfl,Nat.le_refl _,fun i j hi hj=>RV.of (dqG_all hi) (by dsimp only;exact flat_dlG)⟩)
theorem S_PostedW {m:Mem} {K:AV->Mem->Prop} {R t n cap ns cs w l0 Ns:Nat} {f sp:Nat->Int} {g:Nat->Nat->AV} {whom:Int} {v0 v1:AV} (hv0:v0= .int .i64 (R+2:Nat)) (hv1:v1= .int .i64 t) (hl0:m[l0]? = some (some ⟨1,Ns,g⟩)) (hg:∀ i,i<Ns->g i 0= .int .i64 (sp i)) (hNs:ns<=Ns) (hR:R<=2) (ht:t<64) (hn:n<=100) (hns:ns<=1000) (hf:∀ i,i<n->0<=f i/\f i<=255)
    (hw:IntKind.i64.wrap ((IntKind.u64.wrap whom).tmod (IntKind.u64.wrap (IntKind.i64.wrap (((R+2:Nat):Int) - 1))))=w) (hwR:w<R+1)
    (h:∀ c C1 C2,memK (m++ [some ⟨26,R+2,dlG (DP n f (R+2) t w ns sp) C1 C2⟩]) (K (.sl m.length 0 (R+2) c))):ACall Pg F_witanlaw14_Posted [v0,v1,.vsl 1 n cap (bytesG f),.sl l0 0 ns cs,.int .i64 whom] m K:=by
  subst hv0 hv1
  simp only [memK_eq]at h
  have hlt:=lt_of_get hl0
  have hb0:∀ i j,i<Ns->j<1->g i j=intsG sp i j:=fun i j hi hj=>by
    obtain rfl:j=0:=by omega
    exact hg i hi
  have hg1:∀ {i q:Nat},[some l0].getD i none=some q->i=0/\q=l0:=fun {i q} h=>by
    match i,h with
    | 0,h=>exact ⟨rfl,by simpa using h.symm⟩
    | i+1,h=>simp at h
  refine(S_PostedO R t n cap ns Ns cs w f sp whom hNs hR ht hn hns hf hw hwR).frame false [some l0] [] (fun _=>rfl) (.cons _ _ _ _ (.rv _ _ (.eq _ _ rfl (.int _ _))) (.cons _ _ _ _ (.rv _ _ (.eq _ _ rfl (.int _ _))) (.cons _ _ _ _ (.rv _ _ (.eq _ _ rfl flat_bytesV)) (.cons _ _ _ _ (.rv _ _ (.sl _ _ _ _ _ rfl)) (.cons _ _ _ _ (.rv _ _ (.eq _ _ rfl (.int _ _))) .nil))))) ⟨.old 0 l0 _ _ rfl hl0 ⟨rfl,Nat.le_refl _,fun i j hi hj=>RV.of (hb0 i j hi hj) (.int _ _)⟩,trivial⟩ rfl (fun i j q g1 g2=>by rw [(hg1 g1).1,(hg1 g2).1]) (fun q hq=>by cases hq) ?_
  rintro v m' ⟨k0,l,c,C1,C2,hl,rfl,hb⟩
  have ht:∀ {q r:Nat},(if q=l0 then some 0 else if q=m.length then some l else none)=some r->(q=l0/\r=0)\/(q=m.length/\1<=r/\r=l):=by
    intro q r hq
    by_cases h:q=l0
    · rw [if_pos h]at hq;exact .inl ⟨h,(Option.some.inj hq).symm⟩
    · rw [if_neg h]at hq
      by_cases h'':q=m.length
      · rw [if_pos h'']at hq;obtain rfl:=Option.some.inj hq;exact .inr ⟨h'',hl,rfl⟩
      · rw [if_neg h'']at hq;cases hq
  refine⟨.sl m.length 0 (R+2) c,m++ [some ⟨26,R+2,dlG (DP n f (R+2) t w ns sp) C1 C2⟩],fun q=>if q=l0 then some 0 else if q=m.length then some l else none,⟨by simp,fun q r hq=> ?_,fun q q' r hq hq'=> ?_,fun q r hlt' hq=> ?_,fun q b hq=> ?_⟩,.sl _ _ _ _ _ (by rw [if_neg (by omega),if_pos rfl]),h c C1 C2⟩
  · rw [List.length_append]
    rcases ht hq with⟨rfl,_⟩ | ⟨rfl,_⟩
    · omega
    · simp
  · rcases ht hq with⟨rfl,rfl⟩ | ⟨rfl,e,_⟩ <;> rcases ht hq' with⟨rfl,e'⟩ | ⟨rfl,e',_⟩
    all_goals first
      | rfl
      | (exfalso;omega)
  · rcases ht hq with⟨rfl,rfl⟩ | ⟨rfl,e,_⟩
    · exact⟨by simp,rfl⟩
    · exact absurd hlt' (Nat.lt_irrefl _)
  · by_cases hqm:q<m.length
    · rw [List.getElem?_append_left hqm]at hq
      by_cases hql:q=l0
      · subst hql
        rw [hl0]at hq
        obtain rfl:=Option.some.inj (Option.some.inj hq)
        exact .inr (.inl ⟨0,_,if_pos rfl,k0,rfl,Nat.le_refl _,fun i j hi hj=> .eq _ _ (hb0 i j hi hj).symm (.int _ _)⟩)
      · refine .inl ⟨by rw [if_neg hql,if_neg (by omega)],hq,fun i hi=>hql (hg1 hi).2⟩
    · rw [List.getElem?_append_right (by omega)]at hq
      have hqe:q=m.length:=by
        rcases Nat.lt_or_ge (q - m.length) 1 with g | g
        · omega
        · rw [List.getElem?_eq_none (by simpa using g)]at hq;cases hq
      subst hqe
      rw [Nat.sub_self]at hq
      obtain rfl:=Option.some.inj (Option.some.inj hq)
      exact .inr (.inl ⟨l,_,by rw [if_neg (by omega),if_pos rfl],hb,rfl,Nat.le_refl _,fun i j hi hj=>RV.of (dqG_all hi) (by dsimp only;exact flat_dlG)⟩)
end Go.Proofs.YtfolpdmbpbbimaaGreat
end

section
namespace Go.Proofs.YtfolpdmbpbbimaaGreat
open Go Go.Wit
theorem nmul_G_inj {a b:Nat} (ha:a<nN) (hb:b<nN) (h:nmul a gG=nmul b gG):a=b:=by
  have h1:nmul (a+(nN - b)) gG= .inf:=by
    rw [nmul_add crvP on_G,h,<- nmul_add crvP on_G,show b+(nN - b)=nN by omega,<- nmul_mod,Nat.mod_self];rfl
  obtain⟨k,hk⟩:=nmul_G_inf h1
  have hk1:k=1:=by
    rcases Nat.lt_or_ge k 1 with g | g
    · obtain rfl:k=0:=by omega
      omega
    · rcases Nat.lt_or_ge 1 k with g' | g'
      · have:=Nat.mul_le_mul_left nN (show 2<=k from g')
        omega
      · omega
  subst hk1
  omega
theorem tn_tn {P:Pt Fp} {a b:Int} {f:Nat->Int} {i:Nat} (hf:0<=f i/\f i<=255):tnF P a b (tnF P a b f) i=f i:=xorB_xorB1 hf (stF_lt i)
theorem oth_pl {i j:Nat} (h1:1<=i) (h2:1<=j) (hij:i ≠ j):othN i (plN i j).toNat=j:=by
  unfold othN plN
  by_cases h:(j:Int)<i
  · rw [if_pos h,if_pos (by omega)];omega
  · rw [if_neg h,if_neg (by omega)];omega
noncomputable def yS (n:Nat) (f:Nat->Int) (t i j:Nat):Nat:=sumN (coN (n+1) (sdF n f (i - 1))) j (t+1) % nN
noncomputable def KS (n:Nat) (f:Nat->Int) (i j:Nat):Pt Fp:=nmul (secN (n+1) (sdF n f (j - 1))) (PK n f (i - 1))
theorem KS_sym {n i j:Nat} {f:Nat->Int}:KS n f i j=KS n f j i:=by
  unfold KS PK
  rw [<- nmul_mul crvP on_G,<- nmul_mul crvP on_G,Nat.mul_comm]
theorem KS_on {n i j:Nat} {f:Nat->Int}:On (KS n f i j):=PK_on.nmul crvP _
theorem seal_at {n t i j:Nat} {f:Nat->Int} (h1:1<=i) (h2:1<=j) (hij:i ≠ j):sealS n f t (i - 1) (plN i j).toNat=tnF (KS n f i j) i j (byteZ (yS n f t i j)):=by
  unfold sealS
  rw [show i - 1+1=i by omega,oth_pl h1 h2 hij]
  show tnF (KS n f j i) _ _ _=_
  rw [KS_sym]
  rfl
theorem yS_lt {n t i j:Nat} {f:Nat->Int}:yS n f t i j<nN:=Nat.mod_lt _ (by decide)
theorem xor1_ne {a:Int} (ha:0<=a/\a<=255):xorB a 1 ≠ a:=by
  obtain⟨A,rfl,hA⟩:=byte_nat ha
  rw [show (1:Int)=((1:Nat):Int)from rfl,xorB_key hA (by decide)]
  intro h
  have h1:A ^^^ 1=A:=by exact_mod_cast h
  have h2:A ^^^ (A ^^^ 1)=A ^^^ A:=by rw [h1]
  rw [<- Nat.xor_assoc,Nat.xor_self,Nat.zero_xor]at h2
  cases h2
theorem fitV_good {R n t w ns i j:Nat} {f sp:Nat->Int} (h1:1<=i) (h2:1<=j) (hij:i ≠ j) (hb:¬ (parB sp (i - 1) ns=true/\(plN i j).toNat=w)):fitV (DP n f (R+2) t w ns sp) i j (KS n f i j)=yS n f t i j:=by
  unfold fitV
  refine ofZ_byteZ (Nat.lt_trans yS_lt (by decide)) fun b hb32=> ?_
  have e:(DP n f (R+2) t w ns sp ((i:Int).toNat - 1)).S (plN i j).toNat=tnF (KS n f i j) i j (byteZ (yS n f t i j)):=by
    show spS (sealS n f t (i - 1)) w (parB sp (i - 1) ns) (plN i j).toNat=_
    rw [<- seal_at h1 h2 hij]
    funext b
    unfold spS
    exact if_neg fun h=>hb ⟨h.1,h.2.1⟩
  rw [e]
  exact tn_tn (byteZ_lt _ _)
theorem fitV_bad {R n t w ns i j:Nat} {f sp:Nat->Int} (h1:1<=i) (h2:1<=j) (hij:i ≠ j) (hb:parB sp (i - 1) ns=true/\(plN i j).toNat=w):fitV (DP n f (R+2) t w ns sp) i j (KS n f i j) ≠ yS n f t i j:=by
  unfold fitV
  intro h
  have hl:∀ b,b<32->0<=tnF (KS n f i j) i j ((DP n f (R+2) t w ns sp ((i:Int).toNat - 1)).S (plN i j).toNat) b/\tnF (KS n f i j) i j ((DP n f (R+2) t w ns sp ((i:Int).toNat - 1)).S (plN i j).toNat) b<=255:=fun b _=>xorB_lt _ _
  have g:=byteZ_ofZ hl (show 31<32 by decide)
  rw [h]at g
  have e:(DP n f (R+2) t w ns sp ((i:Int).toNat - 1)).S (plN i j).toNat 31=xorB (tnF (KS n f i j) i j (byteZ (yS n f t i j)) 31) 1:=by
    show spS (sealS n f t (i - 1)) w (parB sp (i - 1) ns) (plN i j).toNat 31=_
    rw [<- seal_at h1 h2 hij]
    unfold spS
    exact if_pos ⟨hb.1,hb.2,rfl⟩
  have g2:tnF (KS n f i j) i j ((DP n f (R+2) t w ns sp ((i:Int).toNat - 1)).S (plN i j).toNat) 31=xorB (byteZ (yS n f t i j) 31) 1:=by
    show xorB ((DP n f (R+2) t w ns sp ((i:Int).toNat - 1)).S (plN i j).toNat 31) _=_
    rw [e]
    exact xorB_swap (byteZ_lt _ _) (stF_lt _) ⟨by decide,by decide⟩
  rw [g2]at g
  exact xor1_ne (byteZ_lt _ _) g.symm
theorem cm_DP {n r t w ns i:Nat} {f sp:Nat->Int}:cmP (DP n f r t w ns sp i)=comC n f i:=by
  funext k
  exact rawP_eq (on_G.nmul crvP _) rfl
theorem poly_yS {n t i j:Nat} {f:Nat->Int}:polyP (comC n f (i - 1)) j (t+1)=nmul (yS n f t i j) gG:=by
  unfold yS comC
  rw [polyP_sum,nmul_mod]
theorem fits_iff {R n t w ns i j:Nat} {f sp:Nat->Int} (h1:1<=i) (h2:1<=j) (hij:i ≠ j):
    (fitV (DP n f (R+2) t w ns sp) i j (KS n f i j)<nN/\nmul (fitV (DP n f (R+2) t w ns sp) i j (KS n f i j)) gG=polyP (cmP (DP n f (R+2) t w ns sp (i - 1))) j (t+1)) ↔ ¬ (parB sp (i - 1) ns=true/\(plN i j).toNat=w):=by
  rw [cm_DP,poly_yS]
  constructor
  · intro h hb
    exact fitV_bad h1 h2 hij hb (nmul_G_inj h.1 yS_lt h.2)
  · intro hb
    rw [fitV_good h1 h2 hij hb]
    exact⟨yS_lt,rfl⟩
theorem ok_DP {n r t w ns k:Nat} {f sp:Nat->Int} (hr:r<=1000) (ht:t<=1000):OkD (DP n f r t w ns sp k):=by
  refine⟨xN_w _,yN_w _,show 0<w256 by decide,show 0<w256 by decide,fun k _=>xN_w _,fun k _=>yN_w _,fun q _ b _=> ?_,?_,?_⟩
  · show 0<=spS (sealS n f t k) w (parB sp k ns) q b/\spS (sealS n f t k) w (parB sp k ns) q b<=255
    unfold spS
    split
    · exact xorB_lt _ _
    · exact sealS_lt _ _
  · show r - 1<=1000000;omega
  · show t+1<=1000000;omega
theorem has_DP {R n t w ns i j:Nat} {f sp:Nat->Int} (h1:1<=i) (h2:1<=j) (hij:i ≠ j) (hi:i<=R+2) (hj:j<=R+2) (ht:t<64):hasP (R+2) (DP n f (R+2) t w ns sp) i j:=by
  refine⟨by omega,by omega,rfl,?_,?_,fun k _=>⟨comC n f _ k,on_G.nmul crvP _,rfl⟩⟩
  · show plN i j<((R+2 - 1:Nat):Int)
    unfold plN
    split <;> omega
  · show t+1<=64;omega
theorem pl_ok {R i j:Nat} (h1:1<=i) (h2:1<=j) (hij:i ≠ j) (hi:i<=R+2) (hj:j<=R+2) (hR:R<=2):plOk i j=true:=by
  simp only [plOk,isD,Bool.and_eq_true,decide_eq_true_eq,Bool.not_eq_true',beq_eq_false_iff_ne,ne_eq]
  omega
theorem fit_DP {R n t w ns i j:Nat} {f sp:Nat->Int} {b:Bool} {e:Int} (h1:1<=i) (h2:1<=j) (hij:i ≠ j) (hi:i<=R+2) (hj:j<=R+2) (hR:R<=2) (ht:t<64) (h:FitE (R+2) (DP n f (R+2) t w ns sp) i j (isI (KS n f i j)) (xN (KS n f i j)) (yN (KS n f i j)) b e):
    e=0/\b= !(parB sp (i - 1) ns && decide ((plN i j).toNat=w)):=by
  have hok:=pl_ok h1 h2 hij hi hj hR
  have hh:=has_DP (n:=n) (f:=f) (sp:=sp) (w:=w) (ns:=ns) h1 h2 hij hi hj ht
  rcases h with⟨g1,_⟩ | ⟨_,g2,_⟩ | ⟨_,_,g3,_⟩ | ⟨_,_,K,oK,eK,he,hb⟩
  · rw [hok]at g1;cases g1
  · exact absurd hh g2
  · exact absurd rfl (g3 _ KS_on)
  · obtain rfl:KS n f i j=K:=ptA_inj eK
    refine⟨he,?_⟩
    have hb':b=true ↔ ¬ (parB sp (i - 1) ns=true/\(plN i j).toNat=w):=hb.trans (fits_iff h1 h2 hij)
    cases hp:parB sp (i - 1) ns with
    | false=>rw [hb'.2 (fun x=>by rw [hp]at x;cases x.1)];rfl
    | true =>
      by_cases hw:(plN i j).toNat=w
      · rw [decide_eq_true hw]
        cases b with
        | false=>rfl
        | true=>exact absurd ⟨hp,hw⟩ (hb'.1 rfl)
      · rw [hb'.2 (fun x=>hw x.2),decide_eq_false hw];rfl
theorem ver_DP {R n t w ns i j c s:Nat} {f sp:Nat->Int} {e:Int} (h1:1<=i) (h2:1<=j) (hij:i ≠ j) (hi:i<=R+2) (hj:j<=R+2) (hR:R<=2) (ht:t<64) (hc:hoB (PK n f (j - 1)) (PK n f (i - 1)) (KS n f i j) c s=true)
    (h:VerE (R+2) (DP n f (R+2) t w ns sp) i j (isI (KS n f i j)) (xN (KS n f i j)) (yN (KS n f i j)) c s e):e=if (parB sp (i - 1) ns && decide ((plN i j).toNat=w))=true then 0 else 13:=by
  obtain⟨b,e0,hf,h⟩:=h
  obtain⟨rfl,rfl⟩:=fit_DP h1 h2 hij hi hj hR ht hf
  rcases h with⟨g1,_⟩ | ⟨_,g2,_⟩ | ⟨_,A,B,P,oA,oB,oP,eA,eB,eP,g⟩
  · exact absurd rfl g1
  · rcases g2 with g2 | g2
    · exact absurd rfl (g2 _ PK_on)
    · exact absurd rfl (g2 _ PK_on)
  · obtain rfl:PK n f (i - 1)=A:=ptA_inj eA
    obtain rfl:PK n f (j - 1)=B:=ptA_inj eB
    obtain rfl:KS n f i j=P:=ptA_inj eP
    rw [g,if_pos hc]
    cases (parB sp (i - 1) ns && decide ((plN i j).toNat=w)) <;> rfl
theorem ver_no {R n t w ns i j c s:Nat} {f sp:Nat->Int} {e:Int} (h1:1<=i) (h2:1<=j) (hij:i ≠ j) (hi:i<=R+2) (hj:j<=R+2) (hR:R<=2) (ht:t<64) (hc:hoB (PK n f (j - 1)) (PK n f (i - 1)) (KS n f i j) c s=false)
    (h:VerE (R+2) (DP n f (R+2) t w ns sp) i j (isI (KS n f i j)) (xN (KS n f i j)) (yN (KS n f i j)) c s e):e=12:=by
  obtain⟨b,e0,hf,h⟩:=h
  obtain⟨rfl,rfl⟩:=fit_DP h1 h2 hij hi hj hR ht hf
  rcases h with⟨g1,_⟩ | ⟨_,g2,_⟩ | ⟨_,A,B,P,oA,oB,oP,eA,eB,eP,g⟩
  · exact absurd rfl g1
  · rcases g2 with g2 | g2
    · exact absurd rfl (g2 _ PK_on)
    · exact absurd rfl (g2 _ PK_on)
  · obtain rfl:PK n f (i - 1)=A:=ptA_inj eA
    obtain rfl:PK n f (j - 1)=B:=ptA_inj eB
    obtain rfl:KS n f i j=P:=ptA_inj eP
    rw [g,hc];rfl
theorem ver_arg {r c s kx ky:Nat} {ki:Bool} {D:Nat->Dl} {i j e:Int} (hp:plOk i j=false) (h:VerE r D i j ki kx ky c s e):e=1:=by
  obtain⟨b,e0,hf,h⟩:=h
  have h0:e0=1:=by
    rcases hf with⟨_,_,he⟩ | ⟨g,_⟩ | ⟨g,_⟩ | ⟨g,_⟩
    · exact he
    all_goals (rw [hp]at g;cases g)
  subst h0
  rcases h with⟨_,g⟩ | ⟨g,_⟩ | ⟨g,_⟩
  · exact g
  all_goals cases g
theorem ver_none {r c s kx ky:Nat} {ki:Bool} {D:Nat->Dl} {i j e:Int} (hp:plOk i j=true) (hn:¬ hasP r D i j) (h:VerE r D i j ki kx ky c s e):e=5:=by
  obtain⟨b,e0,hf,h⟩:=h
  have h0:e0=5:=by
    rcases hf with⟨g,_⟩ | ⟨_,_,_,he⟩ | ⟨_,g,_⟩ | ⟨_,g,_⟩
    · rw [hp]at g;cases g
    · exact he
    all_goals exact absurd g hn
  subst h0
  rcases h with⟨_,g⟩ | ⟨g,_⟩ | ⟨g,_⟩
  · exact g
  all_goals cases g
theorem ver_point {r c s kx ky:Nat} {ki:Bool} {D:Nat->Dl} {i j e:Int} (hp:plOk i j=true) (hn:hasP r D i j) (hb:Bad ki kx ky) (h:VerE r D i j ki kx ky c s e):e=3:=by
  obtain⟨b,e0,hf,h⟩:=h
  have h0:e0=3:=by
    rcases hf with⟨g,_⟩ | ⟨_,g,_⟩ | ⟨_,_,_,_,he⟩ | ⟨_,_,K,oK,eK,_⟩
    · rw [hp]at g;cases g
    · exact absurd hn g
    · exact he
    · exact absurd eK (hb K oK)
  subst h0
  rcases h with⟨_,g⟩ | ⟨g,_⟩ | ⟨g,_⟩
  · exact g
  all_goals cases g
theorem hoB_big {a b k:Pt Fp} {c r:Nat} (h:nN<=c):hoB a b k c r=false:=by
  unfold hoB
  rw [decide_eq_false (p:=c<nN) (by omega)];rfl
end Go.Proofs.YtfolpdmbpbbimaaGreat
end

section
namespace Go.Proofs.YtfolpdmbpbbimaaGreat
open Go Go.Wit
theorem S_wakes14 {m:Mem} {K:AV->Mem->Prop} (h:K (.bool true) m):ACall Pg F_witanlaw14_wakes [] m K:=by
  have h0:ACall Pg F_witanlaw14_wakes [] [] (fun v _=>v= .bool true/\Flat true v):=by
    refine B_witanlaw14_wakes ⟨rfl,?_⟩
    conv=>whnf
    repeat (refine⟨⟨_,rfl⟩,?_⟩;conv=>whnf)
    refine S_Place (fun _ p hp=> ?_) (fun h=>absurd h (by decide))
    conv=>whnf
    repeat (refine⟨⟨_,rfl⟩,?_⟩;conv=>whnf)
    refine S_Place (fun _ q hq=> ?_) (fun h=>absurd h (by decide))
    conv=>whnf
    repeat (refine⟨⟨_,rfl⟩,?_⟩;conv=>whnf)
    refine S_Place (fun h=>absurd h (by decide)) (fun _=> ?_)
    have hp:p=0:=by rw [hp];decide
    have hq:q=1:=by rw [hq];decide
    subst hp hq
    conv=>whnf
    repeat (refine⟨⟨_,rfl⟩,?_⟩;conv=>whnf)
    exact⟨rfl,.bool _⟩
  refine lift_flat h0 .nil ?_
  rintro v rfl
  exact h
end Go.Proofs.YtfolpdmbpbbimaaGreat
end

section
namespace Go.Proofs.YtfolpdmbpbbimaaGreat
open Go Go.Wit
def rowO (p q:Nat) (d:Dl) (cap1 cap2:Nat):List AV:=dlL d (.sl p 0 (0+d.ns) cap1) (.sl q 0 d.nc cap2)
theorem fz_e (p q:Nat) (D:Nat->Dl) (d1 d2 C1 C2:Nat->Nat) (k cap1 cap2 i j:Nat) (hi:i<k+1) (hj:j<26) (v:AV) (hv1:i=k->v=(rowO p q (D k) cap1 cap2).getD j .un) (hv2:i ≠ k->v=dlG D C1 C2 i j):
    FzV p ⟨32,0+(D k).ns,catG 0 (fun x x_1=>AV.un) (sealG (D k).S)⟩ v (if i=k/\j=14 then .sl q 0 (D k).nc cap2 else dlG D (fun i=>if i=k then cap1 else C1 i) C2 i j):=by
  by_cases hik:i=k
  · rw [hv1 hik]
    clear hv1 hv2
    subst hik
    by_cases h14:j=14
    · subst h14
      rw [if_pos ⟨rfl,rfl⟩];exact .inl rfl
    rw [if_neg (fun h=>h14 h.2)]
    by_cases h13:j=13
    · subst h13
      refine .inr (.inr ⟨0,0+(D i).ns,cap1,sealG (D i).S,rfl,?_,by show 0+(0+(D i).ns)<=0+(D i).ns;omega,fun a b _ _=> ?_⟩)
      · show AV.vsl 32 (D i).ns (if i=i then cap1 else C1 i) (sealG (D i).S)=_
        rw [if_pos rfl,Nat.zero_add]
      · show sealG (D i).S a b=catG 0 (fun x x_1=>AV.un) (sealG (D i).S) (0+a) b
        rw [catG_ge (by omega)];simp
    · refine .inl ?_
      revert h14 h13
      revert j
      refine fun j hj=>lt26 (P:=fun j=>j ≠ 14->j ≠ 13->(dlG D (fun m=>if m=i then cap1 else C1 m) C2 i j)=(rowO p q (D i) cap1 cap2).getD j .un) ?_ ?_ ?_ ?_ ?_ ?_ ?_ ?_ ?_ ?_ ?_ ?_ ?_ ?_ ?_ ?_ ?_ ?_ ?_ ?_ ?_ ?_ ?_ ?_ ?_ ?_ j hj
      all_goals (intro a b;first | rfl | exact absurd rfl a | exact absurd rfl b)
  · rw [hv2 hik,if_neg (fun h=>hik h.1)]
    refine .inl ?_
    unfold dlG;simp only [if_neg hik]
theorem fz_f (q:Nat) (D:Nat->Dl) (C1 C2:Nat->Nat) (k cap1 cap2 i j:Nat) (hi:i<k+1) (hj:j<26):
    FzV q ⟨9,(D k).nc,rawsG (D k).I (D k).X (D k).Y⟩ (if i=k/\j=14 then .sl q 0 (D k).nc cap2 else dlG D (fun i=>if i=k then cap1 else C1 i) C2 i j) (dlG D (fun i=>if i=k then cap1 else C1 i) (fun i=>if i=k then cap2 else C2 i) i j):=by
  by_cases hik:i=k
  · subst hik
    by_cases h14:j=14
    · subst h14
      rw [if_pos ⟨rfl,rfl⟩]
      refine .inr (.inr ⟨0,(D i).nc,cap2,rawsG (D i).I (D i).X (D i).Y,rfl,?_,by show 0+(D i).nc<=(D i).nc;omega,fun a b _ _=>by rw [Nat.zero_add]⟩)
      show AV.vsl 9 (D i).nc (if i=i then cap2 else C2 i) _=_
      rw [if_pos rfl]
    rw [if_neg (fun h=>h14 h.2)]
    refine .inl ?_
    revert h14
    revert j
    refine fun j hj=>lt26 (P:=fun j=>j ≠ 14->dlG D (fun m=>if m=i then cap1 else C1 m) (fun m=>if m=i then cap2 else C2 m) i j=dlG D (fun m=>if m=i then cap1 else C1 m) C2 i j) ?_ ?_ ?_ ?_ ?_ ?_ ?_ ?_ ?_ ?_ ?_ ?_ ?_ ?_ ?_ ?_ ?_ ?_ ?_ ?_ ?_ ?_ ?_ ?_ ?_ ?_ j hj
    all_goals (intro a;first | rfl | exact absurd rfl a)
  · rw [if_neg (fun h=>hik h.1)]
    refine .inl ?_
    unfold dlG;simp only [if_neg hik]
set_option maxHeartbeats 4000000 in
theorem S_TwinDealersO (r cap:Nat) (D:Nat->Dl) (d1 d2:Nat->Nat) (hr:r<=10) (hD:∀ k,k<r->(D k).ns<=20/\(D k).nc<=8):ACall Pg F_witankeep_TwinDealers [.sl 0 0 r cap] [some ⟨26,r,dlG D d1 d2⟩] (fun v m'=>m'[0]? = some (some ⟨26,r,dlG D d1 d2⟩)/\((v= .nils/\r=0)\/∃ l cap c1 c2,1<=l/\v= .sl l 0 r cap/\m'[l]? = some (some ⟨26,r,dlG D c1 c2⟩))):=by
  refine B_witankeep_TwinDealers ⟨rfl,?_⟩
  conv=>whnf
  repeat (refine⟨⟨_,rfl⟩,?_⟩;conv=>whnf)
  refine loop_fz mixed (I:=fun q l m=>∃ (k c':Nat) (C1 C2:Nat->Nat),l= [(0,.sl 0 0 r cap),(3,.sl 1 0 k c'),(4,.int .i64 k)] /\ m= [some ⟨26,r,dlG D d1 d2⟩,some ⟨26,k,dlG D C1 C2⟩] /\ q+k=r) r
    (l0:= [(0,.sl 0 0 r cap),(3,.sl 1 0 0 0),(4,.int .i64 (0:Nat))]) (m0:= [some ⟨26,r,dlG D d1 d2⟩,some ⟨26,0,dlG D (fun _=>0) (fun _=>0)⟩]) [some 0,none] ⟨0,0,_,_,rfl,rfl,rfl⟩ ?_ ?_
  · exact .mkN ⟨.sl _ _ _ _ _ rfl,.nils _ _,Flat.i rfl,trivial⟩ ⟨.old 0 0 _ _ rfl rfl ⟨rfl,Nat.le_refl _,fun i j hi hj=>RV.of rfl (by dsimp only;exact flat_dlG)⟩,.ph _ _ _ rfl,trivial⟩ rfl rfl rfl
  · rintro q l m ⟨k,c',C1,C2,rfl,rfl,hq⟩
    conv=>whnf
    repeat (refine⟨⟨_,rfl⟩,?_⟩;conv=>whnf)
    refine condB_mk (fun hb=> ?_) (fun hb=> ?_)
    · have hb:k<r:=by simp at hb;omega
      obtain⟨h1,h2⟩:=hD k hb
      have h1':(D (k:Int).toNat).ns<=20:=h1
      conv=>whnf
      repeat (refine⟨⟨_,rfl⟩,?_⟩;conv=>whnf)
      refine condB_ok (by simp;omega) ?_
      conv=>whnf
      repeat (refine⟨⟨_,rfl⟩,?_⟩;conv=>whnf)
      conv=>whnf
      repeat (refine⟨⟨_,rfl⟩,?_⟩;conv=>whnf)
      rw [show 0+(k:Int).toNat=k by simp]
      refine condB_ok (by simp [roomG,Nat.ble_eq];omega) ?_
      refine⟨?_,?_⟩
      · refine⟨?_,?_⟩
        · conv=>whnf
          repeat (refine⟨⟨_,rfl⟩,?_⟩;conv=>whnf)
          refine condB_ok (app_ok (by first | rfl | simp) rfl rfl (by omega) (by omega)) (fun cap1 hcap1=> ?_)
          conv=>whnf
          repeat (refine⟨⟨_,rfl⟩,?_⟩;conv=>whnf)
          refine S_TwinPoints (n:=(D k).nc) (I:=(D k).I) (X:=(D k).X) (Y:=(D k).Y) (ShowsG.vsl fun i j _ _=>flat_rawsG) (by omega) (fun cap2=> ?_)
          conv=>whnf
          repeat (refine⟨⟨_,rfl⟩,?_⟩;conv=>whnf)
          refine condB_ok (app_ok (by first | rfl | simp) rfl rfl (by omega) (by omega)) (fun cap3 hcap3=> ?_)
          conv=>whnf
          repeat (refine⟨⟨_,rfl⟩,?_⟩;conv=>whnf)
          have e5:IntKind.i64.wrap ((k:Int)+1)=((k+1:Nat):Int):=by rw [w64 (by omega) (by omega)];omega
          refine⟨q - 1,[(0,.sl 0 0 r cap),(3,.sl 1 0 (k+1) cap3),(4,.int .i64 ((k+1:Nat):Int))],[some ⟨26,r,dlG D d1 d2⟩,none,none,none,none,none,some ⟨26,k+1,dlG D (fun i=>if i=k then cap1 else C1 i) (fun i=>if i=k then cap2 else C2 i)⟩],[some ⟨26,r,dlG D d1 d2⟩,some ⟨26,k+1,dlG D (fun i=>if i=k then cap1 else C1 i) (fun i=>if i=k then cap2 else C2 i)⟩],[some 0,some 6],by omega,⟨k+1,cap3,_,_,rfl,rfl,by omega⟩,?_,?_⟩
          · refine .step 3 _ _ [some ⟨26,r,dlG D d1 d2⟩,none,none,none,some ⟨9,(D k).nc,rawsG (D k).I (D k).X (D k).Y⟩,none,some ⟨26,k+1,fun i j=>if i=k/\j=14 then .sl 4 0 (D k).nc cap2 else dlG D (fun i=>if i=k then cap1 else C1 i) C2 i j⟩] _ rfl (.c (.inr ⟨by decide,_,_,rfl,rfl,rfl,Nat.le_refl _,fun i j _ _=> .inl rfl⟩) (.c (.inl rfl) (.c (.inl rfl) (.c (.inl rfl) (.c (.inr ⟨by decide,_,_,rfl,rfl,rfl,Nat.le_refl _,fun i j _ _=> .inl rfl⟩) (.c (.inl rfl) (.c (.inr ⟨by decide,_,_,rfl,rfl,rfl,Nat.le_refl _,fun i j hi hj=> ?_⟩) .n))))))) ?_
            · refine fz_e 3 4 D d1 d2 C1 C2 k cap1 cap2 i j hi hj _ (fun h=> ?_) (fun h=> ?_)
              · dsimp only
                rw [catG_ge (by omega),h,Nat.sub_self]
                clear hi
                revert j
                exact lt26 rfl rfl rfl rfl rfl rfl rfl rfl rfl rfl rfl rfl rfl rfl rfl rfl rfl rfl rfl rfl rfl rfl rfl rfl rfl rfl
              · dsimp only
                have hi:i<k+1:=hi
                rw [catG_lt (by omega)]
            · refine .step 4 ⟨9,(D k).nc,rawsG (D k).I (D k).X (D k).Y⟩ _ [some ⟨26,r,dlG D d1 d2⟩,none,none,none,none,none,some ⟨26,k+1,dlG D (fun i=>if i=k then cap1 else C1 i) (fun i=>if i=k then cap2 else C2 i)⟩] _ rfl (.c (.inr ⟨by decide,_,_,rfl,rfl,rfl,Nat.le_refl _,fun i j _ _=> .inl rfl⟩) (.c (.inl rfl) (.c (.inl rfl) (.c (.inl rfl) (.c (.inl rfl) (.c (.inl rfl) (.c (.inr ⟨by decide,_,_,rfl,rfl,rfl,Nat.le_refl _,fun i j hi hj=> ?_⟩) .n))))))) (.refl _)
              exact fz_f 4 D C1 C2 k cap1 cap2 i j hi hj
          · exact .mkN ⟨.sl _ _ _ _ _ rfl,.sl _ _ _ _ _ rfl,Flat.i e5,trivial⟩ ⟨.old 0 0 _ _ rfl rfl ⟨rfl,Nat.le_refl _,fun i j hi hj=>RV.of rfl (by dsimp only;exact flat_dlG)⟩,.old 1 6 _ _ rfl rfl ⟨rfl,Nat.le_refl _,fun i j hi hj=>RV.of rfl (by dsimp only;exact flat_dlG)⟩,trivial⟩ rfl rfl rfl
        · conv=>whnf
          repeat (refine⟨⟨_,rfl⟩,?_⟩;conv=>whnf)
          refine condB_ok (app_ok (by first | rfl | simp) rfl rfl (by omega) (by omega)) (fun cap1 hcap1=> ?_)
          conv=>whnf
          repeat (refine⟨⟨_,rfl⟩,?_⟩;conv=>whnf)
          refine S_TwinPoints (n:=(D k).nc) (I:=(D k).I) (X:=(D k).X) (Y:=(D k).Y) (ShowsG.vsl fun i j _ _=>flat_rawsG) (by omega) (fun cap2=> ?_)
          conv=>whnf
          repeat (refine⟨⟨_,rfl⟩,?_⟩;conv=>whnf)
          refine condB_ok (app_ok (by first | rfl | simp) rfl rfl (by omega) (by omega)) (fun cap3 hcap3=> ?_)
          conv=>whnf
          repeat (refine⟨⟨_,rfl⟩,?_⟩;conv=>whnf)
          have e5:IntKind.i64.wrap ((k:Int)+1)=((k+1:Nat):Int):=by rw [w64 (by omega) (by omega)];omega
          refine⟨q - 1,[(0,.sl 0 0 r cap),(3,.sl 1 0 (k+1) cap3),(4,.int .i64 ((k+1:Nat):Int))],[some ⟨26,r,dlG D d1 d2⟩,none,none,none,none,none,some ⟨26,k+1,dlG D (fun i=>if i=k then cap1 else C1 i) (fun i=>if i=k then cap2 else C2 i)⟩],[some ⟨26,r,dlG D d1 d2⟩,some ⟨26,k+1,dlG D (fun i=>if i=k then cap1 else C1 i) (fun i=>if i=k then cap2 else C2 i)⟩],[some 0,some 6],by omega,⟨k+1,cap3,_,_,rfl,rfl,by omega⟩,?_,?_⟩
          · refine .step 3 _ _ [some ⟨26,r,dlG D d1 d2⟩,none,none,none,some ⟨9,(D k).nc,rawsG (D k).I (D k).X (D k).Y⟩,none,some ⟨26,k+1,fun i j=>if i=k/\j=14 then .sl 4 0 (D k).nc cap2 else dlG D (fun i=>if i=k then cap1 else C1 i) C2 i j⟩] _ rfl (.c (.inr ⟨by decide,_,_,rfl,rfl,rfl,Nat.le_refl _,fun i j _ _=> .inl rfl⟩) (.c (.inl rfl) (.c (.inl rfl) (.c (.inl rfl) (.c (.inr ⟨by decide,_,_,rfl,rfl,rfl,Nat.le_refl _,fun i j _ _=> .inl rfl⟩) (.c (.inl rfl) (.c (.inr ⟨by decide,_,_,rfl,rfl,rfl,Nat.le_refl _,fun i j hi hj=> ?_⟩) .n))))))) ?_
            · refine fz_e 3 4 D d1 d2 C1 C2 k cap1 cap2 i j hi hj _ (fun h=> ?_) (fun h=> ?_)
              · dsimp only
                rw [catG_ge (by omega),h,Nat.sub_self]
                clear hi
                revert j
                exact lt26 rfl rfl rfl rfl rfl rfl rfl rfl rfl rfl rfl rfl rfl rfl rfl rfl rfl rfl rfl rfl rfl rfl rfl rfl rfl rfl
              · dsimp only
                have hi:i<k+1:=hi
                rw [catG_lt (by omega)]
            · refine .step 4 ⟨9,(D k).nc,rawsG (D k).I (D k).X (D k).Y⟩ _ [some ⟨26,r,dlG D d1 d2⟩,none,none,none,none,none,some ⟨26,k+1,dlG D (fun i=>if i=k then cap1 else C1 i) (fun i=>if i=k then cap2 else C2 i)⟩] _ rfl (.c (.inr ⟨by decide,_,_,rfl,rfl,rfl,Nat.le_refl _,fun i j _ _=> .inl rfl⟩) (.c (.inl rfl) (.c (.inl rfl) (.c (.inl rfl) (.c (.inl rfl) (.c (.inl rfl) (.c (.inr ⟨by decide,_,_,rfl,rfl,rfl,Nat.le_refl _,fun i j hi hj=> ?_⟩) .n))))))) (.refl _)
              exact fz_f 4 D C1 C2 k cap1 cap2 i j hi hj
          · exact .mkN ⟨.sl _ _ _ _ _ rfl,.sl _ _ _ _ _ rfl,Flat.i e5,trivial⟩ ⟨.old 0 0 _ _ rfl rfl ⟨rfl,Nat.le_refl _,fun i j hi hj=>RV.of rfl (by dsimp only;exact flat_dlG)⟩,.old 1 6 _ _ rfl rfl ⟨rfl,Nat.le_refl _,fun i j hi hj=>RV.of rfl (by dsimp only;exact flat_dlG)⟩,trivial⟩ rfl rfl rfl
      · conv=>whnf
        repeat (refine⟨⟨_,rfl⟩,?_⟩;conv=>whnf)
        refine condB_ok (app_ok (by first | rfl | simp) rfl rfl (by omega) (by omega)) (fun cap1 hcap1=> ?_)
        conv=>whnf
        repeat (refine⟨⟨_,rfl⟩,?_⟩;conv=>whnf)
        refine S_TwinPoints (n:=(D k).nc) (I:=(D k).I) (X:=(D k).X) (Y:=(D k).Y) (ShowsG.vsl fun i j _ _=>flat_rawsG) (by omega) (fun cap2=> ?_)
        conv=>whnf
        repeat (refine⟨⟨_,rfl⟩,?_⟩;conv=>whnf)
        refine condB_ok (app_ok (by first | rfl | simp) rfl rfl (by omega) (by omega)) (fun cap3 hcap3=> ?_)
        conv=>whnf
        repeat (refine⟨⟨_,rfl⟩,?_⟩;conv=>whnf)
        have e5:IntKind.i64.wrap ((k:Int)+1)=((k+1:Nat):Int):=by rw [w64 (by omega) (by omega)];omega
        refine⟨q - 1,[(0,.sl 0 0 r cap),(3,.sl 1 0 (k+1) cap3),(4,.int .i64 ((k+1:Nat):Int))],[some ⟨26,r,dlG D d1 d2⟩,none,none,none,none,none,some ⟨26,k+1,dlG D (fun i=>if i=k then cap1 else C1 i) (fun i=>if i=k then cap2 else C2 i)⟩],[some ⟨26,r,dlG D d1 d2⟩,some ⟨26,k+1,dlG D (fun i=>if i=k then cap1 else C1 i) (fun i=>if i=k then cap2 else C2 i)⟩],[some 0,some 6],by omega,⟨k+1,cap3,_,_,rfl,rfl,by omega⟩,?_,?_⟩
        · refine .step 3 _ _ [some ⟨26,r,dlG D d1 d2⟩,none,none,none,some ⟨9,(D k).nc,rawsG (D k).I (D k).X (D k).Y⟩,none,some ⟨26,k+1,fun i j=>if i=k/\j=14 then .sl 4 0 (D k).nc cap2 else dlG D (fun i=>if i=k then cap1 else C1 i) C2 i j⟩] _ rfl (.c (.inr ⟨by decide,_,_,rfl,rfl,rfl,Nat.le_refl _,fun i j _ _=> .inl rfl⟩) (.c (.inl rfl) (.c (.inl rfl) (.c (.inl rfl) (.c (.inr ⟨by decide,_,_,rfl,rfl,rfl,Nat.le_refl _,fun i j _ _=> .inl rfl⟩) (.c (.inl rfl) (.c (.inr ⟨by decide,_,_,rfl,rfl,rfl,Nat.le_refl _,fun i j hi hj=> ?_⟩) .n))))))) ?_
          · refine fz_e 3 4 D d1 d2 C1 C2 k cap1 cap2 i j hi hj _ (fun h=> ?_) (fun h=> ?_)
            · dsimp only
              rw [catG_ge (by omega),h,Nat.sub_self]
              clear hi
              revert j
              exact lt26 rfl rfl rfl rfl rfl rfl rfl rfl rfl rfl rfl rfl rfl rfl rfl rfl rfl rfl rfl rfl rfl rfl rfl rfl rfl rfl
            · dsimp only
              have hi:i<k+1:=hi
              rw [catG_lt (by omega)]
          · refine .step 4 ⟨9,(D k).nc,rawsG (D k).I (D k).X (D k).Y⟩ _ [some ⟨26,r,dlG D d1 d2⟩,none,none,none,none,none,some ⟨26,k+1,dlG D (fun i=>if i=k then cap1 else C1 i) (fun i=>if i=k then cap2 else C2 i)⟩] _ rfl (.c (.inr ⟨by decide,_,_,rfl,rfl,rfl,Nat.le_refl _,fun i j _ _=> .inl rfl⟩) (.c (.inl rfl) (.c (.inl rfl) (.c (.inl rfl) (.c (.inl rfl) (.c (.inl rfl) (.c (.inr ⟨by decide,_,_,rfl,rfl,rfl,Nat.le_refl _,fun i j hi hj=> ?_⟩) .n))))))) (.refl _)
            exact fz_f 4 D C1 C2 k cap1 cap2 i j hi hj
        · exact .mkN ⟨.sl _ _ _ _ _ rfl,.sl _ _ _ _ _ rfl,Flat.i e5,trivial⟩ ⟨.old 0 0 _ _ rfl rfl ⟨rfl,Nat.le_refl _,fun i j hi hj=>RV.of rfl (by dsimp only;exact flat_dlG)⟩,.old 1 6 _ _ rfl rfl ⟨rfl,Nat.le_refl _,fun i j hi hj=>RV.of rfl (by dsimp only;exact flat_dlG)⟩,trivial⟩ rfl rfl rfl
    · have hb:k=r:=by simp at hb;omega
      subst hb
      conv=>whnf
      repeat (refine⟨⟨_,rfl⟩,?_⟩;conv=>whnf)
      exact⟨rfl,.inr ⟨1,c',C1,C2,Nat.le_refl _,rfl,rfl⟩⟩
theorem S_TwinDealersW {m:Mem} {K:AV->Mem->Prop} {r cap l0:Nat} {D:Nat->Dl} {d1 d2:Nat->Nat} (hl0:m[l0]? = some (some ⟨26,r,dlG D d1 d2⟩)) (hr1:1<=r) (hr:r<=10) (hD:∀ k,k<r->(D k).ns<=20/\(D k).nc<=8) (h:∀ c c1 c2,memK (m++ [some ⟨26,r,dlG D c1 c2⟩]) (K (.sl m.length 0 r c))):ACall Pg F_witankeep_TwinDealers [.sl l0 0 r cap] m K:=by
  simp only [memK_eq]at h
  have hlt:=lt_of_get hl0
  have hb0:∀ i j,i<r->j<26->dlG D d1 d2 i j=dlG D d1 d2 i j:=fun i j hi hj=>rfl
  have hb1:∀ i j,i<r->j<26->Flat false (dlG D d1 d2 i j):=fun i j hi hj=>flat_dlG
  have hg1:∀ {i q:Nat},[some l0].getD i none=some q->i=0/\q=l0:=fun {i q} h=>by
    match i,h with
    | 0,h=>exact ⟨rfl,by simpa using h.symm⟩
    | i+1,h=>simp at h
  refine(S_TwinDealersO r cap D d1 d2 hr hD).frame false [some l0] [] (fun _=>rfl) (.cons _ _ _ _ (.rv _ _ (.sl _ _ _ _ _ rfl)) .nil) ⟨.old 0 l0 _ _ rfl hl0 ⟨rfl,Nat.le_refl _,fun i j hi hj=>RV.of rfl (by dsimp only;exact flat_dlG)⟩,trivial⟩ rfl (fun i j q g1 g2=>by rw [(hg1 g1).1,(hg1 g2).1]) (fun q hq=>by cases hq) ?_
  rintro v m' ⟨k0,(⟨_,hr0⟩ | ⟨l,c,C1,C2,hl,rfl,hb⟩)⟩
  · omega
  have ht:∀ {q r':Nat},(if q=l0 then some 0 else if q=m.length then some l else none)=some r'->(q=l0/\r'=0)\/(q=m.length/\1<=r'/\r'=l):=by
    intro q r' hq
    by_cases h:q=l0
    · rw [if_pos h]at hq;exact .inl ⟨h,(Option.some.inj hq).symm⟩
    · rw [if_neg h]at hq
      by_cases h'':q=m.length
      · rw [if_pos h'']at hq;obtain rfl:=Option.some.inj hq;exact .inr ⟨h'',hl,rfl⟩
      · rw [if_neg h'']at hq;cases hq
  refine⟨.sl m.length 0 r c,m++ [some ⟨26,r,dlG D C1 C2⟩],fun q=>if q=l0 then some 0 else if q=m.length then some l else none,⟨by simp,fun q r hq=> ?_,fun q q' r hq hq'=> ?_,fun q r hlt' hq=> ?_,fun q b hq=> ?_⟩,.sl _ _ _ _ _ (by rw [if_neg (by omega),if_pos rfl]),h c C1 C2⟩
  · rw [List.length_append]
    rcases ht hq with⟨rfl,_⟩ | ⟨rfl,_⟩
    · omega
    · simp
  · rcases ht hq with⟨rfl,rfl⟩ | ⟨rfl,e,_⟩ <;> rcases ht hq' with⟨rfl,e'⟩ | ⟨rfl,e',_⟩
    all_goals first
      | rfl
      | (exfalso;omega)
  · rcases ht hq with⟨rfl,rfl⟩ | ⟨rfl,e,_⟩
    · exact⟨by simp,rfl⟩
    · exact absurd hlt' (Nat.lt_irrefl _)
  · by_cases hqm:q<m.length
    · rw [List.getElem?_append_left hqm]at hq
      by_cases hql:q=l0
      · subst hql
        rw [hl0]at hq
        obtain rfl:=Option.some.inj (Option.some.inj hq)
        exact .inr (.inl ⟨0,_,if_pos rfl,k0,rfl,Nat.le_refl _,fun i j hi hj=>RV.of (hb0 i j hi hj).symm (hb1 i j hi hj)⟩)
      · refine .inl ⟨by rw [if_neg hql,if_neg (by omega)],hq,fun i hi=>hql (hg1 hi).2⟩
    · rw [List.getElem?_append_right (by omega)]at hq
      have hqe:q=m.length:=by
        rcases Nat.lt_or_ge (q - m.length) 1 with g | g
        · omega
        · rw [List.getElem?_eq_none (by simpa using g)]at hq;cases hq
      subst hqe
      rw [Nat.sub_self]at hq
      obtain rfl:=Option.some.inj (Option.some.inj hq)
      exact .inr (.inl ⟨l,_,by rw [if_neg (by omega),if_pos rfl],hb,rfl,Nat.le_refl _,fun i j hi hj=>RV.of rfl (by dsimp only;exact flat_dlG)⟩)
end Go.Proofs.YtfolpdmbpbbimaaGreat
end

