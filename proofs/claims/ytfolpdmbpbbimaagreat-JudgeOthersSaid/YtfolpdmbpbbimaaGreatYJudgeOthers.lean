/- Texts of a proof, one behind the other; the last of these: The law JudgeOthers answers true for all that it may be handed: its row; no condition. -/
import Derived.Test.YtfolpdmbpbbimaaGreatZ10
import Derived.Test.YtfolpdmbpbbimaaGreatRows
import Derived.WalkKit
import Derived.ProofKit
import Derived.OpenShut
import Derived.ShutString
import Derived.ChangeOld
import Derived.Below
import Derived.SizedLaws
set_option linter.unusedVariables false
set_option linter.unusedSimpArgs false
set_option maxRecDepth 100000
section
namespace Go.Proofs.YtfolpdmbpbbimaaGreat
open Go Go.Wit
theorem bad51:Bad false 5 1:=by
  intro P oP e
  obtain⟨h1,h2,h3⟩:=rawA_inj (by decide) (by decide) (xN_w P) (yN_w P) e
  cases P with
  | inf=>cases h1
  | aff x y =>
    have hx:x=(5:Fp):=Fin.ext (h2.symm.trans (by decide +kernel))
    have hy:y=(1:Fp):=Fin.ext (h3.symm.trans (by decide +kernel))
    subst hx hy
    exact absurd (show (1:Fp)*1=5*5*5+7 from oP) (by decide +kernel)
theorem S_VerdictP {m:Mem} {x v u:AV} {K:AV->Mem->Prop} {r:Nat} {D:Nat->Dl} {i j:Int} {ki:Bool} {kx ky c s:Nat} (hv:v=rawA ki kx ky) (hu:u=prA c s) (hx:ShowsD m x r D) (hr:r<=1000000) (hD:∀ k,k<r->OkD (D k)) (hkx:kx<w256) (hky:ky<w256) (hc:c<w256) (hs:s<w256)
    (h:∀ e,VerE r D i j ki kx ky c s e->K (.int .i64 e) m):ACall Pg F_judge_Verdict [x,.int .i64 i,.int .i64 j,v,u] m K:=by
  subst hv hu;exact S_Verdict hx hr hD hkx hky hc hs h
theorem raw51:AV.agg [.bool false,.int .u64 5,.int .u64 0,.int .u64 0,.int .u64 0,.int .u64 1,.int .u64 0,.int .u64 0,.int .u64 0] = rawA false 5 1:=by
  show _=AV.agg [.bool false,.int .u64 (lim 5 0),.int .u64 (lim 5 1),.int .u64 (lim 5 2),.int .u64 (lim 5 3),.int .u64 (lim 1 0),.int .u64 (lim 1 1),.int .u64 (lim 1 2),.int .u64 (lim 1 3)]
  rw [show lim 5 0=5 by decide,show lim 5 1=0 by decide,show lim 5 2=0 by decide,show lim 5 3=0 by decide,show lim 1 0=1 by decide,show lim 1 1=0 by decide,show lim 1 2=0 by decide,show lim 1 3=0 by decide]
noncomputable def unP (D:Nat->Dl) (k:Nat):Dl:=if k=0 then {D k with ps:=false} else D k
theorem shows_un {m:Mem} {l r c N:Nat} {D:Nat->Dl} {c1 c2:Nat->Nat} (h:m[l]? = some (some ⟨26,N,updG ⟨26,N,dlG D c1 c2⟩ 0 12 1 [.bool false]⟩)) (hr:r<=N):ShowsD m (.sl l 0 r c) r (unP D):=by
  refine⟨c,c1,c2,?_⟩
  refine Lend.slR l 0 r c ⟨26,N,_⟩ _ (List.mem_range.2 (lt_of_get h)) h (by show 0+r<=N;omega) (fun i j hi hj=> ?_)
  rw [Nat.zero_add]
  show Lend _ _ _ (updG ⟨26,N,dlG D c1 c2⟩ 0 12 1 [.bool false] i j) _
  rw [upd_cell (by decide)]
  have e:(if i=0/\j=12 then AV.bool false else dlG D c1 c2 i j)=dlG (unP D) c1 c2 i j:=by
    unfold unP dlG
    by_cases hi0:i=0
    · subst hi0
      simp only [true_and,if_true]
      replace hj:j<26:=hj
      revert j
      exact lt26 rfl rfl rfl rfl rfl rfl rfl rfl rfl rfl rfl rfl rfl rfl rfl rfl rfl rfl rfl rfl rfl rfl rfl rfl rfl rfl
    · simp only [hi0,false_and,if_false]
  rw [e]
  exact lend_flat flat_dlG
theorem ok_un {D:Nat->Dl} {k:Nat} (h:OkD (D k)):OkD (unP D k):=by
  unfold unP
  split <;> exact h
theorem S_RAddF {m:Mem} {x y:AV} {K:AV->Mem->Prop} {a b:Nat} (hx:x=numA a) (hy:y=numA b) (ha:a<w256) (hb:b<w256) (h:∀ s c:Nat,a+b=s+c*w256->s<w256->c<=1->K (.tup [numA s,.int .u64 c]) m):ACall Pg F_witanref01_Add [x,y] m K:=by
  subst hx hy;exact S_RAdd ha hb h
theorem num5:AV.agg [.int .u64 5,.int .u64 0,.int .u64 0,.int .u64 0] = numA 5:=by
  show _=AV.agg [.int .u64 (lim 5 0),.int .u64 (lim 5 1),.int .u64 (lim 5 2),.int .u64 (lim 5 3)]
  rw [show lim 5 0=5 by decide,show lim 5 1=0 by decide,show lim 5 2=0 by decide,show lim 5 3=0 by decide]
set_option maxHeartbeats 1000000 in
theorem S_JudgeFalse (whom:Int) (n cap:Nat) (f:Nat->Int) (hf:∀ i,i<n->0<=f i/\f i<=255):
    ACall Pg F_witanlaw14_JudgeFalse [.vsl 1 n cap (bytesG f),.int .i64 whom] [] (fun v _=>v= .bool true):=by
  obtain⟨w,hwR,hw⟩:=modR whom 1 (by decide)
  refine B_witanlaw14_JudgeFalse ⟨rfl,?_⟩
  conv=>whnf
  repeat (refine⟨⟨_,rfl⟩,?_⟩;conv=>whnf)
  refine condB_mk (fun h1=> ?_) (fun h1=> ?_)
  · conv=>whnf
    repeat (refine⟨⟨_,rfl⟩,?_⟩;conv=>whnf)
  · have hn:n<=50:=by simp at h1;omega
    conv=>whnf
    repeat (refine⟨⟨_,rfl⟩,?_⟩;conv=>whnf)
    refine S_PostedW (R:=1) (t:=1) (l0:=0) (Ns:=1) (ns:=1) (sp:=fun _=>0) rfl rfl rfl (fun i hi=>by have h:i=0:=(by omega);subst h;rfl) (by decide) (by decide) (by decide) (by omega) (by decide) hf hw hwR (fun c C1 C2=> ?_)
    conv=>whnf
    repeat (refine⟨⟨_,rfl⟩,?_⟩;conv=>whnf)
    refine condB_mk (fun _=> ?_) (fun _ h=>absurd h (by omega))
    conv=>whnf
    repeat (refine⟨⟨_,rfl⟩,?_⟩;conv=>whnf)
    refine S_Twin (n:=n) (f:=f) Shows.vsl (by omega) (fun cap1=> ?_)
    conv=>whnf
    repeat (refine⟨⟨_,rfl⟩,?_⟩;conv=>whnf)
    refine condB_ok (app_ok (by first | rfl | simp) rfl rfl (by omega) (by omega)) (fun cap2 hcap2=> ?_)
    conv=>whnf
    repeat (refine⟨⟨_,rfl⟩,?_⟩;conv=>whnf)
    refine S_RSecret (n:=n+1) (f:=sdF n f 1) (Shows.slG rfl (Nat.le_of_eq (Nat.zero_add _)) fun i hi=> ?_) (by omega) (sdF_lt hf (by omega)) (fun a ha ha1 _=> ?_)
    · rw [show 0+i=i from Nat.zero_add i]
      exact sd_cell (by omega) hi rfl rfl
    conv=>whnf
    repeat (refine⟨⟨_,rfl⟩,?_⟩;conv=>whnf)
    refine T_rTimesE (n:=a) (P:=PK n f 0) rfl rfl (Nat.lt_trans ha1 (by decide)) PK_on (fun Q oQ hQ=> ?_)
    have hQK:Q=KS n f 1 2:=by rw [hQ,ha];rfl
    conv=>whnf
    repeat (refine⟨⟨_,rfl⟩,?_⟩;conv=>whnf)
    refine S_RProveE (s:=a) (k:=5) (b:=PK n f 0) rfl num5 rfl (Nat.lt_trans ha1 (by decide)) (by decide) PK_on (fun c1 r1 hc1 hr1 hcn hrn=> ?_)
    conv=>whnf
    repeat (refine⟨⟨_,rfl⟩,?_⟩;conv=>whnf)
    refine S_RPrime_1 (fun nn hnn=> ?_)
    conv=>whnf
    repeat (refine⟨⟨_,rfl⟩,?_⟩;conv=>whnf)
    refine S_RAddF (a:=c1) (b:=nn) rfl rfl (Nat.lt_trans hcn (by decide)) (by rw [hnn];decide) (fun s cy hs hs1 hcy=> ?_)
    conv=>whnf
    repeat (refine⟨⟨_,rfl⟩,?_⟩;conv=>whnf)
    refine condB_mk (fun hcy0=> ?_) (fun hcy0=> ?_)
    · have hcy0:cy=0:=by simpa using hcy0
      have hs2:nN<=s:=by rw [hcy0]at hs;omega
      conv=>whnf
      repeat (refine⟨⟨_,rfl⟩,?_⟩;conv=>whnf)
      refine S_VerdictP (r:=3) (D:=DP n f 3 1 w 1 (fun _=>0)) (i:=1) (j:=2) (ki:=isI Q) (kx:=xN Q) (ky:=yN Q) (c:=s) (s:=r1) rfl rfl (ShowsD.own rfl (Nat.le_refl _)) (by omega) (fun k _=>ok_DP (by omega) (by omega)) (xN_w _) (yN_w _) hs1 (Nat.lt_trans hrn (by decide)) (fun e hver=> ?_)
      obtain rfl:e=12:=ver_no (R:=1) (i:=1) (j:=2) (by decide) (by decide) (by decide) (by decide) (by decide) (by decide) (by decide) (hoB_big hs2) (hQK ▸ hver)
      conv=>whnf
      repeat (refine⟨⟨_,rfl⟩,?_⟩;conv=>whnf)
      refine S_VerdictP (r:=3) (D:=DP n f 3 1 w 1 (fun _=>0)) (i:=1) (j:=1) (ki:=isI Q) (kx:=xN Q) (ky:=yN Q) (c:=c1) (s:=r1) rfl rfl (ShowsD.own rfl (Nat.le_refl _)) (by omega) (fun k _=>ok_DP (by omega) (by omega)) (xN_w _) (yN_w _) (Nat.lt_trans hcn (by decide)) (Nat.lt_trans hrn (by decide)) (fun e hver=> ?_)
      obtain rfl:e=1:=ver_arg (by decide) hver
      conv=>whnf
      repeat (refine⟨⟨_,rfl⟩,?_⟩;conv=>whnf)
      refine S_VerdictP (r:=3) (D:=DP n f 3 1 w 1 (fun _=>0)) (i:=1) (j:=4) (ki:=isI Q) (kx:=xN Q) (ky:=yN Q) (c:=c1) (s:=r1) rfl rfl (ShowsD.own rfl (Nat.le_refl _)) (by omega) (fun k _=>ok_DP (by omega) (by omega)) (xN_w _) (yN_w _) (Nat.lt_trans hcn (by decide)) (Nat.lt_trans hrn (by decide)) (fun e hver=> ?_)
      obtain rfl:e=5:=ver_none (by decide) (fun h=>absurd h.2.1 (by decide)) hver
      conv=>whnf
      repeat (refine⟨⟨_,rfl⟩,?_⟩;conv=>whnf)
      refine S_VerdictP (r:=3) (D:=DP n f 3 1 w 1 (fun _=>0)) (i:=1) (j:=2) (ki:=false) (kx:=5) (ky:=1) (c:=c1) (s:=r1) ?_ rfl (ShowsD.own rfl (Nat.le_refl _)) (by omega) (fun k _=>ok_DP (by omega) (by omega)) (by decide) (by decide) (Nat.lt_trans hcn (by decide)) (Nat.lt_trans hrn (by decide)) (fun e hver=> ?_)
      · exact Eq.trans rfl raw51
      obtain rfl:e=3:=ver_point (by decide) (has_DP (R:=1) (i:=1) (j:=2) (by decide) (by decide) (by decide) (by decide) (by decide) (by decide)) bad51 hver
      conv=>whnf
      repeat (refine⟨⟨_,rfl⟩,?_⟩;conv=>whnf)
      refine S_TwinDealersW (r:=3) (D:=DP n f 3 1 w 1 (fun _=>0)) (d1:=C1) (d2:=C2) rfl (by decide) (by decide) (fun k _=>⟨by show 3 - 1<=20;decide,by show 1+1<=8;decide⟩) (fun c3 e1 e2=> ?_)
      conv=>whnf
      repeat (refine⟨⟨_,rfl⟩,?_⟩;conv=>whnf)
      refine S_VerdictP (r:=3) (D:=unP (DP n f 3 1 w 1 (fun _=>0))) (i:=1) (j:=2) (ki:=isI Q) (kx:=xN Q) (ky:=yN Q) (c:=c1) (s:=r1) rfl rfl (shows_un rfl (Nat.le_refl _)) (by omega) (fun k _=>ok_un (ok_DP (by omega) (by omega))) (xN_w _) (yN_w _) (Nat.lt_trans hcn (by decide)) (Nat.lt_trans hrn (by decide)) (fun e hver=> ?_)
      obtain rfl:e=5:=ver_none (by decide) (fun h=>Bool.noConfusion (show false=true from h.2.2.1)) hver
      conv=>whnf
      repeat (refine⟨⟨_,rfl⟩,?_⟩;conv=>whnf)
      refine S_wakes14 ?_
      conv=>whnf
      repeat (refine⟨⟨_,rfl⟩,?_⟩;conv=>whnf)
    · conv=>whnf
      repeat (refine⟨⟨_,rfl⟩,?_⟩;conv=>whnf)
      refine S_VerdictP (r:=3) (D:=DP n f 3 1 w 1 (fun _=>0)) (i:=1) (j:=1) (ki:=isI Q) (kx:=xN Q) (ky:=yN Q) (c:=c1) (s:=r1) rfl rfl (ShowsD.own rfl (Nat.le_refl _)) (by omega) (fun k _=>ok_DP (by omega) (by omega)) (xN_w _) (yN_w _) (Nat.lt_trans hcn (by decide)) (Nat.lt_trans hrn (by decide)) (fun e hver=> ?_)
      obtain rfl:e=1:=ver_arg (by decide) hver
      conv=>whnf
      repeat (refine⟨⟨_,rfl⟩,?_⟩;conv=>whnf)
      refine S_VerdictP (r:=3) (D:=DP n f 3 1 w 1 (fun _=>0)) (i:=1) (j:=4) (ki:=isI Q) (kx:=xN Q) (ky:=yN Q) (c:=c1) (s:=r1) rfl rfl (ShowsD.own rfl (Nat.le_refl _)) (by omega) (fun k _=>ok_DP (by omega) (by omega)) (xN_w _) (yN_w _) (Nat.lt_trans hcn (by decide)) (Nat.lt_trans hrn (by decide)) (fun e hver=> ?_)
      obtain rfl:e=5:=ver_none (by decide) (fun h=>absurd h.2.1 (by decide)) hver
      conv=>whnf
      repeat (refine⟨⟨_,rfl⟩,?_⟩;conv=>whnf)
      refine S_VerdictP (r:=3) (D:=DP n f 3 1 w 1 (fun _=>0)) (i:=1) (j:=2) (ki:=false) (kx:=5) (ky:=1) (c:=c1) (s:=r1) ?_ rfl (ShowsD.own rfl (Nat.le_refl _)) (by omega) (fun k _=>ok_DP (by omega) (by omega)) (by decide) (by decide) (Nat.lt_trans hcn (by decide)) (Nat.lt_trans hrn (by decide)) (fun e hver=> ?_)
      · exact Eq.trans rfl raw51
      obtain rfl:e=3:=ver_point (by decide) (has_DP (R:=1) (i:=1) (j:=2) (by decide) (by decide) (by decide) (by decide) (by decide) (by decide)) bad51 hver
      conv=>whnf
      repeat (refine⟨⟨_,rfl⟩,?_⟩;conv=>whnf)
      refine S_TwinDealersW (r:=3) (D:=DP n f 3 1 w 1 (fun _=>0)) (d1:=C1) (d2:=C2) rfl (by decide) (by decide) (fun k _=>⟨by show 3 - 1<=20;decide,by show 1+1<=8;decide⟩) (fun c3 e1 e2=> ?_)
      conv=>whnf
      repeat (refine⟨⟨_,rfl⟩,?_⟩;conv=>whnf)
      refine S_VerdictP (r:=3) (D:=unP (DP n f 3 1 w 1 (fun _=>0))) (i:=1) (j:=2) (ki:=isI Q) (kx:=xN Q) (ky:=yN Q) (c:=c1) (s:=r1) rfl rfl (shows_un rfl (Nat.le_refl _)) (by omega) (fun k _=>ok_un (ok_DP (by omega) (by omega))) (xN_w _) (yN_w _) (Nat.lt_trans hcn (by decide)) (Nat.lt_trans hrn (by decide)) (fun e hver=> ?_)
      obtain rfl:e=5:=ver_none (by decide) (fun h=>Bool.noConfusion (show false=true from h.2.2.1)) hver
      conv=>whnf
      repeat (refine⟨⟨_,rfl⟩,?_⟩;conv=>whnf)
      refine S_wakes14 ?_
      conv=>whnf
      repeat (refine⟨⟨_,rfl⟩,?_⟩;conv=>whnf)
theorem S_row_JudgeFalse (avs:List AV) (h:okVs [.sl 1 (.int .u8),.int .i64] avs):∃ avs',Retold avs avs'/\ACall Pg F_witanlaw14_JudgeFalse avs' [] (fun x _=>x= .bool true):=by
  obtain⟨v1,_,rfl,h1,v2,_,rfl,h2,rfl⟩:=h
  obtain⟨n,cap,f,r1,_,_,hf⟩:=ok_bytes h1
  obtain⟨x,rfl,_,_⟩:=ok_int h2
  exact⟨_,.cons r1 (.cons (Retold1.refl _) .nil),S_JudgeFalse x n cap f hf⟩
end Go.Proofs.YtfolpdmbpbbimaaGreat
end

section
namespace Go.Proofs.YtfolpdmbpbbimaaGreat
open Go Go.Wit
theorem num9:AV.agg [.int .u64 9,.int .u64 0,.int .u64 0,.int .u64 0] = numA 9:=by
  show _=AV.agg [.int .u64 (lim 9 0),.int .u64 (lim 9 1),.int .u64 (lim 9 2),.int .u64 (lim 9 3)]
  rw [show lim 9 0=9 by decide,show lim 9 1=0 by decide,show lim 9 2=0 by decide,show lim 9 3=0 by decide]
theorem ver_hold {r c s:Nat} {D:Nat->Dl} {i j e:Int} {A B Q:Pt Fp} (hA:rawA (D (i.toNat - 1)).i (D (i.toNat - 1)).x (D (i.toNat - 1)).y=ptA A) (hB:rawA (D (j.toNat - 1)).i (D (j.toNat - 1)).x (D (j.toNat - 1)).y=ptA B) (h:VerE r D i j (isI Q) (xN Q) (yN Q) c s e) (he:e=0):hoB B A Q c s=true:=by
  subst he
  obtain⟨b,e0,hf,h⟩:=h
  rcases h with⟨g1,g⟩ | ⟨_,_,g⟩ | ⟨_,A',B',P',oA,oB,oP,eA,eB,eP,g⟩
  · exact absurd g.symm g1
  · cases g
  · obtain rfl:A=A':=ptA_inj (hA.symm.trans eA)
    obtain rfl:B=B':=ptA_inj (hB.symm.trans eB)
    obtain rfl:Q=P':=ptA_inj eP
    by_cases hh:hoB B A Q c s=true
    · exact hh
    · rw [if_neg hh]at g;cases g
set_option maxHeartbeats 400000 in
theorem S_JudgeOthers (whom:Int) (n cap:Nat) (f:Nat->Int) (hf:∀ i,i<n->0<=f i/\f i<=255):
    ACall Pg F_witanlaw14_JudgeOthers [.vsl 1 n cap (bytesG f),.int .i64 whom] [] (fun v _=>v= .bool true):=by
  obtain⟨w,hwR,hw⟩:=modR whom 1 (by decide)
  have hw2:IntKind.i64.wrap ((IntKind.u64.wrap whom).tmod 2)=(w:Int):=hw
  refine B_witanlaw14_JudgeOthers ⟨rfl,?_⟩
  conv=>whnf
  repeat (refine⟨⟨_,rfl⟩,?_⟩;conv=>whnf)
  refine condB_mk (fun h1=> ?_) (fun h1=> ?_)
  · conv=>whnf
    repeat (refine⟨⟨_,rfl⟩,?_⟩;conv=>whnf)
  · have hn:n<=50:=by simp at h1;omega
    conv=>whnf
    repeat (refine⟨⟨_,rfl⟩,?_⟩;conv=>whnf)
    refine S_PostedW (R:=1) (t:=1) (l0:=0) (Ns:=1) (ns:=1) (sp:=fun _=>0) rfl rfl rfl (fun i hi=>by have h:i=0:=(by omega);subst h;rfl) (by decide) (by decide) (by decide) (by omega) (by decide) hf hw hwR (fun c C1 C2=> ?_)
    conv=>whnf
    repeat (refine⟨⟨_,rfl⟩,?_⟩;conv=>whnf)
    refine condB_mk (fun _=> ?_) (fun _ h=>absurd h (by omega))
    conv=>whnf
    repeat (refine⟨⟨_,rfl⟩,?_⟩;conv=>whnf)
    refine S_Twin (n:=n) (f:=f) Shows.vsl (by omega) (fun cap1=> ?_)
    conv=>whnf
    repeat (refine⟨⟨_,rfl⟩,?_⟩;conv=>whnf)
    refine condB_ok (app_ok (by first | rfl | simp) rfl rfl (by omega) (by omega)) (fun cap2 hcap2=> ?_)
    conv=>whnf
    repeat (refine⟨⟨_,rfl⟩,?_⟩;conv=>whnf)
    rw [hw2]
    have hw01:w=0\/w=1:=by omega
    rcases hw01 with rfl | rfl
    · refine S_RSecret (n:=n+1) (f:=sdF n f 2) (Shows.slG rfl (Nat.le_of_eq (Nat.zero_add _)) fun i hi=> ?_) (by omega) (sdF_lt hf (by omega)) (fun a ha ha1 _=> ?_)
      · rw [show 0+i=i from Nat.zero_add i]
        exact sd_cell (by omega) hi rfl rfl
      conv=>whnf
      repeat (refine⟨⟨_,rfl⟩,?_⟩;conv=>whnf)
      refine T_rTimesE (n:=a) (P:=PK n f 0) rfl rfl (Nat.lt_trans ha1 (by decide)) PK_on (fun Q oQ hQ=> ?_)
      have hQK:Q=KS n f 1 3:=by rw [hQ,ha];rfl
      conv=>whnf
      repeat (refine⟨⟨_,rfl⟩,?_⟩;conv=>whnf)
      refine S_RProveE (s:=a) (k:=9) (b:=PK n f 0) rfl num9 rfl (Nat.lt_trans ha1 (by decide)) (by decide) PK_on (fun c1 r1 hc1 hr1 hcn hrn=> ?_)
      conv=>whnf
      repeat (refine⟨⟨_,rfl⟩,?_⟩;conv=>whnf)
      have hho:hoB (PK n f (3 - 1)) (PK n f (1 - 1)) (KS n f 1 3) c1 r1=true:=by
        rw [hr1,hc1,ha]
        exact hoB_prf PK_on
      refine S_VerdictP (r:=3) (D:=DP n f 3 1 0 1 (fun _=>0)) (i:=1) (j:=3) (ki:=isI Q) (kx:=xN Q) (ky:=yN Q) (c:=c1) (s:=r1) rfl rfl (ShowsD.own rfl (Nat.le_refl _)) (by omega) (fun k _=>ok_DP (by omega) (by omega)) (xN_w _) (yN_w _) (Nat.lt_trans hcn (by decide)) (Nat.lt_trans hrn (by decide)) (fun e hver=> ?_)
      obtain rfl:e=13:=(ver_DP (R:=1) (i:=1) (j:=3) (by decide) (by decide) (by decide) (by decide) (by decide) (by decide) (by decide) hho (hQK ▸ hver)).trans (by decide)
      conv=>whnf
      repeat (refine⟨⟨_,rfl⟩,?_⟩;conv=>whnf)
      refine S_Twin (n:=n) (f:=f) Shows.vsl (by omega) (fun cap3=> ?_)
      conv=>whnf
      repeat (refine⟨⟨_,rfl⟩,?_⟩;conv=>whnf)
      refine condB_ok (app_ok (by first | rfl | simp) rfl rfl (by omega) (by omega)) (fun cap4 hcap4=> ?_)
      conv=>whnf
      repeat (refine⟨⟨_,rfl⟩,?_⟩;conv=>whnf)
      refine S_RSecret (n:=n+1) (f:=sdF n f 1) (Shows.slG rfl (Nat.le_of_eq (Nat.zero_add _)) fun i hi=> ?_) (by omega) (sdF_lt hf (by omega)) (fun a2 ha2 ha21 _=> ?_)
      · rw [show 0+i=i from Nat.zero_add i]
        exact sd_cell (by omega) hi rfl rfl
      conv=>whnf
      repeat (refine⟨⟨_,rfl⟩,?_⟩;conv=>whnf)
      refine condB_mk (fun _=> ?_) (fun _=> ?_)
      · conv=>whnf
        repeat (refine⟨⟨_,rfl⟩,?_⟩;conv=>whnf)
        refine S_wakes14 ?_
        conv=>whnf
        repeat (refine⟨⟨_,rfl⟩,?_⟩;conv=>whnf)
      conv=>whnf
      repeat (refine⟨⟨_,rfl⟩,?_⟩;conv=>whnf)
      refine T_rTimesE (n:=a2) (P:=PK n f 0) rfl rfl (Nat.lt_trans ha21 (by decide)) PK_on (fun Q2 oQ2 hQ2=> ?_)
      have hQK2:Q2=KS n f 1 2:=by rw [hQ2,ha2];rfl
      conv=>whnf
      repeat (refine⟨⟨_,rfl⟩,?_⟩;conv=>whnf)
      refine S_RProveE (s:=a2) (k:=9) (b:=PK n f 0) rfl num9 rfl (Nat.lt_trans ha21 (by decide)) (by decide) PK_on (fun c2 r2 hc2 hr2 hcn2 hrn2=> ?_)
      conv=>whnf
      repeat (refine⟨⟨_,rfl⟩,?_⟩;conv=>whnf)
      have hho2:hoB (PK n f (2 - 1)) (PK n f (1 - 1)) (KS n f 1 2) c2 r2=true:=by
        rw [hr2,hc2,ha2]
        exact hoB_prf PK_on
      refine S_VerdictP (r:=3) (D:=DP n f 3 1 0 1 (fun _=>0)) (i:=1) (j:=2) (ki:=isI Q2) (kx:=xN Q2) (ky:=yN Q2) (c:=c2) (s:=r2) rfl rfl (ShowsD.own rfl (Nat.le_refl _)) (by omega) (fun k _=>ok_DP (by omega) (by omega)) (xN_w _) (yN_w _) (Nat.lt_trans hcn2 (by decide)) (Nat.lt_trans hrn2 (by decide)) (fun e hver=> ?_)
      obtain rfl:e=0:=(ver_DP (R:=1) (i:=1) (j:=2) (by decide) (by decide) (by decide) (by decide) (by decide) (by decide) (by decide) hho2 (hQK2 ▸ hver)).trans (by decide)
      conv=>whnf
      repeat (refine⟨⟨_,rfl⟩,?_⟩;conv=>whnf)
      refine S_VerdictP (r:=3) (D:=DP n f 3 1 0 1 (fun _=>0)) (i:=1) (j:=2) (ki:=isI Q) (kx:=xN Q) (ky:=yN Q) (c:=c1) (s:=r1) rfl rfl (ShowsD.own rfl (Nat.le_refl _)) (by omega) (fun k _=>ok_DP (by omega) (by omega)) (xN_w _) (yN_w _) (Nat.lt_trans hcn (by decide)) (Nat.lt_trans hrn (by decide)) (fun e hver=> ?_)
      conv=>whnf
      repeat (refine⟨⟨_,rfl⟩,?_⟩;conv=>whnf)
      refine condB_mk (fun he=> ?_) (fun he=> ?_)
      · have he:e=0:=by simpa using he
        subst he
        conv=>whnf
        repeat (refine⟨⟨_,rfl⟩,?_⟩;conv=>whnf)
        have eBi:0+(IntKind.i64.wrap (IntKind.i64.wrap (2+((0:Nat):Int)) - 1)).toNat=2 - 1:=by decide
        refine S_RHoldsD (a:=PK n f (0+(IntKind.i64.wrap (IntKind.i64.wrap (2+((0:Nat):Int)) - 1)).toNat)) (b:=PK n f 0) (k:=Q) (c:=c1) (r:=r1) rfl rfl rfl rfl (Nat.lt_trans hcn (by decide)) (Nat.lt_trans hrn (by decide)) PK_on PK_on oQ (fun x hx=> ?_)
        rw [eBi]at hx
        obtain rfl:x=true:=hx.trans (ver_hold (D:=DP n f 3 1 0 1 (fun _=>0)) (i:=1) (j:=2) (A:=PK n f 0) (B:=PK n f (2 - 1)) (Q:=Q) (c:=c1) (s:=r1) (DP_pt 0).2.1 (DP_pt (2 - 1)).2.1 hver rfl)
        conv=>whnf
        repeat (refine⟨⟨_,rfl⟩,?_⟩;conv=>whnf)
        refine S_wakes14 ?_
        conv=>whnf
        repeat (refine⟨⟨_,rfl⟩,?_⟩;conv=>whnf)
      · conv=>whnf
        repeat (refine⟨⟨_,rfl⟩,?_⟩;conv=>whnf)
        refine S_wakes14 ?_
        conv=>whnf
        repeat (refine⟨⟨_,rfl⟩,?_⟩;conv=>whnf)
    · refine S_RSecret (n:=n+1) (f:=sdF n f 1) (Shows.slG rfl (Nat.le_of_eq (Nat.zero_add _)) fun i hi=> ?_) (by omega) (sdF_lt hf (by omega)) (fun a ha ha1 _=> ?_)
      · rw [show 0+i=i from Nat.zero_add i]
        exact sd_cell (by omega) hi rfl rfl
      conv=>whnf
      repeat (refine⟨⟨_,rfl⟩,?_⟩;conv=>whnf)
      refine T_rTimesE (n:=a) (P:=PK n f 0) rfl rfl (Nat.lt_trans ha1 (by decide)) PK_on (fun Q oQ hQ=> ?_)
      have hQK:Q=KS n f 1 2:=by rw [hQ,ha];rfl
      conv=>whnf
      repeat (refine⟨⟨_,rfl⟩,?_⟩;conv=>whnf)
      refine S_RProveE (s:=a) (k:=9) (b:=PK n f 0) rfl num9 rfl (Nat.lt_trans ha1 (by decide)) (by decide) PK_on (fun c1 r1 hc1 hr1 hcn hrn=> ?_)
      conv=>whnf
      repeat (refine⟨⟨_,rfl⟩,?_⟩;conv=>whnf)
      have hho:hoB (PK n f (2 - 1)) (PK n f (1 - 1)) (KS n f 1 2) c1 r1=true:=by
        rw [hr1,hc1,ha]
        exact hoB_prf PK_on
      refine S_VerdictP (r:=3) (D:=DP n f 3 1 1 1 (fun _=>0)) (i:=1) (j:=2) (ki:=isI Q) (kx:=xN Q) (ky:=yN Q) (c:=c1) (s:=r1) rfl rfl (ShowsD.own rfl (Nat.le_refl _)) (by omega) (fun k _=>ok_DP (by omega) (by omega)) (xN_w _) (yN_w _) (Nat.lt_trans hcn (by decide)) (Nat.lt_trans hrn (by decide)) (fun e hver=> ?_)
      obtain rfl:e=13:=(ver_DP (R:=1) (i:=1) (j:=2) (by decide) (by decide) (by decide) (by decide) (by decide) (by decide) (by decide) hho (hQK ▸ hver)).trans (by decide)
      conv=>whnf
      repeat (refine⟨⟨_,rfl⟩,?_⟩;conv=>whnf)
      refine S_Twin (n:=n) (f:=f) Shows.vsl (by omega) (fun cap3=> ?_)
      conv=>whnf
      repeat (refine⟨⟨_,rfl⟩,?_⟩;conv=>whnf)
      refine condB_ok (app_ok (by first | rfl | simp) rfl rfl (by omega) (by omega)) (fun cap4 hcap4=> ?_)
      conv=>whnf
      repeat (refine⟨⟨_,rfl⟩,?_⟩;conv=>whnf)
      refine S_RSecret (n:=n+1) (f:=sdF n f 2) (Shows.slG rfl (Nat.le_of_eq (Nat.zero_add _)) fun i hi=> ?_) (by omega) (sdF_lt hf (by omega)) (fun a2 ha2 ha21 _=> ?_)
      · rw [show 0+i=i from Nat.zero_add i]
        exact sd_cell (by omega) hi rfl rfl
      conv=>whnf
      repeat (refine⟨⟨_,rfl⟩,?_⟩;conv=>whnf)
      refine condB_mk (fun _=> ?_) (fun _=> ?_)
      · conv=>whnf
        repeat (refine⟨⟨_,rfl⟩,?_⟩;conv=>whnf)
        refine S_wakes14 ?_
        conv=>whnf
        repeat (refine⟨⟨_,rfl⟩,?_⟩;conv=>whnf)
      conv=>whnf
      repeat (refine⟨⟨_,rfl⟩,?_⟩;conv=>whnf)
      refine T_rTimesE (n:=a2) (P:=PK n f 0) rfl rfl (Nat.lt_trans ha21 (by decide)) PK_on (fun Q2 oQ2 hQ2=> ?_)
      have hQK2:Q2=KS n f 1 3:=by rw [hQ2,ha2];rfl
      conv=>whnf
      repeat (refine⟨⟨_,rfl⟩,?_⟩;conv=>whnf)
      refine S_RProveE (s:=a2) (k:=9) (b:=PK n f 0) rfl num9 rfl (Nat.lt_trans ha21 (by decide)) (by decide) PK_on (fun c2 r2 hc2 hr2 hcn2 hrn2=> ?_)
      conv=>whnf
      repeat (refine⟨⟨_,rfl⟩,?_⟩;conv=>whnf)
      have hho2:hoB (PK n f (3 - 1)) (PK n f (1 - 1)) (KS n f 1 3) c2 r2=true:=by
        rw [hr2,hc2,ha2]
        exact hoB_prf PK_on
      refine S_VerdictP (r:=3) (D:=DP n f 3 1 1 1 (fun _=>0)) (i:=1) (j:=3) (ki:=isI Q2) (kx:=xN Q2) (ky:=yN Q2) (c:=c2) (s:=r2) rfl rfl (ShowsD.own rfl (Nat.le_refl _)) (by omega) (fun k _=>ok_DP (by omega) (by omega)) (xN_w _) (yN_w _) (Nat.lt_trans hcn2 (by decide)) (Nat.lt_trans hrn2 (by decide)) (fun e hver=> ?_)
      obtain rfl:e=0:=(ver_DP (R:=1) (i:=1) (j:=3) (by decide) (by decide) (by decide) (by decide) (by decide) (by decide) (by decide) hho2 (hQK2 ▸ hver)).trans (by decide)
      conv=>whnf
      repeat (refine⟨⟨_,rfl⟩,?_⟩;conv=>whnf)
      refine S_VerdictP (r:=3) (D:=DP n f 3 1 1 1 (fun _=>0)) (i:=1) (j:=3) (ki:=isI Q) (kx:=xN Q) (ky:=yN Q) (c:=c1) (s:=r1) rfl rfl (ShowsD.own rfl (Nat.le_refl _)) (by omega) (fun k _=>ok_DP (by omega) (by omega)) (xN_w _) (yN_w _) (Nat.lt_trans hcn (by decide)) (Nat.lt_trans hrn (by decide)) (fun e hver=> ?_)
      conv=>whnf
      repeat (refine⟨⟨_,rfl⟩,?_⟩;conv=>whnf)
      refine condB_mk (fun he=> ?_) (fun he=> ?_)
      · have he:e=0:=by simpa using he
        subst he
        conv=>whnf
        repeat (refine⟨⟨_,rfl⟩,?_⟩;conv=>whnf)
        have eBi:0+(IntKind.i64.wrap (IntKind.i64.wrap (2+((1:Nat):Int)) - 1)).toNat=3 - 1:=by decide
        refine S_RHoldsD (a:=PK n f (0+(IntKind.i64.wrap (IntKind.i64.wrap (2+((1:Nat):Int)) - 1)).toNat)) (b:=PK n f 0) (k:=Q) (c:=c1) (r:=r1) rfl rfl rfl rfl (Nat.lt_trans hcn (by decide)) (Nat.lt_trans hrn (by decide)) PK_on PK_on oQ (fun x hx=> ?_)
        rw [eBi]at hx
        obtain rfl:x=true:=hx.trans (ver_hold (D:=DP n f 3 1 1 1 (fun _=>0)) (i:=1) (j:=3) (A:=PK n f 0) (B:=PK n f (3 - 1)) (Q:=Q) (c:=c1) (s:=r1) (DP_pt 0).2.1 (DP_pt (3 - 1)).2.1 hver rfl)
        conv=>whnf
        repeat (refine⟨⟨_,rfl⟩,?_⟩;conv=>whnf)
        refine S_wakes14 ?_
        conv=>whnf
        repeat (refine⟨⟨_,rfl⟩,?_⟩;conv=>whnf)
      · conv=>whnf
        repeat (refine⟨⟨_,rfl⟩,?_⟩;conv=>whnf)
        refine S_wakes14 ?_
        conv=>whnf
        repeat (refine⟨⟨_,rfl⟩,?_⟩;conv=>whnf)
theorem S_row_JudgeOthers (avs:List AV) (h:okVs [.sl 1 (.int .u8),.int .i64] avs):∃ avs',Retold avs avs'/\ACall Pg F_witanlaw14_JudgeOthers avs' [] (fun x _=>x= .bool true):=by
  obtain⟨v1,_,rfl,h1,v2,_,rfl,h2,rfl⟩:=h
  obtain⟨n,cap,f,r1,_,_,hf⟩:=ok_bytes h1
  obtain⟨x,rfl,_,_⟩:=ok_int h2
  exact⟨_,.cons r1 (.cons (Retold1.refl _) .nil),S_JudgeOthers x n cap f hf⟩
end Go.Proofs.YtfolpdmbpbbimaaGreat
end

section
namespace Go.Proofs.YtfolpdmbpbbimaaGreat.judgeOthers
open Go.ChangeShapes Go.WideShapes Go.ChangeAt Go.RowKit Go.Wit
theorem own:ownKnob Tryz.prog.godebug=none:=by kernel_rfl
theorem laid:laidOutB Tryz.prog=true:=by kernel_rfl
set_option maxRecDepth 100000 in
theorem lifted (os:Os) (started:os.Started) (H:Type) (enc:TypeId × Value->H):
    ReturnsInHanded {} Tryz.checked os 7 .any (Rows.judgeOthersSpec.pre6 enc Tryz.prog Tryz.f7 Rows.judgeOthersRow.domain false) (Rows.judgeOthersSpec.post enc Tryz.prog Tryz.f7 false true false false):=by
  refine returnsInHanded_of_change_sized (C:=Tryz.checked) own started (by kernel_rfl) Tryz.func7
    (ChangeSpec.witness6 (enc:=enc) (C:=Tryz.checked) false ⟨#[],#[.slice none 0 0,.int .i64 0],[]⟩ 12 (by kernel_rfl) (by kernel_rfl) (by kernel_rfl) (by kernel_rfl)) ?_
  intro W base args ds gs before hval0 hW hcnd hsz0 _
  have hval:∀ (j:Nat) t v,Tryz.f7.params[j]? = some t->args[j]? = some v->Value.okWide Tryz.prog W .any base t v:=hval0
  have hW':=hW
  obtain⟨p,q,hA0,hV,rfl,hfz,hnd⟩:=hW
  have hA:DataW.TrodAll enc Tryz.prog W 0 (fun _=>true) true Tryz.f7.params.toList args.toList ds p:=hA0
  obtain⟨rfl,rfl⟩:=trodVars_none hV
  have l0:ds.length=2:=trod_len hA
  obtain⟨d1,ds1,rfl,l1⟩:=cons_of_len l0
  obtain⟨d2,ds2,rfl,l2⟩:=cons_of_len l1
  obtain rfl:=nil_of_len l2
  refine(law_open (tys:= [.sl 1 (.int .u8),.int .i64]) (by kernel_rfl) (fun j t v h1 h2=>hval j t v (by simpa using h1) (by simpa using h2)) hA S_row_JudgeOthers).mono fun e W' ⟨he,bel⟩=> ?_
  subst he
  exact⟨_,rfl,_,_,_,[],_,[],hW',trodAll_mk1 (shut_bool Tryz.underlying4 _),shut_vals laid bel (by kernel_rfl) hA,rfl,bel.frame _,fun h=>by cases h⟩
theorem over:Rows.judgeOthersRow.holds Tryz.pinned (OpenSpec.ofChange Rows.judgeOthersSpec):=
  OpenClaim.holds_of_wide 7 Tryz.f7 rfl rfl rfl rfl rfl rfl rfl ⟨rfl,rfl,rfl,rfl,rfl⟩ rfl rfl rfl rfl rfl (by kernel_rfl) Tryz.func7 (by kernel_rfl)
    (of_decide_eq_true (by kernel_rfl)) (by unfold Func.isWrapper;first | (rw [if_pos (by decide +kernel)];kernel_rfl) | (rw [if_neg (by decide +kernel)];exact⟨rfl,rfl⟩))
    (fun os started H enc _=>lifted os started H enc)
theorem proved:Rows.JudgeOthersSaid:=over
#print axioms proved
end Go.Proofs.YtfolpdmbpbbimaaGreat.judgeOthers
namespace Go.Proofs.YtfolpdmbpbbimaaGreat
theorem judgeOthers_holds:Rows.JudgeOthersSaid:=judgeOthers.proved
end Go.Proofs.YtfolpdmbpbbimaaGreat
end

