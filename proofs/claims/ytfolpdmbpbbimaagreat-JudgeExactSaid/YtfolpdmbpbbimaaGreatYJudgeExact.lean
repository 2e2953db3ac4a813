/- Texts of a proof, one behind the other; the last of these: The law JudgeExact answers true for all that it may be handed: its row; no condition. -/
import Derived.Test.YtfolpdmbpbbimaaGreatZ9
import Derived.Test.YtfolpdmbpbbimaaGreatRows
import Derived.WalkKit
import Derived.ProofKit
import Derived.OpenShut
import Derived.ShutString
import Derived.ChangeOld
import Derived.Below
import Derived.SizedLaws
set_option linter.unusedVariables false
set_option linter.unusedSimpArgs false
set_option maxRecDepth 100000
section
namespace Go.Proofs.YtfolpdmbpbbimaaGreat
open Go Go.Wit
theorem iH {m:Mem} {K:AV->Mem->Prop} (h:K (.bool true) m):ACall Pg cK [] m K:=by
 have h0:ACall Pg cK [] [] (fun v _=>v= .bool true/\Flat true v):=by
  refine vQ ⟨rfl,?_⟩
  conv=>whnf
  repeat (refine⟨⟨_,rfl⟩,?_⟩;conv=>whnf)
  refine S_Place (fun _ p hp=> ?_) (fun h=>absurd h (by decide))
  conv=>whnf
  repeat (refine⟨⟨_,rfl⟩,?_⟩;conv=>whnf)
  refine S_Place (fun _ q hq=> ?_) (fun h=>absurd h (by decide))
  conv=>whnf
  repeat (refine⟨⟨_,rfl⟩,?_⟩;conv=>whnf)
  refine S_Place (fun h=>absurd h (by decide)) (fun _=> ?_)
  have hp:p=0:=by rw [hp];decide
  have hq:q=1:=by rw [hq];decide
  subst hp hq
  conv=>whnf
  repeat (refine⟨⟨_,rfl⟩,?_⟩;conv=>whnf)
  exact⟨rfl,.bool _⟩
 refine aD h0 .nil ?_
 rintro v rfl
 exact h
theorem S_JudgeExact (r cap:Nat) (D:Nat->Dl) (d1 d2:Nat->Nat) (i j:Int) (ki:Bool) (kx ky c s:Nat) (hD:∀ k,k<r->OkZ (D k)) (hkx:kx<w256) (hky:ky<w256) (hc:c<w256) (hs:s<w256):
 ACall Pg gP [.vsl 26 r cap (dlG D d1 d2),.int .i64 i,.int .i64 j,rawA ki kx ky,prA c s] [] (fun v _=>v= .bool true):=by
 refine pW ⟨rfl,?_⟩
 conv=>whnf
 repeat (refine⟨⟨_,rfl⟩,?_⟩;conv=>whnf)
 refine S_Heavy .vsl (fun _=> ?_) (fun hr hN=> ?_)
 · conv=>whnf
   repeat (refine⟨⟨_,rfl⟩,?_⟩;conv=>whnf)
 have hO:∀ k,k<r->OkD (D k):=fun k hk=>(hD k hk).ok (by have:=(hN k hk).1;omega) (by have:=(hN k hk).2;omega)
 conv=>whnf
 repeat (refine⟨⟨_,rfl⟩,?_⟩;conv=>whnf)
 refine S_TwinDealers hr hN (fun cap2 c1 c2=> ?_)
 conv=>whnf
 repeat (refine⟨⟨_,rfl⟩,?_⟩;conv=>whnf)
 refine S_Place (fun hok p hp=> ?_) (fun hok=> ?_)
 · have hp0:0<=p:=by rw [hp];exact(kR hok).2.2.2.2.2.1
   conv=>whnf
   repeat (refine⟨⟨_,rfl⟩,?_⟩;conv=>whnf)
   refine aBy (fun _ q hq=> ?_) (fun h=>absurd (hok.symm.trans h) (by simp))
   obtain rfl:q=p:=by rw [hq,hp]
   conv=>whnf
   repeat (refine⟨⟨_,rfl⟩,?_⟩;conv=>whnf)
   refine kP (by simp;omega) ?_
   conv=>whnf
   repeat (refine⟨⟨_,rfl⟩,?_⟩;conv=>whnf)
   refine dK (by simp;omega) ?_
   conv=>whnf
   repeat (refine⟨⟨_,rfl⟩,?_⟩;conv=>whnf)
   refine kP (by simp) ?_
   conv=>whnf
   repeat (refine⟨⟨_,rfl⟩,?_⟩;conv=>whnf)
   refine S_JFits (r:=r) (D:=D) (cZ.own rfl (Nat.le_refl _)) (by omega) hO hkx hky (fun b e hf=> ?_)
   conv=>whnf
   repeat (refine⟨⟨_,rfl⟩,?_⟩;conv=>whnf)
   refine S_RJFits (r:=r) (D:=D) .vsl (by omega) hO hkx hky (fun b' e' hf'=> ?_)
   obtain⟨rfl,rfl⟩:=hf.same hf'
   conv=>whnf
   repeat (refine⟨⟨_,rfl⟩,?_⟩;conv=>whnf)
   refine dK (by simp) ?_
   conv=>whnf
   repeat (refine⟨⟨_,rfl⟩,?_⟩;conv=>whnf)
   refine kP (by simp) ?_
   conv=>whnf
   repeat (refine⟨⟨_,rfl⟩,?_⟩;conv=>whnf)
   refine vC (r:=r) (D:=D) (cZ.own rfl (Nat.le_refl _)) (by omega) hO hkx hky hc hs (fun z hz=> ?_)
   conv=>whnf
   repeat (refine⟨⟨_,rfl⟩,?_⟩;conv=>whnf)
   refine S_RVerdict (r:=r) (D:=D) .vsl (by omega) hO hkx hky hc hs (fun z' hz'=> ?_)
   obtain rfl:=hz.same hz'
   conv=>whnf
   repeat (refine⟨⟨_,rfl⟩,?_⟩;conv=>whnf)
   refine dK (by simp) ?_
   conv=>whnf
   repeat (refine⟨⟨_,rfl⟩,?_⟩;conv=>whnf)
   refine S_kDealers (r:=r) (D:=D) (cZ.own rfl (Nat.le_refl _)) .vsl (by omega) hO ?_
   conv=>whnf
   repeat (refine⟨⟨_,rfl⟩,?_⟩;conv=>whnf)
   refine iH ?_
   conv=>whnf
   repeat (refine⟨⟨_,rfl⟩,?_⟩;conv=>whnf)
 · conv=>whnf
   repeat (refine⟨⟨_,rfl⟩,?_⟩;conv=>whnf)
   refine aBy (fun h=>absurd (hok.symm.trans h) (by simp)) (fun _=> ?_)
   conv=>whnf
   repeat (refine⟨⟨_,rfl⟩,?_⟩;conv=>whnf)
   refine S_JFits (r:=r) (D:=D) (cZ.own rfl (Nat.le_refl _)) (by omega) hO hkx hky (fun b e hf=> ?_)
   conv=>whnf
   repeat (refine⟨⟨_,rfl⟩,?_⟩;conv=>whnf)
   refine S_RJFits (r:=r) (D:=D) .vsl (by omega) hO hkx hky (fun b' e' hf'=> ?_)
   obtain⟨rfl,rfl⟩:=hf.same hf'
   conv=>whnf
   repeat (refine⟨⟨_,rfl⟩,?_⟩;conv=>whnf)
   refine dK (by simp) ?_
   conv=>whnf
   repeat (refine⟨⟨_,rfl⟩,?_⟩;conv=>whnf)
   refine kP (by simp) ?_
   conv=>whnf
   repeat (refine⟨⟨_,rfl⟩,?_⟩;conv=>whnf)
   refine vC (r:=r) (D:=D) (cZ.own rfl (Nat.le_refl _)) (by omega) hO hkx hky hc hs (fun z hz=> ?_)
   conv=>whnf
   repeat (refine⟨⟨_,rfl⟩,?_⟩;conv=>whnf)
   refine S_RVerdict (r:=r) (D:=D) .vsl (by omega) hO hkx hky hc hs (fun z' hz'=> ?_)
   obtain rfl:=hz.same hz'
   conv=>whnf
   repeat (refine⟨⟨_,rfl⟩,?_⟩;conv=>whnf)
   refine dK (by simp) ?_
   conv=>whnf
   repeat (refine⟨⟨_,rfl⟩,?_⟩;conv=>whnf)
   refine S_kDealers (r:=r) (D:=D) (cZ.own rfl (Nat.le_refl _)) .vsl (by omega) hO ?_
   conv=>whnf
   repeat (refine⟨⟨_,rfl⟩,?_⟩;conv=>whnf)
   refine iH ?_
   conv=>whnf
   repeat (refine⟨⟨_,rfl⟩,?_⟩;conv=>whnf)
theorem zM (avs:List AV) (h:okVs [.sl 26 tDealer,.int .i64,.int .i64,yZ,tProof] avs):∃ avs',iZ avs avs'/\ACall Pg gP avs' [] (fun x _=>x= .bool true):=by
 obtain⟨v1,_,rfl,h1,v2,_,rfl,h2,v3,_,rfl,h3,v4,_,rfl,h4,v5,_,rfl,h5,rfl⟩:=h
 obtain⟨r,cap,D,c1,c2,r1,_,_,hD⟩:=ok_dealers h1
 obtain⟨x,rfl,_,_⟩:=ok_int h2
 obtain⟨y,rfl,_,_⟩:=ok_int h3
 obtain⟨i,a,b,ha,hb,rfl⟩:=ok_point h4
 obtain⟨c,s,hc,hs,rfl⟩:=ok_proof h5
 exact⟨_,.cons r1 (.cons (cR.refl _) (.cons (cR.refl _) (.cons (cR.refl _) (.cons (cR.refl _) .nil)))),S_JudgeExact r cap D c1 c2 x y i a b c s hD ha hb hc hs⟩
end Go.Proofs.YtfolpdmbpbbimaaGreat
end

section
namespace Go.Proofs.YtfolpdmbpbbimaaGreat.judgeExact
open Go.ChangeShapes Go.WideShapes Go.ChangeAt Go.RowKit Go.Wit
theorem own:ownKnob Tryz.prog.godebug=none:=by kernel_rfl
theorem laid:laidOutB Tryz.prog=true:=by kernel_rfl
set_option maxRecDepth 100000 in
theorem lifted (os:Os) (started:os.Started) (H:Type) (enc:TypeId × Value->H):
 ReturnsInHanded {} Tryz.checked os 4 .any (Rows.judgeExactSpec.pre6 enc Tryz.prog Tryz.f4 Rows.judgeExactRow.domain false) (Rows.judgeExactSpec.post enc Tryz.prog Tryz.f4 false true false false):=by
 refine returnsInHanded_of_change_sized (C:=Tryz.checked) own started (by kernel_rfl) Tryz.func4
  (ChangeSpec.witness6 (enc:=enc) (C:=Tryz.checked) false ⟨#[],#[.slice none 0 0,.int .i64 0,.int .i64 0,.agg #[.bool false,.int .u64 0,.int .u64 0,.int .u64 0,.int .u64 0,.int .u64 0,.int .u64 0,.int .u64 0,.int .u64 0],.agg #[.int .u64 0,.int .u64 0,.int .u64 0,.int .u64 0,.int .u64 0,.int .u64 0,.int .u64 0,.int .u64 0]],[]⟩ 12 (by kernel_rfl) (by kernel_rfl) (by kernel_rfl) (by kernel_rfl)) ?_
 intro W base args ds gs before hval0 hW hcnd hsz0 _
 have hval:∀ (j:Nat) t v,Tryz.f4.params[j]? = some t->args[j]? = some v->Value.okWide Tryz.prog W .any base t v:=hval0
 have hW':=hW
 obtain⟨p,q,hA0,hV,rfl,hfz,hnd⟩:=hW
 have hA:DataW.TrodAll enc Tryz.prog W 0 (fun _=>true) true Tryz.f4.params.toList args.toList ds p:=hA0
 obtain⟨rfl,rfl⟩:=trodVars_none hV
 have l0:ds.length=5:=uD hA
 obtain⟨d1,ds1,rfl,l1⟩:=dC l0
 obtain⟨d2,ds2,rfl,l2⟩:=dC l1
 obtain⟨d3,ds3,rfl,l3⟩:=dC l2
 obtain⟨d4,ds4,rfl,l4⟩:=dC l3
 obtain⟨d5,ds5,rfl,l5⟩:=dC l4
 obtain rfl:=rR l5
 refine(aBp (tys:= [.sl 26 tDealer,.int .i64,.int .i64,yZ,tProof]) (by kernel_rfl) (fun j t v h1 h2=>hval j t v (by simpa using h1) (by simpa using h2)) hA zM).mono fun e W' ⟨he,bel⟩=> ?_
 subst he
 exact⟨_,rfl,_,_,_,[],_,[],hW',trodAll_mk1 (shut_bool Tryz.underlying4 _),qO laid bel (by kernel_rfl) hA,rfl,bel.frame _,fun h=>by cases h⟩
theorem over:Rows.judgeExactRow.holds Tryz.pinned (OpenSpec.ofChange Rows.judgeExactSpec):=
 OpenClaim.holds_of_wide 4 Tryz.f4 rfl rfl rfl rfl rfl rfl rfl ⟨rfl,rfl,rfl,rfl,rfl⟩ rfl rfl rfl rfl rfl (by kernel_rfl) Tryz.func4 (by kernel_rfl)
  (of_decide_eq_true (by kernel_rfl)) (by unfold Func.isWrapper;first | (rw [if_pos (by decide +kernel)];kernel_rfl) | (rw [if_neg (by decide +kernel)];exact⟨rfl,rfl⟩))
  (fun os started H enc _=>lifted os started H enc)
theorem proved:Rows.JudgeExactSaid:=over
#print axioms proved
end Go.Proofs.YtfolpdmbpbbimaaGreat.judgeExact
namespace Go.Proofs.YtfolpdmbpbbimaaGreat
theorem judgeExact_holds:Rows.JudgeExactSaid:=judgeExact.proved
end Go.Proofs.YtfolpdmbpbbimaaGreat
end

