/- Texts of a proof, one behind the other; the last of these: Sums: turned words, numbers of bytes, texts made whole blocks; no condition. -/
import Derived.Test.YtfolpdmbpbbimaaGreatZ6
set_option linter.unusedVariables false
set_option linter.unusedSimpArgs false
set_option maxRecDepth 100000
section
namespace Go.Wit
structure Crv (F:Type) [qK F] :Prop where
 inv:∀ a:F,a ≠ 0->∃ b,a*b=1
 two:(2:F) ≠ 0
 no2:∀ x:F,x*x*x+7 ≠ 0
inductive Pt (F:Type) where
 | inf
 | aff (x y:F)
section
variable {F:Type} [qK F]
theorem assoc_cross (x1 y1 x2 y2 x3 y3:F) (h1:y1*y1=x1*x1*x1+7) (h2:y2*y2=x2*x2*x2+7) (h3:y3*y3=x3*x3*x3+7):
 aX (aX x1 y1 1 x2 y2 1) (aY x1 y1 1 x2 y2 1) (aZ x1 y1 1 x2 y2 1) x3 y3 1*aZ x1 y1 1 (aX x2 y2 1 x3 y3 1) (aY x2 y2 1 x3 y3 1) (aZ x2 y2 1 x3 y3 1)
  = aX x1 y1 1 (aX x2 y2 1 x3 y3 1) (aY x2 y2 1 x3 y3 1) (aZ x2 y2 1 x3 y3 1)*aZ (aX x1 y1 1 x2 y2 1) (aY x1 y1 1 x2 y2 1) (aZ x1 y1 1 x2 y2 1) x3 y3 1
 ∧ aY (aX x1 y1 1 x2 y2 1) (aY x1 y1 1 x2 y2 1) (aZ x1 y1 1 x2 y2 1) x3 y3 1 * aZ x1 y1 1 (aX x2 y2 1 x3 y3 1) (aY x2 y2 1 x3 y3 1) (aZ x2 y2 1 x3 y3 1)
  = aY x1 y1 1 (aX x2 y2 1 x3 y3 1) (aY x2 y2 1 x3 y3 1) (aZ x2 y2 1 x3 y3 1)*aZ (aX x1 y1 1 x2 y2 1) (aY x1 y1 1 x2 y2 1) (aZ x1 y1 1 x2 y2 1) x3 y3 1:=by
 let v:Nat->F:=fun i=>match i with | 0=>x1 | 1=>y1 | 2=>x2 | 3=>y2 | 4=>x3 | _=>y3
 have hr:EP.Rel v:=⟨h1,h2,h3⟩
 have e1:=EP.nought_den v hr EP.cross_XZ
 have e2:=EP.nought_den v hr EP.cross_YZ
 have c1:(EP.ic 1:F)=1:=EP.ic_one
 have c3:(EP.ic 3:F)=3:=EP.ic_nat 3
 have c21:(EP.ic 21:F)=21:=EP.ic_nat 21
 have c63:(EP.ic 63:F)=63:=EP.ic_nat 63
 simp only [EP.den,EP.lX,EP.lY,EP.lZ,EP.rX,EP.rY,EP.rZ,EP.sX,EP.sY,EP.sZ,EP.uX,EP.uY,EP.uZ,EP.eX,EP.eY,EP.eZ,EP.one,c1,c3,c21,c63,v]at e1 e2
 have sub0:∀ a b:F,a - b=0->a=b:=fun a b h=>by grind
 exact⟨sub0 _ _ e1,sub0 _ _ e2⟩
theorem Crv.mul_ne (C:Crv F) {a b:F} (ha:a ≠ 0) (hb:b ≠ 0):a*b ≠ 0:=by
 obtain⟨c,hc⟩:=C.inv a ha
 intro h
 refine hb ?_
 have:b=c*(a*b):=by grind
 rw [this,h];grind
theorem Crv.cancel (C:Crv F) {a b c:F} (hc:c ≠ 0) (h:a*c=b*c):a=b:=by
 obtain⟨d,hd⟩:=C.inv c hc
 have h1:a=a*c*d:=by grind
 have h2:b=b*c*d:=by grind
 rw [h1,h2,h]
theorem Crv.one_ne (C:Crv F):(1:F) ≠ 0:=fun h=>C.two (by grind)
def On:Pt F->Prop
 | .inf=>True
 | .aff x y=>y*y=x*x*x+7
theorem On.y_ne (C:Crv F) {x y:F} (h:y*y=x*x*x+7):y ≠ 0:=fun hy=>C.no2 x (by rw [<- h,hy];grind)
noncomputable def iv (a:F):F:=open Classical in if h:∃ b,a*b=1 then h.choose else 0
theorem iv_spec (C:Crv F) {a:F} (h:a ≠ 0):a*iv a=1:=by
 have h1:=C.inv a h
 unfold iv
 rw [dif_pos h1]
 exact h1.choose_spec
def Pt.neg:Pt F->Pt F
 | .inf=> .inf
 | .aff x y=> .aff x (-y)
noncomputable def padd:Pt F->Pt F->Pt F
 | .inf,Q=>Q
 | .aff x y,.inf=> .aff x y
 | .aff x1 y1,.aff x2 y2=>open Classical in if x1=x2/\y1+y2=0 then .inf else .aff (aX x1 y1 1 x2 y2 1*iv (aZ x1 y1 1 x2 y2 1)) (aY x1 y1 1 x2 y2 1*iv (aZ x1 y1 1 x2 y2 1))
theorem jK (P:Pt F):padd P .inf=P:=by cases P <;> rfl
theorem iP (P:Pt F):padd .inf P=P:=by cases P <;> rfl
theorem qC {x1 y1 x2 y2:F} (h:x1=x2/\y1+y2=0):padd (.aff x1 y1) (.aff x2 y2)= .inf:=by simp only [padd];rw [if_pos h]
theorem qD {x1 y1 x2 y2:F} (h:¬ (x1=x2/\y1+y2=0)):padd (.aff x1 y1) (.aff x2 y2)= .aff (aX x1 y1 1 x2 y2 1*iv (aZ x1 y1 1 x2 y2 1)) (aY x1 y1 1 x2 y2 1*iv (aZ x1 y1 1 x2 y2 1)):=by simp only [padd];rw [if_neg h]
theorem a_on (x1 y1 x2 y2:F) (h1:y1*y1=x1*x1*x1+7) (h2:y2*y2=x2*x2*x2+7):
 aY x1 y1 1 x2 y2 1*aY x1 y1 1 x2 y2 1*aZ x1 y1 1 x2 y2 1=aX x1 y1 1 x2 y2 1*aX x1 y1 1 x2 y2 1*aX x1 y1 1 x2 y2 1+7*(aZ x1 y1 1 x2 y2 1*aZ x1 y1 1 x2 y2 1*aZ x1 y1 1 x2 y2 1):=by
 unfold aX aY aZ
 grind (ringSteps:=10000000)
theorem aZ_sq (x1 y1 x2 y2:F) (h1:y1*y1=x1*x1*x1+7) (h2:y2*y2=x2*x2*x2+7):
 aZ x1 y1 1 x2 y2 1*aZ x1 y1 1 x2 y2 1=((y1+y2)*(y1+y2) - (x2 - x1)*(x2 - x1)*(x1+x2))*((y1+y2)*(y1+y2) - (x2 - x1)*(x2 - x1)*(x1+x2))*((y1+y2)*(y1+y2) - (x2 - x1)*(x2 - x1)*(x1+x2))+7*((x2 - x1)*(x2 - x1)*((x2 - x1)*(x2 - x1))*((x2 - x1)*(x2 - x1))):=by
 unfold aZ
 grind (ringSteps:=10000000)
theorem aZ_dbl (x y:F) (h:y*y=x*x*x+7):aZ x y 1 x y 1=2*y*(2*y*(2*y)):=by
 unfold aZ
 grind
theorem aZ_ne (C:Crv F) {x1 y1 x2 y2:F} (h1:y1*y1=x1*x1*x1+7) (h2:y2*y2=x2*x2*x2+7) (hne:¬ (x1=x2/\y1+y2=0)):aZ x1 y1 1 x2 y2 1 ≠ 0:=by
 by_cases hx:x1=x2
 · subst hx
   have hs:y1+y2 ≠ 0:=fun h=>hne ⟨rfl,h⟩
   have hd:y1 - y2=0:=by
    by_cases h:y1 - y2=0
    · exact h
    · exact absurd (show (y1 - y2)*(y1+y2)=0 by grind) (C.mul_ne h hs)
   have:y1=y2:=by grind
   subst this
   rw [aZ_dbl x1 y1 h1]
   have h2y:=C.mul_ne C.two (On.y_ne C h1)
   exact C.mul_ne h2y (C.mul_ne h2y h2y)
 · intro hz
   have hv:x2 - x1 ≠ 0:=fun h=>hx (by grind)
   obtain⟨w,hw⟩:=C.inv _ hv
   have:=aZ_sq x1 y1 x2 y2 h1 h2
   rw [hz]at this
   generalize hu:(y1+y2)*(y1+y2) - (x2 - x1)*(x2 - x1)*(x1+x2)=u at this
   generalize x2 - x1=t at*
   refine C.no2 (u*(w*w)) ?_
   have e:t*t*(t*t)*(t*t)*(w*w*(w*w)*(w*w))=1:=by
    have:t*t*(t*t)*(t*t)*(w*w*(w*w)*(w*w))=(t*w)*(t*w)*((t*w)*(t*w))*((t*w)*(t*w)):=by grind
    rw [this,hw];grind
   clear hu h1 h2 hz hne hx hv
   generalize t*t*(t*t)*(t*t)=T at*
   have e3:u*(w*w)*(u*(w*w))*(u*(w*w))=u*u*u*(w*w*(w*w)*(w*w)):=by clear this e hw;grind
   rw [e3]
   generalize w*w*(w*w)*(w*w)=V at*
   clear hw e3
   grind
theorem on_div (C:Crv F) {x y z:F} (hz:z ≠ 0) (h:y*y*z=x*x*x+7*(z*z*z)):y*iv z*(y*iv z)=x*iv z*(x*iv z)*(x*iv z)+7:=by
 have hi:=iv_spec C hz
 generalize iv z=i at*
 have e:z*z*z*(i*i*i)=1:=by
  have:z*z*z*(i*i*i)=(z*i)*(z*i)*(z*i):=by grind
  rw [this,hi];grind
 have h3:y*y*z*(i*i*i)=y*i*(y*i)*(z*i):=by grind
 grind
theorem On.add (C:Crv F) {P Q:Pt F} (hP:On P) (hQ:On Q):On (padd P Q):=by
  cases P with
  | inf=>exact hQ
  | aff x1 y1 =>
    cases Q with
    | inf=>exact hP
    | aff x2 y2 =>
      by_cases h:x1=x2/\y1+y2=0
      · rw [qC h];trivial
      · rw [qD h]
        exact on_div C (aZ_ne C hP hQ h) (a_on x1 y1 x2 y2 hP hQ)
theorem On.neg {P:Pt F} (hP:On P):On P.neg:=by
 cases P with
 | inf=>trivial
 | aff x y=>show -y* -y=_;have:y*y=x*x*x+7:=hP;grind
theorem aY_opp_ne (C:Crv F) {x y:F} (h:y*y=x*x*x+7):aY x y 1 x y 1 ≠ 0:=by
 intro h0
 have hz:=aZ_ne C h h (fun hh=>by
  have:=C.mul_ne C.two (On.y_ne C h)
  exact this (by grind))
 have h1:=a_on x y x y h h
 rw [h0]at h1
 have h2:=on_div C (x:=aX x y 1 x y 1) (y:=0) hz (by grind)
 exact C.no2 _ (by rw [<- h2];grind)
def tX:Pt F->F
 | .inf=>0
 | .aff x _=>x
def tY:Pt F->F
 | .inf=>1
 | .aff _ y=>y
def tZ:Pt F->F
 | .inf=>0
 | .aff _ _=>1
theorem add_tri (C:Crv F) {P Q:Pt F} (hP:On P) (hQ:On Q):∃ c:F,c ≠ 0/\aX (tX P) (tY P) (tZ P) (tX Q) (tY Q) (tZ Q)=c*tX (padd P Q)/\
    aY (tX P) (tY P) (tZ P) (tX Q) (tY Q) (tZ Q)=c*tY (padd P Q)/\aZ (tX P) (tY P) (tZ P) (tX Q) (tY Q) (tZ Q)=c*tZ (padd P Q):=by
  cases P with
  | inf =>
    cases Q with
    | inf=>exact ⟨1,C.one_ne,by simp only [aX,padd,tX,tY,tZ];grind,by simp only [aY,padd,tX,tY,tZ];grind,by simp only [aZ,padd,tX,tY,tZ];grind⟩
    | aff x y=>exact ⟨y,On.y_ne C hQ,by simp only [aX,padd,tX,tY,tZ];grind,by simp only [aY,padd,tX,tY,tZ];grind,by simp only [aZ,padd,tX,tY,tZ];grind⟩
  | aff x1 y1 =>
    cases Q with
    | inf=>exact ⟨y1,On.y_ne C hP,by simp only [aX,padd,tX,tY,tZ];grind,by simp only [aY,padd,tX,tY,tZ];grind,by simp only [aZ,padd,tX,tY,tZ];grind⟩
    | aff x2 y2 =>
      by_cases h:x1=x2/\y1+y2=0
      · rw [qC h]
        obtain⟨rfl,h⟩:=h
        have:y2= -y1:=by grind
        subst this
        refine⟨aY x1 y1 1 x1 y1 1,aY_opp_ne C hP,?_,?_,?_⟩
        · simp only [aX,tX,tY,tZ];grind
        · simp only [aY,tX,tY,tZ];grind
        · simp only [aZ,tX,tY,tZ];grind
      · rw [qD h]
        have hz:=aZ_ne C hP hQ h
        have hi:=iv_spec C hz
        refine⟨aZ x1 y1 1 x2 y2 1,hz,?_,?_,?_⟩ <;> simp only [tX,tY,tZ] <;> grind
theorem aX_l (c X1 Y1 Z1 X2 Y2 Z2:F):aX (c*X1) (c*Y1) (c*Z1) X2 Y2 Z2=c*c*aX X1 Y1 Z1 X2 Y2 Z2:=by unfold aX;grind
theorem aY_l (c X1 Y1 Z1 X2 Y2 Z2:F):aY (c*X1) (c*Y1) (c*Z1) X2 Y2 Z2=c*c*aY X1 Y1 Z1 X2 Y2 Z2:=by unfold aY;grind
theorem aZ_l (c X1 Y1 Z1 X2 Y2 Z2:F):aZ (c*X1) (c*Y1) (c*Z1) X2 Y2 Z2=c*c*aZ X1 Y1 Z1 X2 Y2 Z2:=by unfold aZ;grind
theorem aX_r (c X1 Y1 Z1 X2 Y2 Z2:F):aX X1 Y1 Z1 (c*X2) (c*Y2) (c*Z2)=c*c*aX X1 Y1 Z1 X2 Y2 Z2:=by unfold aX;grind
theorem aY_r (c X1 Y1 Z1 X2 Y2 Z2:F):aY X1 Y1 Z1 (c*X2) (c*Y2) (c*Z2)=c*c*aY X1 Y1 Z1 X2 Y2 Z2:=by unfold aY;grind
theorem aZ_r (c X1 Y1 Z1 X2 Y2 Z2:F):aZ X1 Y1 Z1 (c*X2) (c*Y2) (c*Z2)=c*c*aZ X1 Y1 Z1 X2 Y2 Z2:=by unfold aZ;grind
theorem tri_eq (C:Crv F) {A B:Pt F} {k l:F} (hk:k ≠ 0) (hl:l ≠ 0) (h1:k*tX A*(l*tZ B)=l*tX B*(k*tZ A)) (h2:k*tY A*(l*tZ B)=l*tY B*(k*tZ A)):A=B:=by
 have hkl:=C.mul_ne hk hl
 have e1:tX A*tZ B=tX B*tZ A:=C.cancel hkl (by grind)
 have e2:tY A*tZ B=tY B*tZ A:=C.cancel hkl (by grind)
 have h01:=C.one_ne
 cases A <;> cases B <;> simp only [tX,tY,tZ]at e1 e2
 · rfl
 · exact absurd (show (1:F)=0 by grind) h01
 · exact absurd (show (1:F)=0 by grind) h01
 · congr 1 <;> grind
theorem cB (C:Crv F) {P Q R:Pt F} (hP:On P) (hQ:On Q) (hR:On R):padd (padd P Q) R=padd P (padd Q R):=by
  cases P with
  | inf=>rfl
  | aff x1 y1 =>
    cases Q with
    | inf=>rfl
    | aff x2 y2 =>
      cases R with
      | inf=>rw [jK,jK]
      | aff x3 y3 =>
        obtain⟨c1,hc1,a1,a2,a3⟩:=add_tri C hP hQ
        obtain⟨c2,hc2,b1,b2,b3⟩:=add_tri C (hP.add C hQ) hR
        obtain⟨d1,hd1,f1,f2,f3⟩:=add_tri C hQ hR
        obtain⟨d2,hd2,g1,g2,g3⟩:=add_tri C hP (hQ.add C hR)
        obtain⟨e1,e2⟩:=assoc_cross x1 y1 x2 y2 x3 y3 hP hQ hR
        have u1:aX x1 y1 1 x2 y2 1=c1*tX (padd (.aff x1 y1) (.aff x2 y2)):=a1
        have u2:aY x1 y1 1 x2 y2 1=c1*tY (padd (.aff x1 y1) (.aff x2 y2)):=a2
        have u3:aZ x1 y1 1 x2 y2 1=c1*tZ (padd (.aff x1 y1) (.aff x2 y2)):=a3
        have v1:aX x2 y2 1 x3 y3 1=d1*tX (padd (.aff x2 y2) (.aff x3 y3)):=f1
        have v2:aY x2 y2 1 x3 y3 1=d1*tY (padd (.aff x2 y2) (.aff x3 y3)):=f2
        have v3:aZ x2 y2 1 x3 y3 1=d1*tZ (padd (.aff x2 y2) (.aff x3 y3)):=f3
        rw [u1,u2,u3,v1,v2,v3,aX_l,aZ_l,aX_r,aZ_r]at e1
        rw [u1,u2,u3,v1,v2,v3,aY_l,aZ_l,aY_r,aZ_r]at e2
        have b1':aX _ _ _ x3 y3 1=_:=b1
        have b2':aY _ _ _ x3 y3 1=_:=b2
        have b3':aZ _ _ _ x3 y3 1=_:=b3
        have g1':aX x1 y1 1 _ _ _=_:=g1
        have g2':aY x1 y1 1 _ _ _=_:=g2
        have g3':aZ x1 y1 1 _ _ _=_:=g3
        rw [b1',b3',g1',g3']at e1
        rw [b2',b3',g2',g3']at e2
        clear a1 a2 a3 b1 b2 b3 f1 f2 f3 g1 g2 g3 u1 u2 u3 v1 v2 v3 b1' b2' b3' g1' g2' g3'
        refine tri_eq C (k:=c1*c1*c2) (l:=d1*d1*d2) (C.mul_ne (C.mul_ne hc1 hc1) hc2) (C.mul_ne (C.mul_ne hd1 hd1) hd2) ?_ ?_
        · clear e2;grind
        · clear e1;grind
theorem sB (P Q:Pt F):padd P Q=padd Q P:=by
  cases P with
  | inf=>rw [jK];rfl
  | aff x1 y1 =>
    cases Q with
    | inf=>rfl
    | aff x2 y2 =>
      have eX:aX x1 y1 1 x2 y2 1=aX x2 y2 1 x1 y1 1:=by unfold aX;grind
      have eY:aY x1 y1 1 x2 y2 1=aY x2 y2 1 x1 y1 1:=by unfold aY;grind
      have eZ:aZ x1 y1 1 x2 y2 1=aZ x2 y2 1 x1 y1 1:=by unfold aZ;grind
      by_cases h:x1=x2/\y1+y2=0
      · rw [qC h,qC ⟨h.1.symm,by have:=h.2;grind⟩]
      · rw [qD h,qD (fun h'=>h ⟨h'.1.symm,by have:=h'.2;grind⟩),eX,eY,eZ]
theorem mP (P:Pt F):padd P P.neg= .inf:=by
 cases P with
 | inf=>rfl
 | aff x y=>exact qC ⟨rfl,by grind⟩
noncomputable def nmul:Nat->Pt F->Pt F
 | 0,_=> .inf
 | n+1,P=>padd (nmul n P) P
theorem On.nmul (C:Crv F) {P:Pt F} (hP:On P):∀ n,On (nmul n P)
 | 0=>trivial
 | n+1=>(On.nmul C hP n).add C hP
theorem iO (C:Crv F) {P:Pt F} (hP:On P) (m:Nat):∀ n,nmul (m+n) P=padd (nmul m P) (nmul n P)
  | 0=>(jK _).symm
  | n + 1 => by
    show padd (nmul (m+n) P) P=padd (nmul m P) (padd (nmul n P) P)
    rw [iO C hP m n,cB C (hP.nmul C m) (hP.nmul C n) hP]
theorem nmul_inf:∀ n,nmul n (.inf:Pt F)= .inf
 | 0=>rfl
 | n+1=>by show padd (nmul n _) _=_;rw [nmul_inf n];rfl
theorem yV (C:Crv F) {P:Pt F} (hP:On P) (m:Nat):∀ n,nmul (n*m) P=nmul n (nmul m P)
 | 0=>by rw [Nat.zero_mul];rfl
 | n+1=>by rw [Nat.succ_mul,iO C hP,yV C hP m n];rfl
def JR (x y z:F):Pt F->Prop
 | .inf=>z=0
 | .aff X Y=>z ≠ 0/\x=X*(z*z)/\y=Y*(z*(z*z))
theorem JR.of (C:Crv F) {x y X Y D z':F} (hD:D ≠ 0) (hz:z' ≠ 0) (h1:x*D=X*(z'*z')) (h2:y*D=Y*(z'*(z'*z'))):JR x y z' (.aff (X*iv D) (Y*iv D)):=by
 have hi:=iv_spec C hD
 refine⟨hz,?_,?_⟩
 · have e:x=x*D*iv D:=by grind
   rw [e,h1];grind
 · have e:y=y*D*iv D:=by grind
   rw [e,h2];grind
theorem jr_dbl (C:Crv F) {x y z:F} {P:Pt F} (hP:On P) (h:JR x y z P) {x' y' z':F}
    (hx:x'=(3*(x*x))*(3*(x*x)) - 8*(x*(y*y))) (hy:y'=(3*(x*x))*(4*(x*(y*y)) - x') - 8*((y*y)*(y*y))) (hz:z'=2*(y*z)):JR x' y' z' (padd P P):=by
  cases P with
  | inf=>have h:z=0:=h;show z'=0;rw [hz,h];grind
  | aff X Y =>
    obtain⟨h1,h2,h3⟩:=h
    have hy0:=On.y_ne C hP
    have hne:¬ (X=X/\Y+Y=0):=fun hh=>(C.mul_ne C.two hy0) (by have:=hh.2;grind)
    rw [qD hne]
    have hP:Y*Y=X*X*X+7:=hP
    have hz':z' ≠ 0:=by
      rw [hz,h3]
      exact C.mul_ne C.two (C.mul_ne (C.mul_ne hy0 (C.mul_ne h1 (C.mul_ne h1 h1))) h1)
    refine JR.of C (aZ_ne C hP hP hne) hz' ?_ ?_
    · rw [aZ_dbl X Y hP,hx,hz,h2,h3];unfold aX
      have e7:(7:F)=Y*Y - X*X*X:=by grind
      grind (ringSteps:=10000000)
    · rw [aZ_dbl X Y hP,hy,hx,hz,h2,h3];unfold aY
      grind (ringSteps:=10000000)
theorem chordX (X1 Y1 X2 Y2:F) (h1:Y1*Y1=X1*X1*X1+7) (h2:Y2*Y2=X2*X2*X2+7):
 ((Y2 - Y1)*(Y2 - Y1) - (X2 - X1)*((X2 - X1)*(X2 - X1)) - 2*(X1*((X2 - X1)*(X2 - X1))))*aZ X1 Y1 1 X2 Y2 1=aX X1 Y1 1 X2 Y2 1*((X2 - X1)*(X2 - X1)):=by
 unfold aX aZ
 grind (ringSteps:=10000000)
theorem chordY (X1 Y1 X2 Y2:F) (h1:Y1*Y1=X1*X1*X1+7) (h2:Y2*Y2=X2*X2*X2+7):
 ((Y2 - Y1)*(X1*((X2 - X1)*(X2 - X1)) - ((Y2 - Y1)*(Y2 - Y1) - (X2 - X1)*((X2 - X1)*(X2 - X1)) - 2*(X1*((X2 - X1)*(X2 - X1))))) - Y1*((X2 - X1)*((X2 - X1)*(X2 - X1))))*aZ X1 Y1 1 X2 Y2 1=aY X1 Y1 1 X2 Y2 1*((X2 - X1)*((X2 - X1)*(X2 - X1))):=by
 unfold aY aZ
 grind (ringSteps:=10000000)
theorem jr_hr (C:Crv F) {x1 y1 z1 x2 y2 z2 X1 Y1 X2 Y2 h r:F} (hP:JR x1 y1 z1 (.aff X1 Y1)) (hQ:JR x2 y2 z2 (.aff X2 Y2))
 (hh:h=x2*(z1*z1) - x1*(z2*z2)) (hr:r=y2*(z1*z1*z1) - y1*(z2*z2*z2)):
 h=(X2 - X1)*((z1*z2)*(z1*z2))/\r=(Y2 - Y1)*((z1*z2)*(z1*z2)*(z1*z2))/\z1*z2 ≠ 0:=by
 obtain⟨a1,a2,a3⟩:=hP
 obtain⟨b1,b2,b3⟩:=hQ
 refine⟨?_,?_,C.mul_ne a1 b1⟩
 · rw [hh,a2,b2];grind
 · rw [hr,a3,b3];grind
theorem jr_add (C:Crv F) {x1 y1 z1 x2 y2 z2 h r:F} {P Q:Pt F} (oP:On P) (oQ:On Q) (hP:JR x1 y1 z1 P) (hQ:JR x2 y2 z2 Q) (n1:z1 ≠ 0) (n2:z2 ≠ 0)
    (hh:h=x2*(z1*z1) - x1*(z2*z2)) (hr:r=y2*(z1*z1*z1) - y1*(z2*z2*z2)) (hne:h ≠ 0) {x y z:F}
    (hx:x=r*r - h*h*h - 2*(x1*(z2*z2)*(h*h))) (hy:y=r*(x1*(z2*z2)*(h*h) - x) - y1*(z2*z2*z2)*(h*h*h)) (hz:z=h*(z1*z2)):JR x y z (padd P Q):=by
  cases P with
  | inf=>exact absurd hP n1
  | aff X1 Y1 =>
    cases Q with
    | inf=>exact absurd hQ n2
    | aff X2 Y2 =>
      obtain⟨e1,e2,e3⟩:=jr_hr C hP hQ hh hr
      obtain⟨_,a2,a3⟩:=hP
      have hv:X2 - X1 ≠ 0:=fun h0=>hne (by rw [e1,h0];grind)
      have hgen:¬ (X1=X2/\Y1+Y2=0):=fun hh=>hv (by have:=hh.1;grind)
      rw [qD hgen]
      have hD:=aZ_ne C oP oQ hgen
      have c1:=chordX X1 Y1 X2 Y2 oP oQ
      have c2:=chordY X1 Y1 X2 Y2 oP oQ
      have u1:x1*(z2*z2)=X1*((z1*z2)*(z1*z2)):=by rw [a2];grind
      have u2:y1*(z2*z2*z2)=Y1*((z1*z2)*(z1*z2)*(z1*z2)):=by rw [a3];grind
      rw [u1]at hx hy
      rw [u2]at hy
      generalize z1*z2=Z at*
      generalize X2 - X1=v at*
      generalize Y2 - Y1=u at*
      have xx:x=(u*u - v*(v*v) - 2*(X1*(v*v)))*((Z*Z)*(Z*Z)*(Z*Z)):=by rw [hx,e1,e2];clear c1 c2 hx hy e1 e2;grind
      refine JR.of C hD ?_ ?_ ?_
      · rw [hz];exact C.mul_ne hne e3
      · rw [xx,hz,e1]
        have:(u*u - v*(v*v) - 2*(X1*(v*v)))*(Z*Z*(Z*Z)*(Z*Z))*aZ X1 Y1 1 X2 Y2 1=((u*u - v*(v*v) - 2*(X1*(v*v)))*aZ X1 Y1 1 X2 Y2 1)*(Z*Z*(Z*Z)*(Z*Z)):=by clear c1 c2;grind
        rw [this,c1];clear c1 c2 this;grind
      · have yy:y=(u*(X1*(v*v) - (u*u - v*(v*v) - 2*(X1*(v*v)))) - Y1*(v*(v*v)))*(Z*Z*Z*(Z*Z*Z)*(Z*Z*Z)):=by rw [hy,xx,e1,e2];clear c1 c2 hx hy e1 e2 xx;grind
        rw [yy,hz,e1]
        have:(u*(X1*(v*v) - (u*u - v*(v*v) - 2*(X1*(v*v)))) - Y1*(v*(v*v)))*(Z*Z*Z*(Z*Z*Z)*(Z*Z*Z))*aZ X1 Y1 1 X2 Y2 1=((u*(X1*(v*v) - (u*u - v*(v*v) - 2*(X1*(v*v)))) - Y1*(v*(v*v)))*aZ X1 Y1 1 X2 Y2 1)*(Z*Z*Z*(Z*Z*Z)*(Z*Z*Z)):=by clear c1 c2;grind
        rw [this,c2];clear c1 c2 this;grind
theorem jr_opp (C:Crv F) {x1 y1 z1 x2 y2 z2 h r:F} {P Q:Pt F} (oP:On P) (oQ:On Q) (hP:JR x1 y1 z1 P) (hQ:JR x2 y2 z2 Q) (n1:z1 ≠ 0) (n2:z2 ≠ 0)
    (hh:h=x2*(z1*z1) - x1*(z2*z2)) (hr:r=y2*(z1*z1*z1) - y1*(z2*z2*z2)) (h0:h=0) (hne:r ≠ 0):padd P Q= .inf:=by
  cases P with
  | inf=>exact absurd hP n1
  | aff X1 Y1 =>
    cases Q with
    | inf=>exact absurd hQ n2
    | aff X2 Y2 =>
      obtain⟨e1,e2,e3⟩:=jr_hr C hP hQ hh hr
      have hX:X2 - X1=0:=by
        by_cases h:X2 - X1=0
        · exact h
        · exact absurd (e1 ▸ h0) (C.mul_ne h (C.mul_ne e3 e3))
      have hX':X1=X2:=by clear e1 e2 hh hr hP hQ;grind
      have hY:Y2 - Y1 ≠ 0:=fun h=>hne (by rw [e2,h];clear e1 e2 hh hr hP hQ;grind)
      subst hX'
      have oP:Y1*Y1=X1*X1*X1+7:=oP
      have oQ:Y2*Y2=X1*X1*X1+7:=oQ
      refine qC ⟨rfl,?_⟩
      by_cases h:Y1+Y2=0
      · exact h
      · exact absurd (show (Y1+Y2)*(Y2 - Y1)=0 by clear e1 e2 hh hr hP hQ;grind) (C.mul_ne h hY)
theorem jr_same (C:Crv F) {x1 y1 z1 x2 y2 z2 h r:F} {P Q:Pt F} (hP:JR x1 y1 z1 P) (hQ:JR x2 y2 z2 Q) (n1:z1 ≠ 0) (n2:z2 ≠ 0)
    (hh:h=x2*(z1*z1) - x1*(z2*z2)) (hr:r=y2*(z1*z1*z1) - y1*(z2*z2*z2)) (h0:h=0) (r0:r=0):P=Q:=by
  cases P with
  | inf=>exact absurd hP n1
  | aff X1 Y1 =>
    cases Q with
    | inf=>exact absurd hQ n2
    | aff X2 Y2 =>
      obtain⟨e1,e2,e3⟩:=jr_hr C hP hQ hh hr
      have hX:X2 - X1=0:=by
        by_cases h:X2 - X1=0
        · exact h
        · exact absurd (e1 ▸ h0) (C.mul_ne h (C.mul_ne e3 e3))
      have hY:Y2 - Y1=0:=by
        by_cases h:Y2 - Y1=0
        · exact h
        · exact absurd (e2 ▸ r0) (C.mul_ne h (C.mul_ne (C.mul_ne e3 e3) e3))
      have hX':X1=X2:=by clear e1 e2 hh hr hP hQ;grind
      have hY':Y1=Y2:=by clear e1 e2 hh hr hP hQ;grind
      rw [hX',hY']
end
end Go.Wit
end

section
namespace Go.Wit
abbrev Fp:Type:=Fin pP
instance:NeZero pP:=⟨by decide⟩
theorem wQ (a b:Fp):(a*b).val=a.val*b.val % pP:=rfl
theorem fp_add (a b:Fp):(a+b).val=(a.val+b.val) % pP:=rfl
theorem fp_sub (a b:Fp):(a - b).val=(pP - b.val+a.val) % pP:=rfl
theorem fp_neg (a:Fp):(-a).val=(pP - a.val) % pP:=rfl
theorem fp_zero:(0:Fp).val=0:=rfl
theorem fp_one:(1:Fp).val=1:=rfl
theorem fp_two:(2:Fp).val=2:=rfl
theorem fp_seven:(7:Fp).val=7:=rfl
theorem fp_ne {a:Fp} (h:a ≠ 0):¬ pP∣ a.val:=fun hd=>by
 have h1:=a.isLt
 rcases Nat.eq_zero_or_pos a.val with h2 | h2
 · exact h (Fin.ext h2)
 · have:=Nat.le_of_dvd h2 hd;omega
def fpow (a:Fp) (e:Nat):Fp:=Fin.ofNat pP (a.val ^ e)
theorem qE (a:Fp) (e:Nat):(fpow a e).val=a.val ^ e % pP:=rfl
theorem fpow_inv {a:Fp} (h:a ≠ 0):a*fpow a (pP - 2)=1:=by
 apply Fin.ext
 rw [wQ,qE,fp_one]
 have h1:=fermat prmP (fp_ne h)
 have h2:a.val ^ (pP - 1)=a.val ^ (pP - 2)*a.val:=by rw [<- Nat.pow_succ,show (pP - 2).succ=pP - 1 by decide]
 rw [Nat.mul_mod,Nat.mod_mod,<- Nat.mul_mod,Nat.mul_comm,<- h2]
 exact h1
theorem no_root:pwm pP 400 (pP - 7) ((pP - 1) / 3) ≠ 1:=by decide +kernel
theorem third:3*((pP - 1) / 3)=pP - 1:=by decide +kernel
theorem mod_seven {t P:Nat} (hP:8<=P) (ht:t<P) (h:(t+7) % P=0):t=P - 7:=by
 rcases Nat.lt_or_ge (t+7) P with h1 | h1
 · rw [Nat.mod_eq_of_lt h1]at h;omega
 · rw [Nat.mod_eq_sub_mod h1,Nat.mod_eq_of_lt (by omega)]at h;omega
theorem fp_no2 (x:Fp):x*x*x+7 ≠ 0:=by
 intro h
 have h1:(x*x*x+7).val=0:=by rw [h];rfl
 rw [fp_add,wQ,wQ,fp_seven]at h1
 have hx:x ≠ 0:=by
  rintro rfl
  revert h1
  rw [fp_zero]
  decide
 have h2:=fermat prmP (fp_ne hx)
 have h3:x.val ^ 3 % pP=pP - 7:=by
  have e:x.val ^ 3 % pP=x.val*x.val % pP*x.val % pP:=by
   rw [show x.val ^ 3=x.val*x.val*x.val by rw [Nat.pow_succ,Nat.pow_two],Nat.mul_mod,Nat.mod_eq_of_lt x.isLt]
  rw [e]
  exact mod_seven (by decide) (Nat.mod_lt _ (by decide)) h1
 have h4:(pP - 7) ^ ((pP - 1) / 3) % pP=1:=by
  rw [<- h3,<- Nat.pow_mod,<- Nat.pow_mul,third];exact h2
 refine no_root ?_
 rw [pwm_eq _ _ _ _ (by decide +kernel)]
 exact h4
theorem crvP:Crv Fp where
 inv a h:=⟨_,fpow_inv h⟩
 two:=by
  intro h
  have:(2:Fp).val=(0:Fp).val:=by rw [h]
  rw [fp_two,fp_zero]at this
  cases this
 no2:=fp_no2
end Go.Wit
end

section
namespace Go.Wit
structure J where
 x:Fp
 y:Fp
 z:Fp
def JRel (a:J) (P:Pt Fp):Prop:=JR a.x a.y a.z P
def jdbl (a:J):J:=
 let yy:=a.y*a.y
 let s:=4*(a.x*yy)
 let m:=3*(a.x*a.x)
 let x:=m*m - 2*s
 ⟨x,m*(s - x) - 8*(yy*yy),2*(a.y*a.z)⟩
theorem yZ {a:J} {P:Pt Fp} (hP:On P) (h:JRel a P):JRel (jdbl a) (padd P P):=by
 refine jr_dbl crvP hP h ?_ ?_ rfl <;> simp only [jdbl] <;> grind
def jadd (a b:J):J:=
 if a.z=0 then b else if b.z=0 then a else
 let za:=a.z*a.z
 let zb:=b.z*b.z
 let ua:=a.x*zb
 let sa:=a.y*(zb*b.z)
 let h:=b.x*za - ua
 let r:=b.y*(za*a.z) - sa
 if h=0 then (if r=0 then jdbl a else ⟨1,1,0⟩)else
 let hh:=h*h
 let hhh:=hh*h
 let v:=ua*hh
 let x:=r*r - hhh - 2*v
 ⟨x,r*(v - x) - sa*hhh,h*(a.z*b.z)⟩
theorem JRel.inf {a:J} (h:a.z=0) {P:Pt Fp} (hP:JRel a P):P= .inf:=by
 cases P with
 | inf=>rfl
 | aff X Y=>exact absurd h hP.1
theorem jadd_rel {a b:J} {P Q:Pt Fp} (oP:On P) (oQ:On Q) (hP:JRel a P) (hQ:JRel b Q):JRel (jadd a b) (padd P Q):=by
 unfold jadd
 by_cases n1:a.z=0
 · rw [if_pos n1,JRel.inf n1 hP];exact hQ
 rw [if_neg n1]
 by_cases n2:b.z=0
 · rw [if_pos n2,JRel.inf n2 hQ,jK];exact hP
 rw [if_neg n2]
 simp only
 have hr:b.y*(a.z*a.z*a.z) - a.y*(b.z*b.z*b.z)=b.y*(a.z*a.z*a.z) - a.y*(b.z*b.z*b.z):=rfl
 by_cases h0:b.x*(a.z*a.z) - a.x*(b.z*b.z)=0
 · rw [if_pos h0]
   by_cases r0:b.y*(a.z*a.z*a.z) - a.y*(b.z*b.z*b.z)=0
   · rw [if_pos r0]
     obtain rfl:=jr_same crvP hP hQ n1 n2 rfl rfl h0 r0
     exact yZ oP hP
   · rw [if_neg r0,jr_opp crvP oP oQ hP hQ n1 n2 rfl rfl h0 r0]
     rfl
 · rw [if_neg h0]
   refine jr_add crvP oP oQ hP hQ n1 n2 rfl rfl h0 ?_ ?_ rfl
   · first | rfl | grind
   · first | rfl | grind
abbrev gX:Fp:=⟨55066263022277343669578718895168534326250603453777594175500187360389116729240,by decide⟩
abbrev gY:Fp:=⟨32670510020758816978083085130507043184471273380659243275938904335757337482424,by decide⟩
def gG:Pt Fp:= .aff gX gY
theorem on_G:On gG:=by
 show gY*gY=gX*gX*gX+7
 decide +kernel
def jt (k:Nat):Nat->J:=Nat.rec (motive:=fun _=>Nat->J) (fun _=>⟨1,1,0⟩) (fun _ ih n=>if n % 2=1 then jadd (jdbl (ih (n / 2))) ⟨gX,gY,1⟩else jdbl (ih (n / 2))) k
theorem G_rel:JRel ⟨gX,gY,1⟩ gG:=by
 refine⟨fun h=> ?_,?_,?_⟩
 · exact crvP.one_ne h
 · show gX=gX*(1*1);grind
 · show gY=gY*(1*(1*1));grind
theorem jt_rel:∀ (k n:Nat),n<2 ^ k->JRel (jt k n) (nmul n gG)
  | 0, n, h => by
    have:n=0:=by simpa using h
    subst this;rfl
  | k + 1, n, h => by
    have h1:n / 2<2 ^ k:=by rw [Nat.pow_succ]at h;omega
    have ih:=yZ (on_G.nmul crvP (n / 2)) (jt_rel k (n / 2) h1)
    rw [<- iO crvP on_G]at ih
    show JRel (if n % 2=1 then jadd (jdbl (jt k (n / 2))) ⟨gX,gY,1⟩else jdbl (jt k (n / 2))) _
    by_cases hb:n % 2=1
    · rw [if_pos hb]
      have:=jadd_rel (on_G.nmul crvP (n / 2+n / 2)) on_G ih G_rel
      have e:nmul n gG=padd (nmul (n / 2+n / 2) gG) gG:=by
        show _=nmul (n / 2+n / 2+1) gG
        congr 1;omega
      rw [e];exact this
    · rw [if_neg hb]
      rw [show n / 2+n / 2=n by omega]at ih
      exact ih
theorem jt_n:(jt 256 nN).z=0:=by decide +kernel
theorem nG_of (k N:Nat) (hN:N<2 ^ k) (h:(jt k N).z=0):nmul N gG= .inf:=JRel.inf h (jt_rel k N hN)
theorem nN_lt:nN<2 ^ 256:=by decide
theorem nG:nmul nN gG= .inf:=nG_of 256 nN nN_lt jt_n
theorem nmul_mod (m:Nat):nmul (m % nN) gG=nmul m gG:=by
 have e:m=m / nN*nN+m % nN:=by rw [Nat.mul_comm];exact(Nat.div_add_mod m nN).symm
 have h:nmul m gG=nmul (m / nN*nN+m % nN) gG:=by rw [<- e]
 rw [h,iO crvP on_G,yV crvP on_G,nG,nmul_inf]
 rfl
end Go.Wit
end

section
namespace Go.Proofs.YtfolpdmbpbbimaaGreat
open Go Go.Wit
theorem fp_w (x:Fp):x.val<w256:=Nat.lt_trans x.isLt (by decide)
theorem mE {m:Mem} {K:AV->Mem->Prop} {x y:Fp} (h:∀ z:Fp,z=x+y->K (numA z.val) m):ACall Pg bQ [numA x.val,numA y.val] m K:=by
 have h0:ACall Pg bQ [numA x.val,numA y.val] [] (fun v _=>v=numA (x+y).val/\Flat true v):=by
  refine B_curve_add ⟨rfl,?_⟩
  conv=>whnf
  refine S_FAdd_0 (fp_w x) (fp_w y) (fun r hr=> ?_)
  conv=>whnf
  rw [fp_add,<- hr]
  exact⟨rfl,aJ⟩
 refine aC h0 (.cons _ _ _ _ aF (.cons _ _ _ _ aF .nil)) ?_
 rintro v rfl
 exact h _ rfl
theorem dK {m:Mem} {K:AV->Mem->Prop} {x y:Fp} (h:∀ z:Fp,z=x*y->K (numA z.val) m):ACall Pg aP [numA x.val,numA y.val] m K:=by
 have h0:ACall Pg aP [numA x.val,numA y.val] [] (fun v _=>v=numA (x*y).val/\Flat true v):=by
  refine B_curve_mul ⟨rfl,?_⟩
  conv=>whnf
  refine zK (fp_w x) (fp_w y) (fun r hr=> ?_)
  conv=>whnf
  rw [wQ,<- hr]
  exact⟨rfl,aJ⟩
 refine aC h0 (.cons _ _ _ _ aF (.cons _ _ _ _ aF .nil)) ?_
 rintro v rfl
 exact h _ rfl
theorem qT {m:Mem} {K:AV->Mem->Prop} {x y:Fp} (h:∀ z:Fp,z=x - y->K (numA z.val) m):ACall Pg cN [numA x.val,numA y.val] m K:=by
 have h0:ACall Pg cN [numA x.val,numA y.val] [] (fun v _=>v=numA (x - y).val/\Flat true v):=by
  refine B_curve_sub ⟨rfl,?_⟩
  conv=>whnf
  refine S_FSub_0 (fp_w x) (fp_w y) (fun r hr=> ?_)
  conv=>whnf
  rw [Nat.mod_eq_of_lt y.isLt,Nat.add_comm]at hr
  rw [fp_sub,<- hr]
  exact⟨rfl,aJ⟩
 refine aC h0 (.cons _ _ _ _ aF (.cons _ _ _ _ aF .nil)) ?_
 rintro v rfl
 exact h _ rfl
def jL (a:J):List AV:= [.int .u64 (lim a.x.val 0),.int .u64 (lim a.x.val 1),.int .u64 (lim a.x.val 2),.int .u64 (lim a.x.val 3),.int .u64 (lim a.y.val 0),.int .u64 (lim a.y.val 1),.int .u64 (lim a.y.val 2),.int .u64 (lim a.y.val 3),.int .u64 (lim a.z.val 0),.int .u64 (lim a.z.val 1),.int .u64 (lim a.z.val 2),.int .u64 (lim a.z.val 3)]
def jA (a:J):AV:= .agg (jL a)
theorem S_twice0 (a:J):ACall Pg eK [jA a] [] (fun v _=>v=jA (jdbl a)/\Flat true v):=by
 refine vM ⟨rfl,?_⟩
 conv=>whnf
 refine dK (fun yy e_yy=> ?_)
 conv=>whnf
 try (refine⟨⟨[],rfl⟩,?_⟩;conv=>whnf)
 refine dK (fun s0 e_s0=> ?_)
 conv=>whnf
 try (refine⟨⟨[],rfl⟩,?_⟩;conv=>whnf)
 refine mE (fun s1 e_s1=> ?_)
 conv=>whnf
 try (refine⟨⟨[],rfl⟩,?_⟩;conv=>whnf)
 refine mE (fun s2 e_s2=> ?_)
 conv=>whnf
 try (refine⟨⟨[],rfl⟩,?_⟩;conv=>whnf)
 refine mE (fun s e_s=> ?_)
 conv=>whnf
 try (refine⟨⟨[],rfl⟩,?_⟩;conv=>whnf)
 refine dK (fun xx e_xx=> ?_)
 conv=>whnf
 try (refine⟨⟨[],rfl⟩,?_⟩;conv=>whnf)
 refine mE (fun m0 e_m0=> ?_)
 conv=>whnf
 try (refine⟨⟨[],rfl⟩,?_⟩;conv=>whnf)
 refine mE (fun mm e_mm=> ?_)
 conv=>whnf
 try (refine⟨⟨[],rfl⟩,?_⟩;conv=>whnf)
 refine dK (fun m2 e_m2=> ?_)
 conv=>whnf
 try (refine⟨⟨[],rfl⟩,?_⟩;conv=>whnf)
 refine mE (fun ss e_ss=> ?_)
 conv=>whnf
 try (refine⟨⟨[],rfl⟩,?_⟩;conv=>whnf)
 refine qT (fun x e_x=> ?_)
 conv=>whnf
 try (refine⟨⟨[],rfl⟩,?_⟩;conv=>whnf)
 refine dK (fun y0 e_y0=> ?_)
 conv=>whnf
 try (refine⟨⟨[],rfl⟩,?_⟩;conv=>whnf)
 refine mE (fun y1 e_y1=> ?_)
 conv=>whnf
 try (refine⟨⟨[],rfl⟩,?_⟩;conv=>whnf)
 refine mE (fun y2 e_y2=> ?_)
 conv=>whnf
 try (refine⟨⟨[],rfl⟩,?_⟩;conv=>whnf)
 refine mE (fun y4 e_y4=> ?_)
 conv=>whnf
 try (refine⟨⟨[],rfl⟩,?_⟩;conv=>whnf)
 refine qT (fun d e_d=> ?_)
 conv=>whnf
 try (refine⟨⟨[],rfl⟩,?_⟩;conv=>whnf)
 refine dK (fun md e_md=> ?_)
 conv=>whnf
 try (refine⟨⟨[],rfl⟩,?_⟩;conv=>whnf)
 refine mE (fun y8 e_y8=> ?_)
 conv=>whnf
 try (refine⟨⟨[],rfl⟩,?_⟩;conv=>whnf)
 refine qT (fun y e_y=> ?_)
 conv=>whnf
 try (refine⟨⟨[],rfl⟩,?_⟩;conv=>whnf)
 refine dK (fun z0 e_z0=> ?_)
 conv=>whnf
 try (refine⟨⟨[],rfl⟩,?_⟩;conv=>whnf)
 refine mE (fun z e_z=> ?_)
 conv=>whnf
 try (refine⟨⟨[],rfl⟩,?_⟩;conv=>whnf)
 have ex:x=(jdbl a).x:=by simp only [jdbl];subst e_x e_m2 e_ss e_mm e_m0 e_xx e_s e_s1 e_s2 e_s0 e_yy;grind
 have ey:y=(jdbl a).y:=by
  have:y=mm*(s - x) - 8*(yy*yy):=by subst e_y e_md e_d e_y8 e_y4 e_y1 e_y2 e_y0;grind
  rw [this,ex];simp only [jdbl];subst e_mm e_m0 e_xx e_s e_s1 e_s2 e_s0 e_yy;grind
 have ez:z=(jdbl a).z:=by simp only [jdbl];subst e_z e_z0;grind
 unfold jA jL
 rw [<- ex,<- ey,<- ez]
 exact⟨rfl,.agg _ (by repeat (first | exact .nil | refine .cons _ _ (.int _ _) ?_))⟩
theorem cR {nv:Bool} {a:J}:Flat nv (jA a):= .agg _ (by unfold jL;repeat (first | exact .nil | refine .cons _ _ (.int _ _) ?_))
theorem cY {x:Fp}:x.val=0 ↔ x=0:=⟨fun h=>Fin.ext h,fun h=>by rw [h];rfl⟩
theorem S_twice {m:Mem} {K:AV->Mem->Prop} {a:J} (h:∀ r,r=jdbl a->K (jA r) m):ACall Pg eK [jA a] m K:=by
 refine aC (S_twice0 a) (.cons _ _ _ _ (aK cR) .nil) ?_
 rintro v rfl
 exact h _ rfl
theorem c_eqz_t {a:Nat} {p q:Prop} (ha:a<w256) (hp:a=0->p) (hq:a ≠ 0->q):cH ((bif false then !(eqZ a)else eqZ a) == true) p q:=by
 rw [uS ha]
 by_cases h:a=0
 · rw [decide_eq_true h];exact hp h
 · rw [decide_eq_false h];exact hq h
theorem S_plus0 (a b:J):ACall Pg iA [jA a,jA b] [] (fun v _=>v=jA (jadd a b)/\Flat true v):=by
 refine xU ⟨rfl,?_⟩
 conv=>whnf
 refine rE (fp_w a.z) (fun n1=> ?_) (fun n1=> ?_)
 · conv=>whnf
   unfold jadd
   rw [if_pos (cY.1 n1)]
   exact⟨rfl,cR⟩
 have n1:a.z ≠ 0:=fun h=>n1 (cY.2 h)
 conv=>whnf
 refine rE (fp_w b.z) (fun n2=> ?_) (fun n2=> ?_)
 · conv=>whnf
   unfold jadd
   rw [if_neg n1,if_pos (cY.1 n2)]
   exact⟨rfl,cR⟩
 have n2:b.z ≠ 0:=fun h=>n2 (cY.2 h)
 conv=>whnf
 refine dK (fun za e_za=> ?_)
 conv=>whnf
 try (refine⟨⟨[],rfl⟩,?_⟩;conv=>whnf)
 refine dK (fun zb e_zb=> ?_)
 conv=>whnf
 try (refine⟨⟨[],rfl⟩,?_⟩;conv=>whnf)
 refine dK (fun ua e_ua=> ?_)
 conv=>whnf
 try (refine⟨⟨[],rfl⟩,?_⟩;conv=>whnf)
 refine dK (fun ub e_ub=> ?_)
 conv=>whnf
 try (refine⟨⟨[],rfl⟩,?_⟩;conv=>whnf)
 refine dK (fun t1 e_t1=> ?_)
 conv=>whnf
 try (refine⟨⟨[],rfl⟩,?_⟩;conv=>whnf)
 refine dK (fun sa e_sa=> ?_)
 conv=>whnf
 try (refine⟨⟨[],rfl⟩,?_⟩;conv=>whnf)
 refine dK (fun t2 e_t2=> ?_)
 conv=>whnf
 try (refine⟨⟨[],rfl⟩,?_⟩;conv=>whnf)
 refine dK (fun sb e_sb=> ?_)
 conv=>whnf
 try (refine⟨⟨[],rfl⟩,?_⟩;conv=>whnf)
 refine qT (fun h e_h=> ?_)
 conv=>whnf
 try (refine⟨⟨[],rfl⟩,?_⟩;conv=>whnf)
 refine qT (fun r e_r=> ?_)
 conv=>whnf
 try (refine⟨⟨[],rfl⟩,?_⟩;conv=>whnf)
 have eh:b.x*(a.z*a.z) - a.x*(b.z*b.z)=h:=by subst e_h e_ub e_ua e_zb e_za;rfl
 have er:b.y*(a.z*a.z*a.z) - a.y*(b.z*b.z*b.z)=r:=by subst e_r e_sb e_sa e_t2 e_t1 e_zb e_za;rfl
 have J0:jadd a b=if h=0 then (if r=0 then jdbl a else ⟨1,1,0⟩)else ⟨r*r - h*h*h - 2*(ua*(h*h)),r*(ua*(h*h) - (r*r - h*h*h - 2*(ua*(h*h)))) - sa*(h*h*h),h*(a.z*b.z)⟩:=by
  unfold jadd
  rw [if_neg n1,if_neg n2]
  subst e_h e_r e_ub e_sb e_ua e_sa e_t2 e_t1 e_zb e_za
  rfl
 rw [J0]
 clear J0 eh er
 refine c_eqz_t (a:=h.val) (fp_w h) (fun h0=> ?_) (fun h0=> ?_)
 · rw [if_pos (cY.1 h0)]
   conv=>whnf
   refine rE (a:=r.val) (fp_w r) (fun r0=> ?_) (fun r0=> ?_)
   · rw [if_pos (cY.1 r0)]
     conv=>whnf
     refine S_twice (fun q hq=> ?_)
     conv=>whnf
     subst hq
     exact⟨rfl,cR⟩
   · rw [if_neg (fun h=>r0 (cY.2 h))]
     conv=>whnf
     refine rE (a:=h.val) (fp_w h) (fun h1=> ?_) (fun h1=>absurd h0 h1)
     conv=>whnf
     show jA ⟨1,1,0⟩=jA ⟨1,1,0⟩/\Flat true (jA ⟨1,1,0⟩)
     exact⟨rfl,cR⟩
 · rw [if_neg (fun h=>h0 (cY.2 h))]
   conv=>whnf
   refine rE (a:=h.val) (fp_w h) (fun h1=>absurd h1 h0) (fun h1=> ?_)
   conv=>whnf
   refine dK (fun hh e_hh=> ?_)
   conv=>whnf
   try (refine⟨⟨[],rfl⟩,?_⟩;conv=>whnf)
   refine dK (fun hhh e_hhh=> ?_)
   conv=>whnf
   try (refine⟨⟨[],rfl⟩,?_⟩;conv=>whnf)
   refine dK (fun v e_v=> ?_)
   conv=>whnf
   try (refine⟨⟨[],rfl⟩,?_⟩;conv=>whnf)
   refine dK (fun r2 e_r2=> ?_)
   conv=>whnf
   try (refine⟨⟨[],rfl⟩,?_⟩;conv=>whnf)
   refine qT (fun x0 e_x0=> ?_)
   conv=>whnf
   try (refine⟨⟨[],rfl⟩,?_⟩;conv=>whnf)
   refine mE (fun v2 e_v2=> ?_)
   conv=>whnf
   try (refine⟨⟨[],rfl⟩,?_⟩;conv=>whnf)
   refine qT (fun x e_x=> ?_)
   conv=>whnf
   try (refine⟨⟨[],rfl⟩,?_⟩;conv=>whnf)
   refine qT (fun d e_d=> ?_)
   conv=>whnf
   try (refine⟨⟨[],rfl⟩,?_⟩;conv=>whnf)
   refine dK (fun rd e_rd=> ?_)
   conv=>whnf
   try (refine⟨⟨[],rfl⟩,?_⟩;conv=>whnf)
   refine dK (fun sh e_sh=> ?_)
   conv=>whnf
   try (refine⟨⟨[],rfl⟩,?_⟩;conv=>whnf)
   refine qT (fun y e_y=> ?_)
   conv=>whnf
   try (refine⟨⟨[],rfl⟩,?_⟩;conv=>whnf)
   refine dK (fun zz e_zz=> ?_)
   conv=>whnf
   try (refine⟨⟨[],rfl⟩,?_⟩;conv=>whnf)
   refine dK (fun z e_z=> ?_)
   conv=>whnf
   try (refine⟨⟨[],rfl⟩,?_⟩;conv=>whnf)
   show jA ⟨x,y,z⟩=_/\Flat true (jA ⟨x,y,z⟩)
   refine⟨?_,cR⟩
   have ex:x=r*r - h*h*h - 2*(ua*(h*h)):=by subst e_x e_v2 e_x0 e_r2 e_v e_hhh e_hh;clear e_h e_r;grind
   rw [<- ex]
   subst e_y e_sh e_rd e_d e_z e_zz e_v e_hhh e_hh
   rfl
theorem S_plus {m:Mem} {K:AV->Mem->Prop} {a b:J} (h:∀ r,r=jadd a b->K (jA r) m):ACall Pg iA [jA a,jA b] m K:=by
 refine aC (S_plus0 a b) (.cons _ _ _ _ (aK cR) (.cons _ _ _ _ (aK cR) .nil)) ?_
 rintro v rfl
 exact h _ rfl
end Go.Proofs.YtfolpdmbpbbimaaGreat
end

section
namespace Go.Proofs.YtfolpdmbpbbimaaGreat
open Go Go.Wit
def rawL (i:Bool) (x y:Nat):List AV:= [.bool i,.int .u64 (lim x 0),.int .u64 (lim x 1),.int .u64 (lim x 2),.int .u64 (lim x 3),.int .u64 (lim y 0),.int .u64 (lim y 1),.int .u64 (lim y 2),.int .u64 (lim y 3)]
def rawA (i:Bool) (x y:Nat):AV:= .agg (rawL i x y)
def isI:Pt Fp->Bool | .inf=>true | .aff _ _=>false
def xF:Pt Fp->Fp | .inf=>0 | .aff x _=>x
def yF:Pt Fp->Fp | .inf=>0 | .aff _ y=>y
def xN (P:Pt Fp):Nat:=(xF P).val
def yN (P:Pt Fp):Nat:=(yF P).val
def ptA (P:Pt Fp):AV:=rawA (isI P) (xN P) (yN P)
theorem gR {nv:Bool} {i:Bool} {x y:Nat}:Flat nv (rawA i x y):= .agg _ (.cons _ _ (.bool _) (by repeat (first | exact .nil | refine .cons _ _ (.int _ _) ?_)))
theorem cG {nv:Bool} {P:Pt Fp}:Flat nv (ptA P):=gR
theorem xN_lt (P:Pt Fp):xN P<pP:=(xF P).isLt
theorem yN_lt (P:Pt Fp):yN P<pP:=(yF P).isLt
theorem xN_w (P:Pt Fp):xN P<w256:=Nat.lt_trans (xN_lt P) (by decide)
theorem yN_w (P:Pt Fp):yN P<w256:=Nat.lt_trans (yN_lt P) (by decide)
theorem rawA_inj {i j:Bool} {x y u v:Nat} (hx:x<w256) (hy:y<w256) (hu:u<w256) (hv:v<w256) (h:rawA i x y=rawA j u v):i=j/\x=u/\y=v:=by
 simp only [rawA,rawL,AV.agg.injEq,List.cons.injEq,AV.bool.injEq,AV.int.injEq,true_and,and_true]at h
 obtain⟨h0,h1,h2,h3,h4,h5,h6,h7,h8⟩:=h
 exact⟨h0,lim_inj hx hu h1 h2 h3 h4,lim_inj hy hv h5 h6 h7 h8⟩
def spr:Pt Fp->J
 | .inf=>⟨1,1,0⟩
 | .aff x y=>⟨x,y,1⟩
theorem spr_rel (P:Pt Fp):JRel (spr P) P:=by
 cases P with
 | inf=>rfl
 | aff x y=>exact ⟨crvP.one_ne,by show x=x*(1*1);grind,by show y=y*(1*(1*1));grind⟩
theorem lim1:lim (1:Fp).val 0=1/\lim (1:Fp).val 1=0/\lim (1:Fp).val 2=0/\lim (1:Fp).val 3=0:=by
 rw [show (1:Fp).val=1 from rfl]
 refine⟨by decide,by decide,by decide,by decide⟩
theorem S_spread0 (P:Pt Fp):ACall Pg gT [ptA P] [] (fun v _=>v=jA (spr P)/\Flat true v):=by
  cases P with
  | inf =>
    refine qU ⟨rfl,?_⟩
    conv=>whnf
    show jA ⟨1,1,0⟩=_/\Flat true (jA ⟨1,1,0⟩)
    exact⟨rfl,cR⟩
  | aff x y =>
    refine qU ⟨rfl,?_⟩
    conv=>whnf
    have e:jA (spr (.aff x y))=AV.agg [.int .u64 (lim x.val 0),.int .u64 (lim x.val 1),.int .u64 (lim x.val 2),.int .u64 (lim x.val 3),.int .u64 (lim y.val 0),.int .u64 (lim y.val 1),.int .u64 (lim y.val 2),.int .u64 (lim y.val 3),.int .u64 1,.int .u64 0,.int .u64 0,.int .u64 0] :=by
      obtain⟨h0,h1,h2,h3⟩:=lim1
      simp only [jA,jL,spr,h0,h1,h2,h3]
    exact⟨by rw [e];rfl,.agg _ (by repeat (first | exact .nil | refine .cons _ _ (.int _ _) ?_))⟩
theorem S_spread {m:Mem} {K:AV->Mem->Prop} {P:Pt Fp} (h:∀ r,r=spr P->K (jA r) m):ACall Pg gT [ptA P] m K:=by
 refine aC (S_spread0 P) (.cons _ _ _ _ (aK cG) .nil) ?_
 rintro v rfl
 exact h _ rfl
end Go.Proofs.YtfolpdmbpbbimaaGreat
end

section
namespace Go.Proofs.YtfolpdmbpbbimaaGreat
open Go Go.Wit
theorem tdiv_nn (a b:Nat):Int.tdiv (a:Int) (b:Int)=((a / b:Nat):Int):=rfl
theorem tmod_nn (a b:Nat):Int.tmod (a:Int) (b:Int)=((a % b:Nat):Int):=rfl
theorem and_one {x:Nat} (hx:x<18446744073709551616):bY .and .u64 (x:Int) 1=((x % 2:Nat):Int):=by
 have e:(BitVec.ofInt 64 (x:Int) &&& BitVec.ofInt 64 1).toNat=x % 2:=by
  rw [BitVec.toNat_and,BitVec.toNat_ofInt,BitVec.toNat_ofInt]
  have h1:((x:Int) % ((2 ^ 64:Nat):Int)).toNat=x:=by omega
  have h2:((1:Int) % ((2 ^ 64:Nat):Int)).toNat=2 ^ 1 - 1:=by decide
  rw [h1,h2,Nat.and_two_pow_sub_one_eq_mod]
 show IntKind.u64.wrap ((BitVec.ofInt 64 (x:Int) &&& BitVec.ofInt 64 1).toNat:Int)=_
 rw [e,wu64]
 omega
theorem bit_mod (y r:Nat) (hr:r<64):y % 18446744073709551616 / 2 ^ r % 2=y / 2 ^ r % 2:=by
 have e:18446744073709551616=2 ^ r*2 ^ (64 - r):=by rw [<- Nat.pow_add,show r+(64 - r)=64 by omega]
 rw [e,Nat.mod_mul_right_div_self]
 exact Nat.mod_mod_of_dvd _ ⟨2 ^ (63 - r),by rw [show 64 - r=63 - r+1 by omega,Nat.pow_succ,Nat.mul_comm]⟩
theorem bit_val (a q r:Nat) (hr:r<64):IntKind.i64.wrap (bY .and .u64 ((lim a q).fdiv (2 ^ min (r:Int).toNat IntKind.u64.bits)) 1)=((a / 2 ^ (64*q+r) % 2:Nat):Int):=by
 have e1:min (r:Int).toNat IntKind.u64.bits=r:=by
  rw [Int.toNat_natCast];exact Nat.min_eq_left (Nat.le_of_lt (by exact hr))
 have e2:(lim a q).fdiv (2 ^ r)=((a / 18446744073709551616 ^ q % 18446744073709551616 / 2 ^ r:Nat):Int):=by
  unfold lim
  rw [Int.fdiv_eq_ediv_of_nonneg _ (by exact Int.le_of_lt (Int.pow_pos (by decide))),show ((2:Int) ^ r)=((2 ^ r:Nat):Int) by simp,<- Int.natCast_ediv]
 have h3:a / 18446744073709551616 ^ q % 18446744073709551616 / 2 ^ r<18446744073709551616:=Nat.lt_of_le_of_lt (Nat.div_le_self _ _) (Nat.mod_lt _ (by decide))
 rw [e1,e2,and_one h3,bit_mod _ _ hr,Nat.div_div_eq_div_mul,Nat.pow_add,Nat.pow_mul,show (2 ^ 64:Nat)=18446744073709551616 by decide,w64 (by omega) (by omega)]
theorem S_LBit0 (a q r:Nat) (hq:q<4) (hr:r<64):ACall Pg kA [numA a,.int .i64 ((64*q+r:Nat):Int)] [] (fun v _=>v= .int .i64 ((a / 2 ^ (64*q+r) % 2:Nat):Int)/\Flat true v):=by
 have e1:IntKind.i64.wrap (((64*q+r:Nat):Int).tdiv 64)=(q:Int):=by
  rw [show (64:Int)=((64:Nat):Int)from rfl,tdiv_nn,w64 (by omega) (by omega)];omega
 have e2:(((64*q+r:Nat):Int).tmod 64)=(r:Int):=by
  rw [show (64:Int)=((64:Nat):Int)from rfl,tmod_nn];omega
 refine B_limb_Bit ⟨rfl,?_⟩
 conv=>whnf
 refine gU (decide_eq_false (by omega)) ?_
 conv=>whnf
 rw [e1]
 refine aE (by simp;omega) ?_
 have hq4:q=0\/q=1\/q=2\/q=3:=by omega
 rcases hq4 with rfl | rfl | rfl | rfl <;>
 · conv=>whnf
   rw [e2,bit_val _ _ _ hr]
   exact⟨rfl,.int _ _⟩
theorem S_LBit {m:Mem} {K:AV->Mem->Prop} {a i:Nat} (hi:i<256) (h:∀ b:Nat,b=a / 2 ^ i % 2->K (.int .i64 b) m):ACall Pg kA [numA a,.int .i64 (i:Int)] m K:=by
 refine aC (S_LBit0 a (i / 64) (i % 64) (by omega) (by omega)) (.cons _ _ _ _ aF (.cons _ _ _ _ ?_ .nil)) ?_
 · rw [show 64*(i / 64)+i % 64=i by omega];exact aQ
 rintro v rfl
 rw [show 64*(i / 64)+i % 64=i by omega]
 exact h _ rfl
theorem S_RBit0 (a q r:Nat) (hq:q<4) (hr:r<64):ACall Pg fK [numA a,.int .i64 ((64*q+r:Nat):Int)] [] (fun v _=>v= .int .i64 ((a / 2 ^ (64*q+r) % 2:Nat):Int)/\Flat true v):=by
 have e1:IntKind.i64.wrap (((64*q+r:Nat):Int).tdiv 64)=(q:Int):=by
  rw [show (64:Int)=((64:Nat):Int)from rfl,tdiv_nn,w64 (by omega) (by omega)];omega
 have e2:IntKind.u64.wrap (((64*q+r:Nat):Int).tmod 64)=(r:Int):=by
  rw [show (64:Int)=((64:Nat):Int)from rfl,tmod_nn,wu64];omega
 refine xP ⟨rfl,?_⟩
 conv=>whnf
 refine gU (decide_eq_false (by omega)) ?_
 conv=>whnf
 rw [e1]
 refine aE (by simp;omega) ?_
 have hq4:q=0\/q=1\/q=2\/q=3:=by omega
 rcases hq4 with rfl | rfl | rfl | rfl <;>
 · conv=>whnf
   rw [e2]
   try refine aE (by simp) ?_
   conv=>whnf
   rw [bit_val _ _ _ hr]
   exact⟨rfl,.int _ _⟩
theorem S_RBit {m:Mem} {K:AV->Mem->Prop} {a i:Nat} (hi:i<256) (h:∀ b:Nat,b=a / 2 ^ i % 2->K (.int .i64 b) m):ACall Pg fK [numA a,.int .i64 (i:Int)] m K:=by
 refine aC (S_RBit0 a (i / 64) (i % 64) (by omega) (by omega)) (.cons _ _ _ _ aF (.cons _ _ _ _ ?_ .nil)) ?_
 · rw [show 64*(i / 64)+i % 64=i by omega];exact aQ
 rintro v rfl
 rw [show 64*(i / 64)+i % 64=i by omega]
 exact h _ rfl
def lenTab:ByteArray:=⟨#[0,1,2,2,3,3,3,3,4,4,4,4,4,4,4,4,5,5,5,5,5,5,5,5,5,5,5,5,5,5,5,5,6,6,6,6,6,6,6,6,6,6,6,6,6,6,6,6,6,6,6,6,6,6,6,6,6,6,6,6,6,6,6,6,7,7,7,7,7,7,7,7,7,7,7,7,7,7,7,7,7,7,7,7,7,7,7,7,7,7,7,7,7,7,7,7,7,7,7,7,7,7,7,7,7,7,7,7,7,7,7,7,7,7,7,7,7,7,7,7,7,7,7,7,7,7,7,7,8,8,8,8,8,8,8,8,8,8,8,8,8,8,8,8,8,8,8,8,8,8,8,8,8,8,8,8,8,8,8,8,8,8,8,8,8,8,8,8,8,8,8,8,8,8,8,8,8,8,8,8,8,8,8,8,8,8,8,8,8,8,8,8,8,8,8,8,8,8,8,8,8,8,8,8,8,8,8,8,8,8,8,8,8,8,8,8,8,8,8,8,8,8,8,8,8,8,8,8,8,8,8,8,8,8,8,8,8,8,8,8,8,8,8,8,8,8,8,8,8,8,8,8,8,8,8,8]⟩
theorem lenTab_ok:∀ n:Fin 256,n.val<2 ^ (lenTab.data.getD n.val 0).toNat/\(lenTab.data.getD n.val 0).toNat<=8:=by decide +kernel
theorem lenTab_sz:lenTab.size=256:=by decide +kernel
theorem shr16 (x:Nat):(x:Int).fdiv (2 ^ min (16:Int).toNat IntKind.u64.bits)=((x / 65536:Nat):Int):=by
 rw [show min (16:Int).toNat IntKind.u64.bits=16 from rfl,Int.fdiv_eq_ediv_of_nonneg _ (by decide)]
 omega
theorem shr8 (x:Nat):(x:Int).fdiv (2 ^ min (8:Int).toNat IntKind.u64.bits)=((x / 256:Nat):Int):=by
 rw [show min (8:Int).toNat IntKind.u64.bits=8 from rfl,Int.fdiv_eq_ediv_of_nonneg _ (by decide)]
 omega
theorem u8N {y:Nat} (hy:y<256):IntKind.u8.wrap (y:Int)=(y:Int):=by
 simp [IntKind.wrap,IntKind.bits,IntKind.signed];omega
theorem pB {y:Nat} (hy:y<256):(decide (0<=(y:Int)) && decide ((y:Int)<(lenTab.size:Int)))=true:=by
 rw [lenTab_sz];simp;omega
theorem pA {x y s:Nat} (hy:y<256) (hs:s<=56) (h:x<(y+1)*2 ^ s) {n:Int} (hn:n=s):
 (∃ k:Nat,k<=64/\x<2 ^ k/\AV.int .i64 (IntKind.i64.wrap (n+IntKind.i64.wrap ((lenTab.data.getD (y:Int).toNat 0).toNat:Int)))= .int .i64 (k:Int))/\Flat true (AV.int .i64 (IntKind.i64.wrap (n+IntKind.i64.wrap ((lenTab.data.getD (y:Int).toNat 0).toNat:Int)))):=by
 obtain⟨h1,h2⟩:=lenTab_ok ⟨y,hy⟩
 rw [Int.toNat_natCast]
 dsimp only at h1 h2
 generalize (lenTab.data.getD y 0).toNat=t at*
 refine⟨⟨s+t,by omega,?_,?_⟩,.int _ _⟩
 · have:(y+1)*2 ^ s<=2 ^ t*2 ^ s:=Nat.mul_le_mul_right _ (by omega)
   rw [Nat.pow_add,Nat.mul_comm]
   omega
 · rw [w64 (n:=(t:Int)) (by omega) (by omega),w64 (by omega) (by omega),hn]
   rfl
theorem S_Len64a (x:Nat) (hx:x<18446744073709551616):ACall Pg lF [.int .u64 (x:Int)] [] (fun v _=>(∃ k:Nat,k<=64/\x<2 ^ k/\v= .int .i64 (k:Int))/\Flat true v):=by
 refine B_bits_Len64 ⟨rfl,?_⟩
 conv=>whnf
 refine aA (fun h0=> ?_) (fun h0=> ?_)
 · replace h0:x >= 4294967296:=by have:=of_decide_eq_true h0;omega
   conv=>whnf
   rw [shr32]
   refine aA (fun h1=> ?_) (fun h1=> ?_)
   · replace h1:(x / 4294967296) >= 65536:=by have:=of_decide_eq_true h1;omega
     conv=>whnf
     rw [shr16]
     refine aA (fun h2=> ?_) (fun h2=> ?_)
     · replace h2:((x / 4294967296) / 65536) >= 256:=by have:=of_decide_eq_true h2;omega
       conv=>whnf
       rw [shr8]
       rw [u8N (y:=(((x / 4294967296) / 65536) / 256)) (by omega)];refine aE (pB (y:=(((x / 4294967296) / 65536) / 256)) (by omega)) ?_;conv=>whnf
       exact pA (x:=x) (y:=(((x / 4294967296) / 65536) / 256)) (s:=56) (by omega) (by omega) (by omega) rfl
     · replace h2:¬ ((x / 4294967296) / 65536) >= 256:=by have:=of_decide_eq_false h2;omega
       conv=>whnf
       rw [u8N (y:=((x / 4294967296) / 65536)) (by omega)];refine aE (pB (y:=((x / 4294967296) / 65536)) (by omega)) ?_;conv=>whnf
       exact pA (x:=x) (y:=((x / 4294967296) / 65536)) (s:=48) (by omega) (by omega) (by omega) rfl
   · replace h1:¬ (x / 4294967296) >= 65536:=by have:=of_decide_eq_false h1;omega
     conv=>whnf
     refine aA (fun h2=> ?_) (fun h2=> ?_)
     · replace h2:(x / 4294967296) >= 256:=by have:=of_decide_eq_true h2;omega
       conv=>whnf
       rw [shr8]
       rw [u8N (y:=((x / 4294967296) / 256)) (by omega)];refine aE (pB (y:=((x / 4294967296) / 256)) (by omega)) ?_;conv=>whnf
       exact pA (x:=x) (y:=((x / 4294967296) / 256)) (s:=40) (by omega) (by omega) (by omega) rfl
     · replace h2:¬ (x / 4294967296) >= 256:=by have:=of_decide_eq_false h2;omega
       conv=>whnf
       rw [u8N (y:=(x / 4294967296)) (by omega)];refine aE (pB (y:=(x / 4294967296)) (by omega)) ?_;conv=>whnf
       exact pA (x:=x) (y:=(x / 4294967296)) (s:=32) (by omega) (by omega) (by omega) rfl
 · replace h0:¬ x >= 4294967296:=by have:=of_decide_eq_false h0;omega
   conv=>whnf
   refine aA (fun h1=> ?_) (fun h1=> ?_)
   · replace h1:x >= 65536:=by have:=of_decide_eq_true h1;omega
     conv=>whnf
     rw [shr16]
     refine aA (fun h2=> ?_) (fun h2=> ?_)
     · replace h2:(x / 65536) >= 256:=by have:=of_decide_eq_true h2;omega
       conv=>whnf
       rw [shr8]
       rw [u8N (y:=((x / 65536) / 256)) (by omega)];refine aE (pB (y:=((x / 65536) / 256)) (by omega)) ?_;conv=>whnf
       exact pA (x:=x) (y:=((x / 65536) / 256)) (s:=24) (by omega) (by omega) (by omega) rfl
     · replace h2:¬ (x / 65536) >= 256:=by have:=of_decide_eq_false h2;omega
       conv=>whnf
       rw [u8N (y:=(x / 65536)) (by omega)];refine aE (pB (y:=(x / 65536)) (by omega)) ?_;conv=>whnf
       exact pA (x:=x) (y:=(x / 65536)) (s:=16) (by omega) (by omega) (by omega) rfl
   · replace h1:¬ x >= 65536:=by have:=of_decide_eq_false h1;omega
     conv=>whnf
     refine aA (fun h2=> ?_) (fun h2=> ?_)
     · replace h2:x >= 256:=by have:=of_decide_eq_true h2;omega
       conv=>whnf
       rw [shr8]
       rw [u8N (y:=(x / 256)) (by omega)];refine aE (pB (y:=(x / 256)) (by omega)) ?_;conv=>whnf
       exact pA (x:=x) (y:=(x / 256)) (s:=8) (by omega) (by omega) (by omega) rfl
     · replace h2:¬ x >= 256:=by have:=of_decide_eq_false h2;omega
       conv=>whnf
       rw [u8N (y:=x) (by omega)];refine aE (pB (y:=x) (by omega)) ?_;conv=>whnf
       exact pA (x:=x) (y:=x) (s:=0) (by omega) (by omega) (by omega) rfl
end Go.Proofs.YtfolpdmbpbbimaaGreat
end

section
namespace Go.Wit
theorem inv_mod {p a:Nat} (hp:Prm p) (ha:¬ p∣ a):a ^ (p - 2)*a % p=1:=by
 rw [<- Nat.pow_succ,show (p - 2).succ=p - 1 by have:=hp.1;omega]
 exact fermat hp ha
theorem ord_of {N:Nat} (hN:Prm N) (hinf:∀ m,nmul (m % N) gG=nmul m gG) {m:Nat} (h:nmul m gG= .inf):N∣ m:=by
 by_cases hd:N∣ m
 · exact hd
 · exfalso
   have h1:=inv_mod hN hd
   have h2:nmul (m ^ (N - 2)*m) gG= .inf:=by rw [yV crvP on_G,h,nmul_inf]
   rw [<- hinf,h1]at h2
   cases h2
theorem uJ {m:Nat} (h:nmul m gG= .inf):nN∣ m:=ord_of prmN nmul_mod h
theorem padd_cancel {X B:Pt Fp} (hX:On X) (hB:On B) (h:padd X B=B):X= .inf:=by
 have h1:padd (padd X B) B.neg=padd B B.neg:=by rw [h]
 rw [cB crvP hX hB hB.neg,mP,jK]at h1
 exact h1
theorem neg_of_padd {X B:Pt Fp} (hX:On X) (hB:On B) (h:padd X B= .inf):X=B.neg:=by
 have h1:padd (padd X B) B.neg=padd .inf B.neg:=by rw [h]
 rw [cB crvP hX hB hB.neg,mP,jK,iP]at h1
 exact h1
theorem nmul_G_le {a b:Nat} (hab:b<=a) (h:nmul a gG=nmul b gG):a % nN=b % nN:=by
 have e:a=(a - b)+b:=by omega
 rw [e,iO crvP on_G]at h
 exact lK (uJ (padd_cancel (on_G.nmul crvP _) (on_G.nmul crvP _) h)) hab
theorem nmul_G_eq {a b:Nat} (h:nmul a gG=nmul b gG):a % nN=b % nN:=by
 rcases Nat.le_total b a with hab | hab
 · exact nmul_G_le hab h
 · exact(nmul_G_le hab h.symm).symm
theorem pow_sq (a e:Nat):(a*a) ^ e=a ^ (2*e):=by
 rw [Nat.pow_mul,Nat.pow_two]
theorem fpow_sq (a:Fp) (e:Nat):fpow a e*fpow a e=fpow a (2*e):=by
 apply Fin.ext
 rw [wQ,qE,qE,<- Nat.mul_mod,<- Nat.pow_two,<- Nat.pow_mul,Nat.mul_comm e]
theorem fpow_of_sq (a:Fp) (e:Nat):fpow (a*a) e=fpow a (2*e):=by
 apply Fin.ext
 rw [qE,qE,wQ,<- Nat.pow_mod,pow_sq]
theorem fpow_p1 (a:Fp) {e:Nat} (he:e=pP+1):fpow a e=a*a:=by
 apply Fin.ext
 rw [qE,wQ]
 by_cases h:a=0
 · subst h
   rw [fp_zero,he,Nat.zero_pow (by omega)]
 · have h1:=fermat prmP (fp_ne h)
   have h2:a.val ^ e=a.val ^ (pP - 1)*(a.val*a.val):=by
    rw [he,show pP+1=pP - 1+2 by decide,Nat.pow_add,Nat.pow_two]
   rw [h2,Nat.mul_mod,h1,Nat.one_mul,Nat.mod_mod]
def cS (a:Fp):Fp:=fpow a ((pP+1) / 4)
theorem four_q:2*(2*((pP+1) / 4))=pP+1:=by decide
theorem fsqrt_sq (y:Fp):cS (y*y)*cS (y*y)=y*y:=by
 unfold cS
 rw [fpow_sq,fpow_of_sq,fpow_p1 y four_q]
theorem sq_eq {r y:Fp} (h:r*r=y*y):r=y\/r= -y:=by
 by_cases h1:r - y=0
 · left;grind
 · by_cases h2:r+y=0
   · right;grind
   · exact absurd (show (r - y)*(r+y)=0 by grind) (crvP.mul_ne h1 h2)
theorem fp_neg_val {y:Fp} (h:y ≠ 0):(-y).val=pP - y.val:=by
 rw [fp_neg,Nat.mod_eq_of_lt]
 have h1:y.val ≠ 0:=fun h0=>h (Fin.ext h0)
 have:=y.isLt
 omega
theorem p_odd:pP % 2=1:=by decide
theorem odd_sub {p y:Nat} (h:p % 2=1) (hy:y<p):(p - y) % 2=1 - y % 2:=by omega
theorem jX {y:Fp} (h:y ≠ 0):(-y).val % 2=1 - y.val % 2:=by
 rw [fp_neg_val h]
 exact odd_sub p_odd y.isLt
def evn (r:Fp):Fp:=if r.val % 2=1 then -r else r
theorem evn_sq (r:Fp):evn r*evn r=r*r:=by
 unfold evn
 split
 · grind
 · rfl
theorem evn_even (r:Fp):(evn r).val % 2=0:=by
 unfold evn
 split
 · rename_i h
   rw [jX (fun h0=>by subst h0;revert h;decide),h]
 · rename_i h;omega
theorem even_uniq {r y:Fp} (h:r*r=y*y) (hr:r.val % 2=0) (hy:y.val % 2=0) (h0:y ≠ 0):r=y:=by
 rcases sq_eq h with h1 | h1
 · exact h1
 · have:=jX h0
   rw [h1]at hr
   omega
end Go.Wit
end

section
namespace Go.Proofs.YtfolpdmbpbbimaaGreat
open Go Go.Wit
theorem S_Len64 {m:Mem} {K:AV->Mem->Prop} {x:Nat} (hx:x<18446744073709551616) (h:∀ k:Nat,k<=64->x<2 ^ k->K (.int .i64 k) m):ACall Pg lF [.int .u64 (x:Int)] m K:=by
 refine aC (S_Len64a x hx) (.cons _ _ _ _ aQ .nil) ?_
 rintro v ⟨k,h1,h2,rfl⟩
 exact h k h1 h2
theorem len_up {a i k:Nat} (ha:a / 18446744073709551616 ^ (i+1)=0) (h:a / 18446744073709551616 ^ i % 18446744073709551616<2 ^ k):a<2 ^ (64*i+k):=by
 have h1:a / 18446744073709551616 ^ i<18446744073709551616:=by
  rw [Nat.pow_succ,<- Nat.div_div_eq_div_mul]at ha
  omega
 rw [Nat.mod_eq_of_lt h1,Nat.div_lt_iff_lt_mul (Nat.pow_pos (by decide)),show 18446744073709551616=2 ^ 64 by decide,<- Nat.pow_mul,<- Nat.pow_add,Nat.add_comm]at h
 exact h
theorem len_dn {a i:Nat} (ha:a / 18446744073709551616 ^ (i+1)=0) (h:a / 18446744073709551616 ^ i % 18446744073709551616=0):a / 18446744073709551616 ^ i=0:=by
 have h1:a / 18446744073709551616 ^ i<18446744073709551616:=by
  rw [Nat.pow_succ,<- Nat.div_div_eq_div_mul]at ha
  omega
 rwa [Nat.mod_eq_of_lt h1]at h
theorem neb {x:Nat} {p q:Prop} (h1:x ≠ 0->p) (h2:x=0->q):cH ((x:Int) != 0) p q:=by
 refine aA (fun h=>h1 ?_) (fun h=>h2 ?_)
 · rintro rfl;exact absurd h (by decide)
 · have:=(bne_eq_false_iff_eq ..).1 h;omega
theorem S_LLen0 (a:Nat) (ha:a<w256):ACall Pg mH [numA a] [] (fun v _=>(∃ k:Nat,k<=256/\a<2 ^ k/\v= .int .i64 (k:Int))/\Flat true v):=by
 have z4:a / 18446744073709551616 ^ 4=0:=Nat.div_eq_of_lt ha
 refine B_limb_Len ⟨rfl,?_⟩
 conv=>whnf
 refine aR aI 5 ?_
 conv=>whnf
 refine neb (x:=a / 18446744073709551616 ^ 3 % 18446744073709551616) (fun hn=> ?_) (fun z=> ?_)
 · conv=>whnf
   refine S_Len64 (x:=a / 18446744073709551616 ^ 3 % 18446744073709551616) (Nat.mod_lt _ (by decide)) (fun k k1 k2=> ?_)
   conv=>whnf
   refine⟨⟨64*3+k,by omega,len_up z4 k2,?_⟩,.int _ _⟩
   rw [w64 (n:=64*3) (by omega) (by omega),w64 (by omega) (by omega)]
   rfl
 replace z3:=len_dn z4 z
 conv=>whnf
 rw [show IntKind.i64.wrap (3 - 1)=2 from rfl]
 refine neb (x:=a / 18446744073709551616 ^ 2 % 18446744073709551616) (fun hn=> ?_) (fun z=> ?_)
 · conv=>whnf
   refine S_Len64 (x:=a / 18446744073709551616 ^ 2 % 18446744073709551616) (Nat.mod_lt _ (by decide)) (fun k k1 k2=> ?_)
   conv=>whnf
   refine⟨⟨64*2+k,by omega,len_up z3 k2,?_⟩,.int _ _⟩
   rw [w64 (n:=64*2) (by omega) (by omega),w64 (by omega) (by omega)]
   rfl
 replace z2:=len_dn z3 z
 conv=>whnf
 rw [show IntKind.i64.wrap (2 - 1)=1 from rfl]
 refine neb (x:=a / 18446744073709551616 ^ 1 % 18446744073709551616) (fun hn=> ?_) (fun z=> ?_)
 · conv=>whnf
   refine S_Len64 (x:=a / 18446744073709551616 ^ 1 % 18446744073709551616) (Nat.mod_lt _ (by decide)) (fun k k1 k2=> ?_)
   conv=>whnf
   refine⟨⟨64*1+k,by omega,len_up z2 k2,?_⟩,.int _ _⟩
   rw [w64 (n:=64*1) (by omega) (by omega),w64 (by omega) (by omega)]
   rfl
 replace z1:=len_dn z2 z
 conv=>whnf
 rw [show IntKind.i64.wrap (1 - 1)=0 from rfl]
 refine neb (x:=a / 18446744073709551616 ^ 0 % 18446744073709551616) (fun hn=> ?_) (fun z=> ?_)
 · conv=>whnf
   refine S_Len64 (x:=a / 18446744073709551616 ^ 0 % 18446744073709551616) (Nat.mod_lt _ (by decide)) (fun k k1 k2=> ?_)
   conv=>whnf
   refine⟨⟨64*0+k,by omega,len_up z1 k2,?_⟩,.int _ _⟩
   rw [w64 (n:=64*0) (by omega) (by omega),w64 (by omega) (by omega)]
   rfl
 replace z0:=len_dn z1 z
 conv=>whnf
 refine⟨⟨0,by omega,by omega,rfl⟩,.int _ _⟩
theorem S_LLen {m:Mem} {K:AV->Mem->Prop} {a:Nat} (ha:a<w256) (h:∀ k:Nat,k<=256->a<2 ^ k->K (.int .i64 k) m):ACall Pg mH [numA a] m K:=by
 refine aC (S_LLen0 a ha) (.cons _ _ _ _ aF .nil) ?_
 rintro v ⟨k,h1,h2,rfl⟩
 exact h k h1 h2
theorem pow_sq_mod {a E n r o:Nat} (ho:o=a ^ E % n) (hr:r=o*o % n):r=a ^ (2*E) % n:=by
 rw [hr,ho,<- Nat.mul_mod,<- Nat.pow_two,<- Nat.pow_mul,Nat.mul_comm E]
theorem pow_one_mod {a E n r o:Nat} (ho:o=a ^ E % n) (hr:r=o*a % n):r=a ^ (E+1) % n:=by
 rw [hr,ho,Nat.pow_succ,Nat.mod_mul_mod]
theorem zA (e t:Nat):e / 2 ^ t=2*(e / 2 ^ (t+1))+e / 2 ^ t % 2:=by
 rw [Nat.pow_succ,<- Nat.div_div_eq_div_mul];omega
theorem bit_lt (x:Nat):x % 2=0\/x % 2=1:=by omega
theorem numA_c {b:Nat} (hb:b<18446744073709551616):AV.agg (u4 b 0 0 0)=numA b:=by
 rw [<- aT hb (by decide) (by decide) (by decide)];rfl
theorem S_LSubk {m:Mem} {K:AV->Mem->Prop} {a b:Nat} (ha:a<w256) (hb:b<18446744073709551616) (hab:b<=a) (h:∀ s c:Nat,s=a - b->K (.tup [numA s,.int .u64 c]) m):ACall Pg dR [numA a,.agg (u4 b 0 0 0)] m K:=by
 rw [numA_c hb]
 refine S_LSub ha (by simp only [w256];omega) (fun s c e s1 c1=>h s c ?_)
 have:c=0\/c=1:=by omega
 simp only [w256]at*
 rcases this with rfl | rfl <;> omega
theorem S_RSubk {m:Mem} {K:AV->Mem->Prop} {a b:Nat} (ha:a<w256) (hb:b<18446744073709551616) (hab:b<=a) (h:∀ s c:Nat,s=a - b->K (.tup [numA s,.int .u64 c]) m):ACall Pg bM [numA a,.agg (u4 b 0 0 0)] m K:=by
 rw [numA_c hb]
 refine S_RSub ha (by simp only [w256];omega) (fun s c e s1 c1=>h s c ?_)
 have:c=0\/c=1:=by omega
 simp only [w256]at*
 rcases this with rfl | rfl <;> omega
theorem S_Pow0_0 (a e:Nat) (ha:a<w256) (he:e<w256):ACall Pg jG [.int .i64 0,numA a,numA e] [] (fun v _=>v=numA (a ^ e % pP)/\Flat true v):=by
 refine B_field_Pow ⟨rfl,?_⟩
 conv=>whnf
 refine mZ ?_
 conv=>whnf
 refine S_LLen he (fun k k1 k2=> ?_)
 conv=>whnf
 have e10:IntKind.i64.wrap ((k:Int) - 1)=(k:Int) - 1:=w64 (by omega) (by omega)
 refine bE aI (I:=fun q l m=>∃ (v:Int) (b:Nat),l= [(0,.int .i64 0),(4,.ptr 0 0 0),(5,.ptr 1 0 0),(6,.ptr 2 0 0),(9,.ptr 3 0 0),(10,.int .i64 v)] /\ m= [some ⟨1,4,lstG 1 (numL a)⟩,some ⟨1,4,lstG 1 (numL e)⟩,some ⟨1,4,lstG 1 (u4 0 0 0 0)⟩,some ⟨1,4,lstG 1 (numL b)⟩] /\
  v=(q:Int) - 1/\q<=256/\b=a ^ (e / 2 ^ q) % pP) k
  (l0:= [(0,.int .i64 0),(4,.ptr 0 0 0),(5,.ptr 1 0 0),(6,.ptr 2 0 0),(9,.ptr 3 0 0),(10,.int .i64 ((k:Int) - 1))]) (m0:= [some ⟨1,4,lstG 1 (numL a)⟩,some ⟨1,4,lstG 1 (numL e)⟩,some ⟨1,4,lstG 1 (u4 0 0 0 0)⟩,some ⟨1,4,lstG 1 (numL 1)⟩])
  [some 0,some 1,some 2,some 4] ⟨_,1,rfl,rfl,rfl,k1,by rw [Nat.div_eq_of_lt k2,Nat.pow_zero,Nat.mod_eq_of_lt (by decide)]⟩ ?_ ?_
 · refine .mk0 ⟨Flat.i rfl,.ptr _ _ _ _ rfl,.ptr _ _ _ _ rfl,.ptr _ _ _ _ rfl,.ptr _ _ _ _ rfl,Flat.i e10,trivial⟩ ⟨.old 0 0 _ _ rfl rfl ⟨rfl,Nat.le_refl _,fun i j hi hj=> .eq _ _ rfl aH⟩,.old 1 1 _ _ rfl rfl ⟨rfl,Nat.le_refl _,fun i j hi hj=> .eq _ _ rfl aH⟩,
    .old 2 2 _ _ rfl rfl ⟨rfl,Nat.le_refl _,fun i j hi hj=> ?_⟩,.old 3 4 _ _ rfl rfl ⟨rfl,Nat.le_refl _,fun i j hi hj=> ?_⟩,trivial⟩ rfl rfl
   · have hj:j<1:=hj
     have hi:i<4:=hi
     obtain rfl:j=0:=by omega
     have:i=0\/i=1\/i=2\/i=3:=by omega
     rcases this with rfl | rfl | rfl | rfl <;> exact .eq _ _ rfl (.int _ _)
   · have hj:j<1:=hj
     have hi:i<4:=hi
     obtain rfl:j=0:=by omega
     have:i=0\/i=1\/i=2\/i=3:=by omega
     rcases this with rfl | rfl | rfl | rfl <;> exact .eq _ _ rfl (.int _ _)
 · rintro q l m ⟨v,b,rfl,rfl,hv,hq,hb⟩
   have hp0:0<pP:=by decide
   have hb1:b<w256:=by rw [hb];exact Nat.lt_trans (Nat.mod_lt _ hp0) (by decide)
   conv=>whnf
   refine aA (fun hc=> ?_) (fun hc=> ?_)
   · have hc:v >= 0:=of_decide_eq_true hc
     obtain⟨t,rfl⟩ :∃ t,q=t+1:=⟨q - 1,by omega⟩
     obtain rfl:v=(t:Int):=by omega
     conv=>whnf
     refine zK hb1 hb1 (fun r hr=> ?_)
     conv=>whnf
     try (refine⟨⟨[],rfl⟩,?_⟩;conv=>whnf)
     have hr2:=pow_sq_mod hb hr
     have hr1:r<w256:=by rw [hr2];exact Nat.lt_trans (Nat.mod_lt _ hp0) (by decide)
     refine S_LBit (by omega) (fun c hcc=> ?_)
     conv=>whnf
     try (refine⟨⟨[],rfl⟩,?_⟩;conv=>whnf)
     have ee:=zA e t
     have e5:IntKind.i64.wrap ((t:Int) - 1)=(t:Int) - 1:=w64 (by omega) (by omega)
     rcases bit_lt (e / 2 ^ t)with hz | hz
     · obtain rfl:c=0:=by omega
       conv=>whnf
       refine⟨t,_,_,[some 0,some 1,some 2,some 3],Nat.lt_succ_self _,⟨(t:Int) - 1,r,rfl,rfl,rfl,by omega,by rw [hr2,ee,hz];rfl⟩,?_⟩
       refine .mk0 ⟨Flat.i rfl,.ptr _ _ _ _ rfl,.ptr _ _ _ _ rfl,.ptr _ _ _ _ rfl,.ptr _ _ _ _ rfl,Flat.i e5,trivial⟩ ⟨.old 0 0 _ _ rfl rfl ⟨rfl,Nat.le_refl _,fun i j hi hj=> .eq _ _ rfl aH⟩,.old 1 1 _ _ rfl rfl ⟨rfl,Nat.le_refl _,fun i j hi hj=> .eq _ _ rfl aH⟩,
        .old 2 2 _ _ rfl rfl ⟨rfl,Nat.le_refl _,fun i j hi hj=> .eq _ _ rfl mR⟩,.old 3 3 _ _ rfl rfl ⟨rfl,Nat.le_refl _,fun i j hi hj=> .eq _ _ rfl aH⟩,trivial⟩ rfl rfl
     · obtain rfl:c=1:=by omega
       conv=>whnf
       refine zK hr1 ha (fun s hs=> ?_)
       conv=>whnf
       try (refine⟨⟨[],rfl⟩,?_⟩;conv=>whnf)
       have hs2:=pow_one_mod hr2 hs
       refine⟨t,_,_,[some 0,some 1,some 2,some 3],Nat.lt_succ_self _,⟨(t:Int) - 1,s,rfl,rfl,rfl,by omega,by rw [hs2,ee,hz]⟩,?_⟩
       refine .mk0 ⟨Flat.i rfl,.ptr _ _ _ _ rfl,.ptr _ _ _ _ rfl,.ptr _ _ _ _ rfl,.ptr _ _ _ _ rfl,Flat.i e5,trivial⟩ ⟨.old 0 0 _ _ rfl rfl ⟨rfl,Nat.le_refl _,fun i j hi hj=> .eq _ _ rfl aH⟩,.old 1 1 _ _ rfl rfl ⟨rfl,Nat.le_refl _,fun i j hi hj=> .eq _ _ rfl aH⟩,
        .old 2 2 _ _ rfl rfl ⟨rfl,Nat.le_refl _,fun i j hi hj=> .eq _ _ rfl mR⟩,.old 3 3 _ _ rfl rfl ⟨rfl,Nat.le_refl _,fun i j hi hj=> .eq _ _ rfl aH⟩,trivial⟩ rfl rfl
   · have hc:¬ v >= 0:=of_decide_eq_false hc
     obtain rfl:q=0:=by omega
     conv=>whnf
     rw [Nat.pow_zero,Nat.div_one]at hb
     rw [<- hb]
     exact⟨rfl,aJ⟩
theorem S_Pow_0 {m:Mem} {K:AV->Mem->Prop} {a e:Nat} (ha:a<w256) (he:e<w256) (h:∀ r,r=a ^ e % pP->K (numA r) m):ACall Pg jG [.int .i64 0,numA a,numA e] m K:=by
 refine aC (S_Pow0_0 a e ha he) (.cons _ _ _ _ aQ (.cons _ _ _ _ aF (.cons _ _ _ _ aF .nil))) ?_
 rintro v rfl
 exact h _ rfl
theorem S_Inv_0 {m:Mem} {K:AV->Mem->Prop} {a:Nat} (ha:a<w256) (h:∀ r,r=a ^ (pP - 2) % pP->K (numA r) m):ACall Pg kL [.int .i64 0,numA a] m K:=by
 have h0:ACall Pg kL [.int .i64 0,numA a] [] (fun v _=>v=numA (a ^ (pP - 2) % pP)/\Flat true v):=by
  refine B_field_Inv ⟨rfl,?_⟩
  conv=>whnf
  refine pQ (fun n hn=> ?_)
  conv=>whnf
  refine S_LSubk (b:=2) (by rw [hn];decide) (by decide) (by rw [hn];decide) (fun s c hs=> ?_)
  conv=>whnf
  refine S_Pow_0 ha (by rw [hs,hn];decide) (fun r hr=> ?_)
  conv=>whnf
  rw [hs,hn]at hr
  rw [<- hr]
  exact⟨rfl,aJ⟩
 refine aC h0 (.cons _ _ _ _ aQ (.cons _ _ _ _ aF .nil)) ?_
 rintro v rfl
 exact h _ rfl
theorem S_RPow0_0 (a e:Nat) (ha:a<w256) (he:e<w256):ACall Pg dQ [.int .i64 0,numA a,numA e] [] (fun v _=>v=numA (a ^ e % pP)/\Flat true v):=by
 refine xJ ⟨rfl,?_⟩
 conv=>whnf
 refine S_ok_0 ?_
 conv=>whnf
 refine bE aI (I:=fun q l m=>∃ (v:Int) (b:Nat),l= [(0,.int .i64 0),(4,.ptr 0 0 0),(5,.ptr 1 0 0),(6,.ptr 2 0 0),(7,.ptr 3 0 0),(8,.int .i64 v)] /\ m= [some ⟨1,4,lstG 1 (numL a)⟩,some ⟨1,4,lstG 1 (numL e)⟩,some ⟨1,4,lstG 1 (u4 0 0 0 0)⟩,some ⟨1,4,lstG 1 (numL b)⟩] /\
  v=(q:Int) - 1/\q<=256/\b=a ^ (e / 2 ^ q) % pP) 256
  (l0:= [(0,.int .i64 0),(4,.ptr 0 0 0),(5,.ptr 1 0 0),(6,.ptr 2 0 0),(7,.ptr 3 0 0),(8,.int .i64 255)]) (m0:= [some ⟨1,4,lstG 1 (numL a)⟩,some ⟨1,4,lstG 1 (numL e)⟩,some ⟨1,4,lstG 1 (u4 0 0 0 0)⟩,some ⟨1,4,lstG 1 (numL 1)⟩])
  [some 0,some 1,some 2,some 3] ⟨_,1,rfl,rfl,rfl,(Nat.le_refl _),by rw [Nat.div_eq_of_lt he,Nat.pow_zero,Nat.mod_eq_of_lt (by decide)]⟩ ?_ ?_
 · refine .mk0 ⟨Flat.i rfl,.ptr _ _ _ _ rfl,.ptr _ _ _ _ rfl,.ptr _ _ _ _ rfl,.ptr _ _ _ _ rfl,Flat.i rfl,trivial⟩ ⟨.old 0 0 _ _ rfl rfl ⟨rfl,Nat.le_refl _,fun i j hi hj=> .eq _ _ rfl aH⟩,.old 1 1 _ _ rfl rfl ⟨rfl,Nat.le_refl _,fun i j hi hj=> .eq _ _ rfl aH⟩,
    .old 2 2 _ _ rfl rfl ⟨rfl,Nat.le_refl _,fun i j hi hj=> ?_⟩,.old 3 3 _ _ rfl rfl ⟨rfl,Nat.le_refl _,fun i j hi hj=> ?_⟩,trivial⟩ rfl rfl
   · have hj:j<1:=hj
     have hi:i<4:=hi
     obtain rfl:j=0:=by omega
     have:i=0\/i=1\/i=2\/i=3:=by omega
     rcases this with rfl | rfl | rfl | rfl <;> exact .eq _ _ rfl (.int _ _)
   · have hj:j<1:=hj
     have hi:i<4:=hi
     obtain rfl:j=0:=by omega
     have:i=0\/i=1\/i=2\/i=3:=by omega
     rcases this with rfl | rfl | rfl | rfl <;> exact .eq _ _ rfl (.int _ _)
 · rintro q l m ⟨v,b,rfl,rfl,hv,hq,hb⟩
   have hp0:0<pP:=by decide
   have hb1:b<w256:=by rw [hb];exact Nat.lt_trans (Nat.mod_lt _ hp0) (by decide)
   conv=>whnf
   refine aA (fun hc=> ?_) (fun hc=> ?_)
   · have hc:v >= 0:=of_decide_eq_true hc
     obtain⟨t,rfl⟩ :∃ t,q=t+1:=⟨q - 1,by omega⟩
     obtain rfl:v=(t:Int):=by omega
     conv=>whnf
     refine sU hb1 hb1 (fun r hr=> ?_)
     conv=>whnf
     try (refine⟨⟨[],rfl⟩,?_⟩;conv=>whnf)
     have hr2:=pow_sq_mod hb hr
     have hr1:r<w256:=by rw [hr2];exact Nat.lt_trans (Nat.mod_lt _ hp0) (by decide)
     refine S_RBit (by omega) (fun c hcc=> ?_)
     conv=>whnf
     try (refine⟨⟨[],rfl⟩,?_⟩;conv=>whnf)
     have ee:=zA e t
     have e5:IntKind.i64.wrap ((t:Int) - 1)=(t:Int) - 1:=w64 (by omega) (by omega)
     rcases bit_lt (e / 2 ^ t)with hz | hz
     · obtain rfl:c=0:=by omega
       conv=>whnf
       refine⟨t,_,_,[some 0,some 1,some 2,some 3],Nat.lt_succ_self _,⟨(t:Int) - 1,r,rfl,rfl,rfl,by omega,by rw [hr2,ee,hz];rfl⟩,?_⟩
       refine .mk0 ⟨Flat.i rfl,.ptr _ _ _ _ rfl,.ptr _ _ _ _ rfl,.ptr _ _ _ _ rfl,.ptr _ _ _ _ rfl,Flat.i e5,trivial⟩ ⟨.old 0 0 _ _ rfl rfl ⟨rfl,Nat.le_refl _,fun i j hi hj=> .eq _ _ rfl aH⟩,.old 1 1 _ _ rfl rfl ⟨rfl,Nat.le_refl _,fun i j hi hj=> .eq _ _ rfl aH⟩,
        .old 2 2 _ _ rfl rfl ⟨rfl,Nat.le_refl _,fun i j hi hj=> .eq _ _ rfl mR⟩,.old 3 3 _ _ rfl rfl ⟨rfl,Nat.le_refl _,fun i j hi hj=> .eq _ _ rfl aH⟩,trivial⟩ rfl rfl
     · obtain rfl:c=1:=by omega
       conv=>whnf
       refine sU hr1 ha (fun s hs=> ?_)
       conv=>whnf
       try (refine⟨⟨[],rfl⟩,?_⟩;conv=>whnf)
       have hs2:=pow_one_mod hr2 hs
       refine⟨t,_,_,[some 0,some 1,some 2,some 3],Nat.lt_succ_self _,⟨(t:Int) - 1,s,rfl,rfl,rfl,by omega,by rw [hs2,ee,hz]⟩,?_⟩
       refine .mk0 ⟨Flat.i rfl,.ptr _ _ _ _ rfl,.ptr _ _ _ _ rfl,.ptr _ _ _ _ rfl,.ptr _ _ _ _ rfl,Flat.i e5,trivial⟩ ⟨.old 0 0 _ _ rfl rfl ⟨rfl,Nat.le_refl _,fun i j hi hj=> .eq _ _ rfl aH⟩,.old 1 1 _ _ rfl rfl ⟨rfl,Nat.le_refl _,fun i j hi hj=> .eq _ _ rfl aH⟩,
        .old 2 2 _ _ rfl rfl ⟨rfl,Nat.le_refl _,fun i j hi hj=> .eq _ _ rfl mR⟩,.old 3 3 _ _ rfl rfl ⟨rfl,Nat.le_refl _,fun i j hi hj=> .eq _ _ rfl aH⟩,trivial⟩ rfl rfl
   · have hc:¬ v >= 0:=of_decide_eq_false hc
     obtain rfl:q=0:=by omega
     conv=>whnf
     rw [Nat.pow_zero,Nat.div_one]at hb
     rw [<- hb]
     exact⟨rfl,aJ⟩
theorem S_RPow_0 {m:Mem} {K:AV->Mem->Prop} {a e:Nat} (ha:a<w256) (he:e<w256) (h:∀ r,r=a ^ e % pP->K (numA r) m):ACall Pg dQ [.int .i64 0,numA a,numA e] m K:=by
 refine aC (S_RPow0_0 a e ha he) (.cons _ _ _ _ aQ (.cons _ _ _ _ aF (.cons _ _ _ _ aF .nil))) ?_
 rintro v rfl
 exact h _ rfl
theorem S_RInv_0 {m:Mem} {K:AV->Mem->Prop} {a:Nat} (ha:a<w256) (h:∀ r,r=a ^ (pP - 2) % pP->K (numA r) m):ACall Pg fI [.int .i64 0,numA a] m K:=by
 have h0:ACall Pg fI [.int .i64 0,numA a] [] (fun v _=>v=numA (a ^ (pP - 2) % pP)/\Flat true v):=by
  refine xL ⟨rfl,?_⟩
  conv=>whnf
  refine jF (fun n hn=> ?_)
  conv=>whnf
  refine S_RSubk (b:=2) (by rw [hn];decide) (by decide) (by rw [hn];decide) (fun s c hs=> ?_)
  conv=>whnf
  refine S_RPow_0 ha (by rw [hs,hn];decide) (fun r hr=> ?_)
  conv=>whnf
  rw [hs,hn]at hr
  rw [<- hr]
  exact⟨rfl,aJ⟩
 refine aC h0 (.cons _ _ _ _ aQ (.cons _ _ _ _ aF .nil)) ?_
 rintro v rfl
 exact h _ rfl
end Go.Proofs.YtfolpdmbpbbimaaGreat
end

section
namespace Go.Proofs.YtfolpdmbpbbimaaGreat
open Go Go.Wit
theorem S_finv {m:Mem} {K:AV->Mem->Prop} {z:Fp} (h:∀ i:Fp,i=fpow z (pP - 2)->K (numA i.val) m):ACall Pg kL [.int .i64 0,numA z.val] m K:=by
 refine S_Inv_0 (fp_w z) (fun r hr=> ?_)
 obtain rfl:r=(fpow z (pP - 2)).val:=hr
 exact h _ rfl
theorem point_xy {a:J} {x y:Fp} (h:JRel a (.aff x y)) {i ii X t Y:Fp} (hi:i=fpow a.z (pP - 2)) (hii:ii=i*i) (hX:X=a.x*ii) (ht:t=ii*i) (hY:Y=a.y*t):X=x/\Y=y:=by
 obtain⟨hz,hx,hy⟩:=h
 have h1:=fpow_inv hz
 rw [<- hi]at h1
 subst hii ht hX hY
 rw [hx,hy]
 generalize a.z=z at*
 clear hx hy hi hz
 constructor <;> grind
theorem S_point0 (a:J) (P:Pt Fp) (hr:JRel a P):ACall Pg eM [jA a] [] (fun v _=>v=ptA P/\Flat true v):=by
  refine vO ⟨rfl,?_⟩
  conv=>whnf
  refine rE (fp_w a.z) (fun n1=> ?_) (fun n1=> ?_)
  · conv=>whnf
    rw [JRel.inf (cY.1 n1) hr]
    show rawA true 0 0=_/\Flat true (rawA true 0 0)
    exact⟨rfl,gR⟩
  have n1:a.z ≠ 0:=fun h=>n1 (cY.2 h)
  conv=>whnf
  refine S_finv (z:=a.z) (fun i hi=> ?_)
  conv=>whnf
  refine dK (fun ii hii=> ?_)
  conv=>whnf
  refine dK (fun X hX=> ?_)
  conv=>whnf
  try (refine⟨⟨[],rfl⟩,?_⟩;conv=>whnf)
  refine dK (fun t ht=> ?_)
  conv=>whnf
  try (refine⟨⟨[],rfl⟩,?_⟩;conv=>whnf)
  refine dK (fun Y hY=> ?_)
  conv=>whnf
  try (refine⟨⟨[],rfl⟩,?_⟩;conv=>whnf)
  show rawA false X.val Y.val=_/\Flat true (rawA false X.val Y.val)
  refine⟨?_,gR⟩
  cases P with
  | inf=>exact absurd hr n1
  | aff x y =>
    obtain⟨rfl,rfl⟩:=point_xy hr hi hii hX ht hY
    rfl
theorem S_point {m:Mem} {K:AV->Mem->Prop} {a:J} {P:Pt Fp} (hr:JRel a P) (h:K (ptA P) m):ACall Pg eM [jA a] m K:=by
 refine aC (S_point0 a P hr) (.cons _ _ _ _ (aK cR) .nil) ?_
 rintro v rfl
 exact h
theorem pG {nv:Bool} {a:J} {i:Nat}:Flat nv ((jL a).getD i .un):=by
 unfold jL
 match i with
 | 0=>exact .int _ _
 | 1=>exact .int _ _
 | 2=>exact .int _ _
 | 3=>exact .int _ _
 | 4=>exact .int _ _
 | 5=>exact .int _ _
 | 6=>exact .int _ _
 | 7=>exact .int _ _
 | 8=>exact .int _ _
 | 9=>exact .int _ _
 | 10=>exact .int _ _
 | 11=>exact .int _ _
 | i+12=>simp;exact .un
def z12:List AV:= [.int .u64 0,.int .u64 0,.int .u64 0,.int .u64 0,.int .u64 0,.int .u64 0,.int .u64 0,.int .u64 0,.int .u64 0,.int .u64 0,.int .u64 0,.int .u64 0]
theorem zD {nv:Bool} {i:Nat}:Flat nv (z12.getD i .un):=by
 unfold z12
 match i with
 | 0=>exact .int _ _
 | 1=>exact .int _ _
 | 2=>exact .int _ _
 | 3=>exact .int _ _
 | 4=>exact .int _ _
 | 5=>exact .int _ _
 | 6=>exact .int _ _
 | 7=>exact .int _ _
 | 8=>exact .int _ _
 | 9=>exact .int _ _
 | 10=>exact .int _ _
 | 11=>exact .int _ _
 | i+12=>simp;exact .un
theorem nmul_half {P:Pt Fp} (hP:On P) (e t:Nat) {r:J} (h:JRel r (nmul (e / 2 ^ (t+1)) P)) {s:J} (hs:s=jdbl r):JRel s (nmul (2*(e / 2 ^ (t+1))) P):=by
 rw [hs,Nat.two_mul,iO crvP hP]
 exact yZ (hP.nmul crvP _) h
theorem nmul_next {P:Pt Fp} (hP:On P) {E:Nat} {r a:J} (h:JRel r (nmul E P)) (ha:JRel a P) {s:J} (hs:s=jadd r a):JRel s (nmul (E+1) P):=by
 rw [hs]
 exact jadd_rel (hP.nmul crvP _) hP h ha
theorem S_times0 (a:J) (P:Pt Fp) (n:Nat) (hn:n<w256) (oP:On P) (hr:JRel a P):ACall Pg eL [jA a,numA n] [] (fun v _=>(∃ r,JRel r (nmul n P)/\v=jA r)/\Flat true v):=by
 refine vN ⟨rfl,?_⟩
 conv=>whnf
 refine S_LLen hn (fun k k1 k2=> ?_)
 conv=>whnf
 have e10:IntKind.i64.wrap ((k:Int) - 1)=(k:Int) - 1:=w64 (by omega) (by omega)
 refine bE aI (I:=fun q l m=>∃ (v:Int) (b:J),l= [(2,.ptr 0 0 0),(3,.ptr 1 0 0),(4,.ptr 2 0 0),(5,.ptr 3 0 0),(6,.int .i64 v)] /\ m= [some ⟨12,1,lstG 12 (jL a)⟩,some ⟨1,4,lstG 1 (numL n)⟩,some ⟨12,1,lstG 12 z12⟩,some ⟨12,1,lstG 12 (jL b)⟩] /\
  v=(q:Int) - 1/\q<=256/\JRel b (nmul (n / 2 ^ q) P)) k
  (l0:= [(2,.ptr 0 0 0),(3,.ptr 1 0 0),(4,.ptr 2 0 0),(5,.ptr 3 0 0),(6,.int .i64 ((k:Int) - 1))]) (m0:= [some ⟨12,1,lstG 12 (jL a)⟩,some ⟨1,4,lstG 1 (numL n)⟩,some ⟨12,1,lstG 12 z12⟩,some ⟨12,1,lstG 12 (jL ⟨1,1,0⟩)⟩])
  [some 0,some 1,some 2,some 3] ⟨_,⟨1,1,0⟩,rfl,rfl,rfl,k1,by rw [Nat.div_eq_of_lt k2];rfl⟩ ?_ ?_
 · refine .mk0 ⟨.ptr _ _ _ _ rfl,.ptr _ _ _ _ rfl,.ptr _ _ _ _ rfl,.ptr _ _ _ _ rfl,Flat.i e10,trivial⟩ ⟨.old 0 0 _ _ rfl rfl ⟨rfl,Nat.le_refl _,fun i j hi hj=> .eq _ _ rfl pG⟩,.old 1 1 _ _ rfl rfl ⟨rfl,Nat.le_refl _,fun i j hi hj=> .eq _ _ rfl aH⟩,
    .old 2 2 _ _ rfl rfl ⟨rfl,Nat.le_refl _,fun i j hi hj=> ?_⟩,.old 3 3 _ _ rfl rfl ⟨rfl,Nat.le_refl _,fun i j hi hj=> ?_⟩,trivial⟩ rfl rfl
   · have hj:j<12:=hj
     have hi:i<1:=hi
     obtain rfl:i=0:=by omega
     have:j=0\/j=1\/j=2\/j=3\/j=4\/j=5\/j=6\/j=7\/j=8\/j=9\/j=10\/j=11:=by omega
     rcases this with rfl | rfl | rfl | rfl | rfl | rfl | rfl | rfl | rfl | rfl | rfl | rfl <;> exact .eq _ _ rfl (.int _ _)
   · have hj:j<12:=hj
     have hi:i<1:=hi
     obtain rfl:i=0:=by omega
     have:j=0\/j=1\/j=2\/j=3\/j=4\/j=5\/j=6\/j=7\/j=8\/j=9\/j=10\/j=11:=by omega
     rcases this with rfl | rfl | rfl | rfl | rfl | rfl | rfl | rfl | rfl | rfl | rfl | rfl <;> exact .eq _ _ rfl (.int _ _)
 · rintro q l m ⟨v,b,rfl,rfl,hv,hq,hb⟩
   conv=>whnf
   refine aA (fun hc=> ?_) (fun hc=> ?_)
   · have hc:v >= 0:=of_decide_eq_true hc
     obtain⟨t,rfl⟩ :∃ t,q=t+1:=⟨q - 1,by omega⟩
     obtain rfl:v=(t:Int):=by omega
     conv=>whnf
     refine S_twice (a:=b) (fun r hr0=> ?_)
     conv=>whnf
     try (refine⟨⟨[],rfl⟩,?_⟩;conv=>whnf)
     have hr2:=nmul_half oP n t hb hr0
     refine S_LBit (by omega) (fun c hcc=> ?_)
     conv=>whnf
     try (refine⟨⟨[],rfl⟩,?_⟩;conv=>whnf)
     have ee:=zA n t
     have e5:IntKind.i64.wrap ((t:Int) - 1)=(t:Int) - 1:=w64 (by omega) (by omega)
     rcases bit_lt (n / 2 ^ t)with hz | hz
     · obtain rfl:c=0:=by omega
       conv=>whnf
       refine⟨t,_,_,[some 0,some 1,some 2,some 3],Nat.lt_succ_self _,⟨(t:Int) - 1,r,rfl,rfl,rfl,by omega,by rw [ee,hz];exact hr2⟩,?_⟩
       refine .mk0 ⟨.ptr _ _ _ _ rfl,.ptr _ _ _ _ rfl,.ptr _ _ _ _ rfl,.ptr _ _ _ _ rfl,Flat.i e5,trivial⟩ ⟨.old 0 0 _ _ rfl rfl ⟨rfl,Nat.le_refl _,fun i j hi hj=> .eq _ _ rfl pG⟩,.old 1 1 _ _ rfl rfl ⟨rfl,Nat.le_refl _,fun i j hi hj=> .eq _ _ rfl aH⟩,
        .old 2 2 _ _ rfl rfl ⟨rfl,Nat.le_refl _,fun i j hi hj=> .eq _ _ rfl zD⟩,.old 3 3 _ _ rfl rfl ⟨rfl,Nat.le_refl _,fun i j hi hj=> .eq _ _ rfl pG⟩,trivial⟩ rfl rfl
     · obtain rfl:c=1:=by omega
       conv=>whnf
       refine S_plus (a:=r) (b:=a) (fun s hs0=> ?_)
       conv=>whnf
       try (refine⟨⟨[],rfl⟩,?_⟩;conv=>whnf)
       have hs2:=nmul_next oP hr2 hr hs0
       refine⟨t,_,_,[some 0,some 1,some 2,some 3],Nat.lt_succ_self _,⟨(t:Int) - 1,s,rfl,rfl,rfl,by omega,by rw [ee,hz];exact hs2⟩,?_⟩
       refine .mk0 ⟨.ptr _ _ _ _ rfl,.ptr _ _ _ _ rfl,.ptr _ _ _ _ rfl,.ptr _ _ _ _ rfl,Flat.i e5,trivial⟩ ⟨.old 0 0 _ _ rfl rfl ⟨rfl,Nat.le_refl _,fun i j hi hj=> .eq _ _ rfl pG⟩,.old 1 1 _ _ rfl rfl ⟨rfl,Nat.le_refl _,fun i j hi hj=> .eq _ _ rfl aH⟩,
        .old 2 2 _ _ rfl rfl ⟨rfl,Nat.le_refl _,fun i j hi hj=> .eq _ _ rfl zD⟩,.old 3 3 _ _ rfl rfl ⟨rfl,Nat.le_refl _,fun i j hi hj=> .eq _ _ rfl pG⟩,trivial⟩ rfl rfl
   · have hc:¬ v >= 0:=of_decide_eq_false hc
     obtain rfl:q=0:=by omega
     conv=>whnf
     rw [Nat.pow_zero,Nat.div_one]at hb
     exact⟨⟨b,hb,rfl⟩,cR⟩
theorem S_times {m:Mem} {K:AV->Mem->Prop} {a:J} {P:Pt Fp} {n:Nat} (hn:n<w256) (oP:On P) (hr:JRel a P) (h:∀ r,JRel r (nmul n P)->K (jA r) m):ACall Pg eL [jA a,numA n] m K:=by
 refine aC (S_times0 a P n hn oP hr) (.cons _ _ _ _ (aK cR) (.cons _ _ _ _ aF .nil)) ?_
 rintro v ⟨r,h1,rfl⟩
 exact h r h1
end Go.Proofs.YtfolpdmbpbbimaaGreat
end

section
namespace Go.Proofs.YtfolpdmbpbbimaaGreat
open Go Go.Wit
def Bad (i:Bool) (x y:Nat):Prop:= ∀ P,On P->rawA i x y ≠ ptA P
theorem S_right {m:Mem} {K:AV->Mem->Prop} {x:Fp} (h:∀ r:Fp,r=x*x*x+7->K (numA r.val) m):ACall Pg iV [numA x.val] m K:=by
 have h0:ACall Pg iV [numA x.val] [] (fun v _=>v=numA (x*x*x+7).val/\Flat true v):=by
  refine B_curve_right ⟨rfl,?_⟩
  conv=>whnf
  refine dK (fun a ha=> ?_)
  conv=>whnf
  repeat (refine⟨⟨[],rfl⟩,?_⟩;conv=>whnf)
  refine dK (fun b hb=> ?_)
  conv=>whnf
  repeat (refine⟨⟨[],rfl⟩,?_⟩;conv=>whnf)
  refine mE (y:=7) (fun c hc=> ?_)
  conv=>whnf
  repeat (refine⟨⟨[],rfl⟩,?_⟩;conv=>whnf)
  subst ha hb
  rw [<- hc]
  exact⟨rfl,aJ⟩
 refine aC h0 (.cons _ _ _ _ aF .nil) ?_
 rintro v rfl
 exact h _ rfl
def eqP (x y:Nat):Bool:=(true == true) && (lim x 0 == 0 && (lim x 1 == 0 && (lim x 2 == 0 && (lim x 3 == 0 && (lim y 0 == 0 && (lim y 1 == 0 && (lim y 2 == 0 && (lim y 3 == 0 && true))))))))
theorem eqP_iff {x y:Nat} (hx:x<w256) (hy:y<w256):eqP x y=decide (x=0/\y=0):=by
 have h1:=uS hx
 have h2:=uS hy
 have e:eqP x y=(eqZ x && eqZ y):=by
  unfold eqP eqZ
  simp [Bool.and_assoc]
 rw [e,h1,h2]
 simp
theorem c_inf {x y:Nat} {p q:Prop} (hx:x<w256) (hy:y<w256) (h1:x=0->y=0->q) (h2:¬ (x=0/\y=0)->p):cH (bif true then !(eqP x y)else eqP x y) p q:=by
 rw [eqP_iff hx hy]
 by_cases h:x=0/\y=0
 · rw [decide_eq_true h];exact h1 h.1 h.2
 · rw [decide_eq_false h];exact h2 h
theorem rD {a b:Nat} {r:Int} (hr:r=cmpZ a b):(a<b/\r= -1)\/(b<=a/\(r=0\/r=1)):=by
 unfold cmpZ at hr
 split at hr
 · exact .inl ⟨by assumption,hr⟩
 · split at hr
   · exact .inr ⟨by omega,.inr hr⟩
   · exact .inr ⟨by omega,.inl hr⟩
theorem S_Check0 (i:Bool) (x y:Nat) (hx:x<w256) (hy:y<w256):ACall Pg cP [rawA i x y] [] (fun v _=>((∃ P,On P/\rawA i x y=ptA P/\v= .int .i64 0)\/(Bad i x y/\v= .int .i64 3))/\Flat true v):=by
  refine B_curve_Check ⟨rfl,?_⟩
  cases i with
  | true =>
    conv=>whnf
    refine c_inf hx hy (fun h1 h2=> ?_) (fun h=> ?_)
    · conv=>whnf
      subst h1 h2
      exact⟨.inl ⟨.inf,trivial,rfl,rfl⟩,.int _ _⟩
    · conv=>whnf
      refine⟨.inr ⟨fun P oP e=> ?_,rfl⟩,.int _ _⟩
      obtain⟨e1,e2,e3⟩:=rawA_inj hx hy (xN_w P) (yN_w P) e
      cases P with
      | inf=>exact h ⟨e2,e3⟩
      | aff u v=>cases e1
  | false =>
    have bad:∀ {P},On P->rawA false x y=ptA P->x<pP/\y<pP:=fun {P} oP e=>by
      obtain⟨e1,e2,e3⟩:=rawA_inj hx hy (xN_w P) (yN_w P) e
      exact⟨e2 ▸ xN_lt P,e3 ▸ yN_lt P⟩
    conv=>whnf
    refine pQ (fun p hp=> ?_)
    conv=>whnf
    refine S_LCmp hx (by rw [hp];decide) (fun r hr=> ?_)
    conv=>whnf
    repeat (refine⟨⟨[],rfl⟩,?_⟩;conv=>whnf)
    rcases rD hr with⟨h1,rfl⟩ | ⟨h1,rfl | rfl⟩
    rotate_left
    · conv=>whnf
      repeat (refine⟨⟨[],rfl⟩,?_⟩;conv=>whnf)
      exact⟨.inr ⟨fun P oP e=>by have:=(bad oP e).1;omega,rfl⟩,.int _ _⟩
    · conv=>whnf
      repeat (refine⟨⟨[],rfl⟩,?_⟩;conv=>whnf)
      exact⟨.inr ⟨fun P oP e=>by have:=(bad oP e).1;omega,rfl⟩,.int _ _⟩
    conv=>whnf
    refine S_LCmp hy (by rw [hp];decide) (fun r hr=> ?_)
    conv=>whnf
    repeat (refine⟨⟨[],rfl⟩,?_⟩;conv=>whnf)
    rcases rD hr with⟨h2,rfl⟩ | ⟨h2,rfl | rfl⟩
    rotate_left
    · conv=>whnf
      repeat (refine⟨⟨[],rfl⟩,?_⟩;conv=>whnf)
      exact⟨.inr ⟨fun P oP e=>by have:=(bad oP e).2;omega,rfl⟩,.int _ _⟩
    · conv=>whnf
      repeat (refine⟨⟨[],rfl⟩,?_⟩;conv=>whnf)
      exact⟨.inr ⟨fun P oP e=>by have:=(bad oP e).2;omega,rfl⟩,.int _ _⟩
    conv=>whnf
    obtain⟨X,rfl⟩ :∃ X:Fp,x=X.val:=⟨⟨x,by omega⟩,rfl⟩
    obtain⟨Y,rfl⟩ :∃ Y:Fp,y=Y.val:=⟨⟨y,by omega⟩,rfl⟩
    refine dK (x:=Y) (y:=Y) (fun yy hyy=> ?_)
    conv=>whnf
    repeat (refine⟨⟨[],rfl⟩,?_⟩;conv=>whnf)
    refine S_right (x:=X) (fun rr hrr=> ?_)
    conv=>whnf
    repeat (refine⟨⟨[],rfl⟩,?_⟩;conv=>whnf)
    refine c_ne (a:=yy.val) (b:=rr.val) (fp_w yy) (fp_w rr) (fun e=> ?_) (fun e=> ?_)
    · conv=>whnf
      refine⟨.inr ⟨fun P oP e2=> ?_,rfl⟩,.int _ _⟩
      obtain⟨e3,e4,e5⟩:=rawA_inj hx hy (xN_w P) (yN_w P) e2
      cases P with
      | inf=>cases e3
      | aff u v =>
        obtain rfl:X=u:=Fin.ext e4
        obtain rfl:Y=v:=Fin.ext e5
        exact e (congrArg Fin.val ((hyy.trans oP).trans hrr.symm))
    · conv=>whnf
      have e:yy=rr:=Fin.ext e
      exact⟨.inl ⟨.aff X Y,by show Y*Y=X*X*X+7;rw [<- hyy,<- hrr,e],rfl,rfl⟩,.int _ _⟩
theorem S_Check {m:Mem} {K:AV->Mem->Prop} {i:Bool} {x y:Nat} (hx:x<w256) (hy:y<w256) (h1:∀ P,On P->rawA i x y=ptA P->K (.int .i64 0) m) (h2:Bad i x y->K (.int .i64 3) m):ACall Pg cP [rawA i x y] m K:=by
 refine aC (S_Check0 i x y hx hy) (.cons _ _ _ _ (aK gR) .nil) ?_
 rintro v (⟨P,oP,e,rfl⟩ | ⟨hb,rfl⟩)
 · exact h1 P oP e
 · exact h2 hb
theorem qH {m:Mem} {K:AV->Mem->Prop} {P:Pt Fp} (oP:On P) (h:K (.int .i64 0) m):ACall Pg cP [ptA P] m K:=
 S_Check (xN_w P) (yN_w P) (fun _ _ _=>h) (fun hb=>absurd rfl (hb P oP))
abbrev noPt:AV:=rawA false 0 0
theorem uQ (nv:Bool):Flat nv (rawA false 0 0):=gR
theorem mM (y:Fp):0 - y= -y:=by grind
theorem S_Times0 (n:Nat) (P:Pt Fp) (hn:n<w256) (oP:On P):ACall Pg dY [numA n,ptA P] [] (fun v _=>v= .tup [ptA (nmul n P),.int .i64 0] /\ Flat true v):=by
 refine B_curve_Times ⟨rfl,?_⟩
 conv=>whnf
 refine qH oP ?_
 conv=>whnf
 refine S_spread (P:=P) (fun p hp=> ?_)
 conv=>whnf
 repeat (refine⟨⟨[],rfl⟩,?_⟩;conv=>whnf)
 subst hp
 refine S_times (n:=n) hn oP (spr_rel P) (fun r hr=> ?_)
 conv=>whnf
 repeat (refine⟨⟨[],rfl⟩,?_⟩;conv=>whnf)
 refine S_point (a:=r) hr ?_
 conv=>whnf
 repeat (refine⟨⟨[],rfl⟩,?_⟩;conv=>whnf)
 exact⟨rfl,.tup _ (.cons _ _ cG (.cons _ _ (.int _ _) .nil))⟩
theorem S_Times {m:Mem} {K:AV->Mem->Prop} {n:Nat} {P:Pt Fp} (hn:n<w256) (oP:On P) (h:K (.tup [ptA (nmul n P),.int .i64 0]) m):ACall Pg dY [numA n,ptA P] m K:=by
 refine aC (S_Times0 n P hn oP) (.cons _ _ _ _ aF (.cons _ _ _ _ (aK cG) .nil)) ?_
 rintro v rfl
 exact h
theorem G_lim:ptA gG= .agg [.bool false,.int .u64 6481385041966929816,.int .u64 188021827762530521,.int .u64 6170039885052185351,.int .u64 8772561819708210092,.int .u64 11261198710074299576,.int .u64 18237243440184513561,.int .u64 6747795201694173352,.int .u64 5204712524664259685] :=by
 have hx:gX.val=comb 6481385041966929816 188021827762530521 6170039885052185351 8772561819708210092:=by decide
 have hy:gY.val=comb 11261198710074299576 18237243440184513561 6747795201694173352 5204712524664259685:=by decide
 show rawA false gX.val gY.val=_
 obtain⟨a0,a1,a2,a3⟩:=mQ (a:=6481385041966929816) (b:=188021827762530521) (c:=6170039885052185351) (d:=8772561819708210092) (by decide) (by decide) (by decide) (by decide)
 obtain⟨b0,b1,b2,b3⟩:=mQ (a:=11261198710074299576) (b:=18237243440184513561) (c:=6747795201694173352) (d:=5204712524664259685) (by decide) (by decide) (by decide) (by decide)
 rw [hx,hy,rawA,rawL,a0,a1,a2,a3,b0,b1,b2,b3]
 rfl
theorem S_base {m:Mem} {K:AV->Mem->Prop} (h:K (ptA gG) m):ACall Pg lD [] m K:=by
 have h0:ACall Pg lD [] [] (fun v _=>v=ptA gG/\Flat true v):=by
  refine B_curve_base ⟨rfl,?_⟩
  conv=>whnf
  rw [G_lim]
  exact⟨rfl,G_lim ▸ cG⟩
 refine aC h0 .nil ?_
 rintro v rfl
 exact h
theorem S_Base0 (n:Nat) (hn:n<w256):ACall Pg fZ [numA n] [] (fun v _=>v=ptA (nmul n gG)/\Flat true v):=by
 refine B_curve_Base ⟨rfl,?_⟩
 conv=>whnf
 refine S_base ?_
 generalize hG:gG=G
 have oG:On G:=hG ▸ on_G
 conv=>whnf
 repeat (refine⟨⟨[],rfl⟩,?_⟩;conv=>whnf)
 refine S_spread (P:=G) (fun p hp=> ?_)
 conv=>whnf
 repeat (refine⟨⟨[],rfl⟩,?_⟩;conv=>whnf)
 subst hp
 refine S_times (n:=n) hn oG (spr_rel G) (fun r hr=> ?_)
 conv=>whnf
 repeat (refine⟨⟨[],rfl⟩,?_⟩;conv=>whnf)
 refine S_point (a:=r) hr ?_
 conv=>whnf
 repeat (refine⟨⟨[],rfl⟩,?_⟩;conv=>whnf)
 exact⟨rfl,cG⟩
theorem S_Base {m:Mem} {K:AV->Mem->Prop} {n:Nat} (hn:n<w256) (h:K (ptA (nmul n gG)) m):ACall Pg fZ [numA n] m K:=by
 refine aC (S_Base0 n hn) (.cons _ _ _ _ aF .nil) ?_
 rintro v rfl
 exact h
end Go.Proofs.YtfolpdmbpbbimaaGreat
end

section
namespace Go.Proofs.YtfolpdmbpbbimaaGreat
open Go Go.Wit
theorem mD {m:Mem} {K:AV->Mem->Prop} {x y:Fp} (h:∀ z:Fp,z=x+y->K (numA z.val) m):ACall Pg aW [numA x.val,numA y.val] m K:=by
 have h0:ACall Pg aW [numA x.val,numA y.val] [] (fun v _=>v=numA (x+y).val/\Flat true v):=by
  refine xH ⟨rfl,?_⟩
  conv=>whnf
  refine S_RFAdd_0 (fp_w x) (fp_w y) (fun r hr=> ?_)
  conv=>whnf
  rw [fp_add,<- hr]
  exact⟨rfl,aJ⟩
 refine aC h0 (.cons _ _ _ _ aF (.cons _ _ _ _ aF .nil)) ?_
 rintro v rfl
 exact h _ rfl
theorem dB {m:Mem} {K:AV->Mem->Prop} {x y:Fp} (h:∀ z:Fp,z=x*y->K (numA z.val) m):ACall Pg aG [numA x.val,numA y.val] m K:=by
 have h0:ACall Pg aG [numA x.val,numA y.val] [] (fun v _=>v=numA (x*y).val/\Flat true v):=by
  refine xG ⟨rfl,?_⟩
  conv=>whnf
  refine sU (fp_w x) (fp_w y) (fun r hr=> ?_)
  conv=>whnf
  rw [wQ,<- hr]
  exact⟨rfl,aJ⟩
 refine aC h0 (.cons _ _ _ _ aF (.cons _ _ _ _ aF .nil)) ?_
 rintro v rfl
 exact h _ rfl
theorem nF {m:Mem} {K:AV->Mem->Prop} {x y:Fp} (h:∀ z:Fp,z=x - y->K (numA z.val) m):ACall Pg aV [numA x.val,numA y.val] m K:=by
 have h0:ACall Pg aV [numA x.val,numA y.val] [] (fun v _=>v=numA (x - y).val/\Flat true v):=by
  refine xE ⟨rfl,?_⟩
  conv=>whnf
  refine S_RFSub_0 (fp_w x) (fp_w y) (fun r hr=> ?_)
  conv=>whnf
  rw [Nat.mod_eq_of_lt y.isLt,Nat.add_comm]at hr
  rw [fp_sub,<- hr]
  exact⟨rfl,aJ⟩
 refine aC h0 (.cons _ _ _ _ aF (.cons _ _ _ _ aF .nil)) ?_
 rintro v rfl
 exact h _ rfl
theorem S_rInf {m:Mem} {K:AV->Mem->Prop} (h:K (ptA .inf) m):ACall Pg cD [] m K:=by
 have h0:ACall Pg cD [] [] (fun v _=>v=ptA .inf/\Flat true v):=by
  refine xM ⟨rfl,?_⟩
  conv=>whnf
  show rawA true 0 0=_/\Flat true (rawA true 0 0)
  exact⟨rfl,gR⟩
 refine aC h0 .nil ?_
 rintro v rfl
 exact h
theorem S_up0 (P:Pt Fp):ACall Pg dE [ptA P] [] (fun v _=>v=jA (spr P)/\Flat true v):=by
  cases P with
  | inf =>
    refine pU ⟨rfl,?_⟩
    conv=>whnf
    show jA ⟨1,1,0⟩=_/\Flat true (jA ⟨1,1,0⟩)
    exact⟨rfl,cR⟩
  | aff x y =>
    refine pU ⟨rfl,?_⟩
    conv=>whnf
    have e:jA (spr (.aff x y))=AV.agg [.int .u64 (lim x.val 0),.int .u64 (lim x.val 1),.int .u64 (lim x.val 2),.int .u64 (lim x.val 3),.int .u64 (lim y.val 0),.int .u64 (lim y.val 1),.int .u64 (lim y.val 2),.int .u64 (lim y.val 3),.int .u64 1,.int .u64 0,.int .u64 0,.int .u64 0] :=by
      obtain⟨h0,h1,h2,h3⟩:=lim1
      simp only [jA,jL,spr,h0,h1,h2,h3]
    exact⟨by rw [e];rfl,.agg _ (by repeat (first | exact .nil | refine .cons _ _ (.int _ _) ?_))⟩
theorem S_up {m:Mem} {K:AV->Mem->Prop} {P:Pt Fp} (h:∀ r,r=spr P->K (jA r) m):ACall Pg dE [ptA P] m K:=by
 refine aC (S_up0 P) (.cons _ _ _ _ (aK cG) .nil) ?_
 rintro v rfl
 exact h _ rfl
theorem S_rfinv {m:Mem} {K:AV->Mem->Prop} {z:Fp} (h:∀ i:Fp,i=fpow z (pP - 2)->K (numA i.val) m):ACall Pg fI [.int .i64 0,numA z.val] m K:=by
 refine S_RInv_0 (fp_w z) (fun r hr=> ?_)
 obtain rfl:r=(fpow z (pP - 2)).val:=hr
 exact h _ rfl
theorem S_down0 (a:J) (P:Pt Fp) (hr:JRel a P):ACall Pg gE [jA a] [] (fun v _=>v=ptA P/\Flat true v):=by
  refine vE ⟨rfl,?_⟩
  conv=>whnf
  refine rE (fp_w a.z) (fun n1=> ?_) (fun n1=> ?_)
  · conv=>whnf
    refine S_rInf ?_
    conv=>whnf
    rw [JRel.inf (cY.1 n1) hr]
    exact⟨rfl,cG⟩
  have n1:a.z ≠ 0:=fun h=>n1 (cY.2 h)
  conv=>whnf
  refine S_rfinv (z:=a.z) (fun i hi=> ?_)
  conv=>whnf
  refine dB (fun ii hii=> ?_)
  conv=>whnf
  refine dB (fun X hX=> ?_)
  conv=>whnf
  repeat (refine⟨⟨[],rfl⟩,?_⟩;conv=>whnf)
  refine dB (fun t ht=> ?_)
  conv=>whnf
  repeat (refine⟨⟨[],rfl⟩,?_⟩;conv=>whnf)
  refine dB (fun Y hY=> ?_)
  conv=>whnf
  repeat (refine⟨⟨[],rfl⟩,?_⟩;conv=>whnf)
  show rawA false X.val Y.val=_/\Flat true (rawA false X.val Y.val)
  refine⟨?_,gR⟩
  cases P with
  | inf=>exact absurd hr n1
  | aff x y =>
    obtain⟨rfl,rfl⟩:=point_xy hr hi hii hX ht hY
    rfl
theorem S_down {m:Mem} {K:AV->Mem->Prop} {a:J} {P:Pt Fp} (hr:JRel a P) (h:K (ptA P) m):ACall Pg gE [jA a] m K:=by
 refine aC (S_down0 a P hr) (.cons _ _ _ _ (aK cR) .nil) ?_
 rintro v rfl
 exact h
theorem c_eqz_f {a:Nat} {p q:Prop} (ha:a<w256) (hp:a=0->p) (hq:a ≠ 0->q):cH ((bif false then !(eqZ a)else eqZ a) == false) q p:=by
 rw [uS ha]
 by_cases h:a=0
 · rw [decide_eq_true h];exact hp h
 · rw [decide_eq_false h];exact hq h
theorem jrel_ne {a:J} {P:Pt Fp} (oP:On P) (hr:JRel a P) (hz:a.z ≠ 0):a.y ≠ 0:=by
  cases P with
  | inf=>exact absurd hr hz
  | aff x y =>
    obtain⟨h1,h2,h3⟩:=hr
    rw [h3]
    exact crvP.mul_ne (On.y_ne crvP oP) (crvP.mul_ne h1 (crvP.mul_ne h1 h1))
theorem S_rtwice0 (a:J) (P:Pt Fp) (oP:On P) (hr:JRel a P):ACall Pg dW [jA a] [] (fun v _=>(∃ r,JRel r (padd P P)/\v=jA r)/\Flat true v):=by
 refine tF ⟨rfl,?_⟩
 conv=>whnf
 refine c_eqz_f (fp_w a.z) (fun n1=> ?_) (fun n1=> ?_)
 · conv=>whnf
   refine S_rInf ?_
   conv=>whnf
   refine S_up (P:= .inf) (fun q hq=> ?_)
   conv=>whnf
   refine⟨⟨q,?_,rfl⟩,cR⟩
   rw [JRel.inf (cY.1 n1) hr,hq]
   exact spr_rel .inf
 have n1:a.z ≠ 0:=fun h=>n1 (cY.2 h)
 have n2:=jrel_ne oP hr n1
 conv=>whnf
 refine rE (fp_w a.y) (fun n3=>absurd (cY.1 n3) n2) (fun n3=> ?_)
 conv=>whnf
 refine dB (fun aa e_aa=> ?_)
 conv=>whnf
 repeat (refine⟨⟨[],rfl⟩,?_⟩;conv=>whnf)
 refine dB (fun b e_b=> ?_)
 conv=>whnf
 repeat (refine⟨⟨[],rfl⟩,?_⟩;conv=>whnf)
 refine dB (fun c0 e_c0=> ?_)
 conv=>whnf
 repeat (refine⟨⟨[],rfl⟩,?_⟩;conv=>whnf)
 refine mD (fun d1 e_d1=> ?_)
 conv=>whnf
 repeat (refine⟨⟨[],rfl⟩,?_⟩;conv=>whnf)
 refine mD (fun d2 e_d2=> ?_)
 conv=>whnf
 repeat (refine⟨⟨[],rfl⟩,?_⟩;conv=>whnf)
 refine dB (fun d3 e_d3=> ?_)
 conv=>whnf
 repeat (refine⟨⟨[],rfl⟩,?_⟩;conv=>whnf)
 refine nF (fun d4 e_d4=> ?_)
 conv=>whnf
 repeat (refine⟨⟨[],rfl⟩,?_⟩;conv=>whnf)
 refine nF (fun d5 e_d5=> ?_)
 conv=>whnf
 repeat (refine⟨⟨[],rfl⟩,?_⟩;conv=>whnf)
 refine mD (fun d e_d=> ?_)
 conv=>whnf
 repeat (refine⟨⟨[],rfl⟩,?_⟩;conv=>whnf)
 refine mD (fun e1 e_e1=> ?_)
 conv=>whnf
 repeat (refine⟨⟨[],rfl⟩,?_⟩;conv=>whnf)
 refine mD (fun e e_e=> ?_)
 conv=>whnf
 repeat (refine⟨⟨[],rfl⟩,?_⟩;conv=>whnf)
 refine dB (fun x1 e_x1=> ?_)
 conv=>whnf
 repeat (refine⟨⟨[],rfl⟩,?_⟩;conv=>whnf)
 refine mD (fun x2 e_x2=> ?_)
 conv=>whnf
 repeat (refine⟨⟨[],rfl⟩,?_⟩;conv=>whnf)
 refine nF (fun x e_x=> ?_)
 conv=>whnf
 repeat (refine⟨⟨[],rfl⟩,?_⟩;conv=>whnf)
 refine mD (fun c1 e_c1=> ?_)
 conv=>whnf
 repeat (refine⟨⟨[],rfl⟩,?_⟩;conv=>whnf)
 refine mD (fun c2 e_c2=> ?_)
 conv=>whnf
 repeat (refine⟨⟨[],rfl⟩,?_⟩;conv=>whnf)
 refine mD (fun c3 e_c3=> ?_)
 conv=>whnf
 repeat (refine⟨⟨[],rfl⟩,?_⟩;conv=>whnf)
 refine nF (fun y1 e_y1=> ?_)
 conv=>whnf
 repeat (refine⟨⟨[],rfl⟩,?_⟩;conv=>whnf)
 refine dB (fun y2 e_y2=> ?_)
 conv=>whnf
 repeat (refine⟨⟨[],rfl⟩,?_⟩;conv=>whnf)
 refine nF (fun y e_y=> ?_)
 conv=>whnf
 repeat (refine⟨⟨[],rfl⟩,?_⟩;conv=>whnf)
 refine dB (fun z1 e_z1=> ?_)
 conv=>whnf
 repeat (refine⟨⟨[],rfl⟩,?_⟩;conv=>whnf)
 refine mD (fun z e_z=> ?_)
 conv=>whnf
 repeat (refine⟨⟨[],rfl⟩,?_⟩;conv=>whnf)
 show (∃ r,JRel r (padd P P)/\jA ⟨x,y,z⟩=jA r)/\Flat true (jA ⟨x,y,z⟩)
 refine⟨⟨⟨x,y,z⟩,?_,rfl⟩,cR⟩
 have ed:d=4*(a.x*(a.y*a.y)):=by subst e_d e_d5 e_d4 e_d3 e_d2 e_d1 e_c0 e_b e_aa;clear e_x e_y e_z e_x1 e_x2 e_y1 e_y2 e_z1 hr;grind
 have ee:e=3*(a.x*a.x):=by subst e_e e_e1 e_aa;clear ed e_x e_y e_z e_x1 e_x2 e_y1 e_y2 e_z1 hr;grind
 have ec:c3=8*((a.y*a.y)*(a.y*a.y)):=by subst e_c3 e_c2 e_c1 e_c0 e_b;clear ed ee e_x e_y e_z e_x1 e_x2 e_y1 e_y2 e_z1 hr;grind
 have ex:x=e*e - 2*d:=by subst e_x e_x2 e_x1;clear ed ee ec e_y e_z e_y1 e_y2 e_z1 hr;grind
 have ey:y=e*(d - x) - c3:=by subst e_y e_y2 e_y1;rfl
 have ez:z=2*(a.y*a.z):=by subst e_z e_z1;clear ed ee ec ex ey hr;grind
 have:(⟨x,y,z⟩ :J)=jdbl a:=by
  unfold jdbl
  rw [ey,ex,ez,ee,ed,ec]
 rw [this]
 exact yZ oP hr
theorem S_rtwice {m:Mem} {K:AV->Mem->Prop} {a:J} {P:Pt Fp} (oP:On P) (hr:JRel a P) (h:∀ r,JRel r (padd P P)->K (jA r) m):ACall Pg dW [jA a] m K:=by
 refine aC (S_rtwice0 a P oP hr) (.cons _ _ _ _ (aK cR) .nil) ?_
 rintro v ⟨r,h1,rfl⟩
 exact h r h1
theorem S_rplus0 (a b:J) (P Q:Pt Fp) (oP:On P) (oQ:On Q) (ha:JRel a P) (hb:JRel b Q):ACall Pg gD [jA a,jA b] [] (fun v _=>(∃ r,JRel r (padd P Q)/\v=jA r)/\Flat true v):=by
 have key:=jadd_rel oP oQ ha hb
 refine vD ⟨rfl,?_⟩
 conv=>whnf
 refine rE (fp_w a.z) (fun n1=> ?_) (fun n1=> ?_)
 · conv=>whnf
   rw [show jadd a b=b by unfold jadd;rw [if_pos (cY.1 n1)]]at key
   exact⟨⟨b,key,rfl⟩,cR⟩
 have n1:a.z ≠ 0:=fun h=>n1 (cY.2 h)
 conv=>whnf
 refine rE (fp_w b.z) (fun n2=> ?_) (fun n2=> ?_)
 · conv=>whnf
   rw [show jadd a b=a by unfold jadd;rw [if_neg n1,if_pos (cY.1 n2)]]at key
   exact⟨⟨a,key,rfl⟩,cR⟩
 have n2:b.z ≠ 0:=fun h=>n2 (cY.2 h)
 conv=>whnf
 refine dB (fun za e_za=> ?_)
 conv=>whnf
 repeat (refine⟨⟨[],rfl⟩,?_⟩;conv=>whnf)
 refine dB (fun zb e_zb=> ?_)
 conv=>whnf
 repeat (refine⟨⟨[],rfl⟩,?_⟩;conv=>whnf)
 refine dB (fun ua e_ua=> ?_)
 conv=>whnf
 repeat (refine⟨⟨[],rfl⟩,?_⟩;conv=>whnf)
 refine dB (fun ub e_ub=> ?_)
 conv=>whnf
 repeat (refine⟨⟨[],rfl⟩,?_⟩;conv=>whnf)
 refine dB (fun t1 e_t1=> ?_)
 conv=>whnf
 repeat (refine⟨⟨[],rfl⟩,?_⟩;conv=>whnf)
 refine dB (fun sa e_sa=> ?_)
 conv=>whnf
 repeat (refine⟨⟨[],rfl⟩,?_⟩;conv=>whnf)
 refine dB (fun t2 e_t2=> ?_)
 conv=>whnf
 repeat (refine⟨⟨[],rfl⟩,?_⟩;conv=>whnf)
 refine dB (fun sb e_sb=> ?_)
 conv=>whnf
 repeat (refine⟨⟨[],rfl⟩,?_⟩;conv=>whnf)
 refine nF (fun h e_h=> ?_)
 conv=>whnf
 repeat (refine⟨⟨[],rfl⟩,?_⟩;conv=>whnf)
 refine nF (fun r e_r=> ?_)
 conv=>whnf
 repeat (refine⟨⟨[],rfl⟩,?_⟩;conv=>whnf)
 have eh:b.x*(a.z*a.z) - a.x*(b.z*b.z)=h:=by subst e_h e_ub e_ua e_zb e_za;rfl
 have er:b.y*(a.z*a.z*a.z) - a.y*(b.z*b.z*b.z)=r:=by subst e_r e_sb e_sa e_t2 e_t1 e_zb e_za;rfl
 have J0:jadd a b=if h=0 then (if r=0 then jdbl a else ⟨1,1,0⟩)else ⟨r*r - h*h*h - 2*(ua*(h*h)),r*(ua*(h*h) - (r*r - h*h*h - 2*(ua*(h*h)))) - sa*(h*h*h),h*(a.z*b.z)⟩:=by
  unfold jadd
  rw [if_neg n1,if_neg n2]
  subst e_h e_r e_ub e_sb e_ua e_sa e_t2 e_t1 e_zb e_za
  rfl
 rw [J0]at key
 clear J0
 refine rE (a:=h.val) (fp_w h) (fun h0=> ?_) (fun h0=> ?_)
 · have h0:=cY.1 h0
   rw [if_pos h0]at key
   conv=>whnf
   refine rE (a:=r.val) (fp_w r) (fun r0=> ?_) (fun r0=> ?_)
   · have r0:=cY.1 r0
     have ePQ:P=Q:=jr_same crvP ha hb n1 n2 eh.symm er.symm h0 r0
     conv=>whnf
     refine S_rtwice oP ha (fun q hq=> ?_)
     conv=>whnf
     exact⟨⟨q,ePQ ▸ hq,rfl⟩,cR⟩
   · rw [if_neg (fun h=>r0 (cY.2 h))]at key
     conv=>whnf
     refine S_rInf ?_
     conv=>whnf
     refine S_up (P:= .inf) (fun q hq=> ?_)
     conv=>whnf
     subst hq
     exact⟨⟨_,key,rfl⟩,cR⟩
 · rw [if_neg (fun h=>h0 (cY.2 h))]at key
   conv=>whnf
   clear eh er
   refine dB (fun hh e_hh=> ?_)
   conv=>whnf
   repeat (refine⟨⟨[],rfl⟩,?_⟩;conv=>whnf)
   refine dB (fun hhh e_hhh=> ?_)
   conv=>whnf
   repeat (refine⟨⟨[],rfl⟩,?_⟩;conv=>whnf)
   refine dB (fun v e_v=> ?_)
   conv=>whnf
   repeat (refine⟨⟨[],rfl⟩,?_⟩;conv=>whnf)
   refine dB (fun r2 e_r2=> ?_)
   conv=>whnf
   repeat (refine⟨⟨[],rfl⟩,?_⟩;conv=>whnf)
   refine nF (fun x0 e_x0=> ?_)
   conv=>whnf
   repeat (refine⟨⟨[],rfl⟩,?_⟩;conv=>whnf)
   refine mD (fun v2 e_v2=> ?_)
   conv=>whnf
   repeat (refine⟨⟨[],rfl⟩,?_⟩;conv=>whnf)
   refine nF (fun x e_x=> ?_)
   conv=>whnf
   repeat (refine⟨⟨[],rfl⟩,?_⟩;conv=>whnf)
   refine nF (fun d e_d=> ?_)
   conv=>whnf
   repeat (refine⟨⟨[],rfl⟩,?_⟩;conv=>whnf)
   refine dB (fun rd e_rd=> ?_)
   conv=>whnf
   repeat (refine⟨⟨[],rfl⟩,?_⟩;conv=>whnf)
   refine dB (fun sh e_sh=> ?_)
   conv=>whnf
   repeat (refine⟨⟨[],rfl⟩,?_⟩;conv=>whnf)
   refine nF (fun y e_y=> ?_)
   conv=>whnf
   repeat (refine⟨⟨[],rfl⟩,?_⟩;conv=>whnf)
   refine dB (fun zz e_zz=> ?_)
   conv=>whnf
   repeat (refine⟨⟨[],rfl⟩,?_⟩;conv=>whnf)
   refine dB (fun z e_z=> ?_)
   conv=>whnf
   repeat (refine⟨⟨[],rfl⟩,?_⟩;conv=>whnf)
   show (∃ r,JRel r (padd P Q)/\jA ⟨x,y,z⟩=jA r)/\Flat true (jA ⟨x,y,z⟩)
   refine⟨⟨⟨x,y,z⟩,?_,rfl⟩,cR⟩
   have ex:x=r*r - h*h*h - 2*(ua*(h*h)):=by subst e_x e_v2 e_x0 e_r2 e_v e_hhh e_hh;clear e_h e_r key ha hb;grind
   rw [<- ex]at key
   subst e_y e_sh e_rd e_d e_z e_zz e_v e_hhh e_hh
   exact key
theorem S_rplus {m:Mem} {K:AV->Mem->Prop} {a b:J} {P Q:Pt Fp} (oP:On P) (oQ:On Q) (ha:JRel a P) (hb:JRel b Q) (h:∀ r,JRel r (padd P Q)->K (jA r) m):ACall Pg gD [jA a,jA b] m K:=by
 refine aC (S_rplus0 a b P Q oP oQ ha hb) (.cons _ _ _ _ (aK cR) (.cons _ _ _ _ (aK cR) .nil)) ?_
 rintro v ⟨r,h1,rfl⟩
 exact h r h1
end Go.Proofs.YtfolpdmbpbbimaaGreat
end

section
namespace Go.Proofs.YtfolpdmbpbbimaaGreat
open Go Go.Wit
theorem flat_ptG {nv:Bool} {P:Pt Fp} {i:Nat}:Flat nv ((rawL (isI P) (xN P) (yN P)).getD i .un):=by
 unfold rawL
 match i with
 | 0=>exact .bool _
 | 1=>exact .int _ _
 | 2=>exact .int _ _
 | 3=>exact .int _ _
 | 4=>exact .int _ _
 | 5=>exact .int _ _
 | 6=>exact .int _ _
 | 7=>exact .int _ _
 | 8=>exact .int _ _
 | i+9=>simp;exact .un
theorem S_rtimes0 (n:Nat) (P:Pt Fp) (hn:n<w256) (oP:On P):ACall Pg fQ [numA n,ptA P] [] (fun v _=>(∃ r,JRel r (nmul n P)/\v=jA r)/\Flat true v):=by
 refine tG ⟨rfl,?_⟩
 conv=>whnf
 refine S_rInf ?_
 conv=>whnf
 refine S_up (P:= .inf) (fun j0 hj0=> ?_)
 have hj1:JRel j0 .inf:=by rw [hj0];exact spr_rel .inf
 clear hj0
 conv=>whnf
 refine bE aI (I:=fun q l m=>∃ (v:Int) (b:J),l= [(2,.ptr 0 0 0),(3,.ptr 1 0 0),(4,.ptr 2 0 0),(5,.ptr 3 0 0),(6,.int .i64 v)] /\ m= [some ⟨1,4,lstG 1 (numL n)⟩,some ⟨9,1,lstG 9 (rawL (isI P) (xN P) (yN P))⟩,some ⟨12,1,lstG 12 z12⟩,some ⟨12,1,lstG 12 (jL b)⟩] /\
  v=(q:Int) - 1/\q<=256/\JRel b (nmul (n / 2 ^ q) P)) 256
  (l0:= [(2,.ptr 0 0 0),(3,.ptr 1 0 0),(4,.ptr 2 0 0),(5,.ptr 3 0 0),(6,.int .i64 255)]) (m0:= [some ⟨1,4,lstG 1 (numL n)⟩,some ⟨9,1,lstG 9 (rawL (isI P) (xN P) (yN P))⟩,some ⟨12,1,lstG 12 z12⟩,some ⟨12,1,lstG 12 (jL j0)⟩])
  [some 0,some 1,some 2,some 3] ⟨_,j0,rfl,rfl,rfl,Nat.le_refl _,by rw [Nat.div_eq_of_lt hn];exact hj1⟩ ?_ ?_
 · refine .mk0 ⟨.ptr _ _ _ _ rfl,.ptr _ _ _ _ rfl,.ptr _ _ _ _ rfl,.ptr _ _ _ _ rfl,Flat.i rfl,trivial⟩ ⟨.old 0 0 _ _ rfl rfl ⟨rfl,Nat.le_refl _,fun i j hi hj=> .eq _ _ rfl aH⟩,.old 1 1 _ _ rfl rfl ⟨rfl,Nat.le_refl _,fun i j hi hj=> .eq _ _ rfl flat_ptG⟩,
    .old 2 2 _ _ rfl rfl ⟨rfl,Nat.le_refl _,fun i j hi hj=> ?_⟩,.old 3 3 _ _ rfl rfl ⟨rfl,Nat.le_refl _,fun i j hi hj=> .eq _ _ rfl pG⟩,trivial⟩ rfl rfl
   · have hj:j<12:=hj
     have hi:i<1:=hi
     obtain rfl:i=0:=by omega
     have:j=0\/j=1\/j=2\/j=3\/j=4\/j=5\/j=6\/j=7\/j=8\/j=9\/j=10\/j=11:=by omega
     rcases this with rfl | rfl | rfl | rfl | rfl | rfl | rfl | rfl | rfl | rfl | rfl | rfl <;> exact .eq _ _ rfl (.int _ _)
 · rintro q l m ⟨v,b,rfl,rfl,hv,hq,hb⟩
   conv=>whnf
   refine aA (fun hc=> ?_) (fun hc=> ?_)
   · have hc:v >= 0:=of_decide_eq_true hc
     obtain⟨t,rfl⟩ :∃ t,q=t+1:=⟨q - 1,by omega⟩
     obtain rfl:v=(t:Int):=by omega
     conv=>whnf
     refine S_rtwice (a:=b) (oP.nmul crvP _) hb (fun r hr0=> ?_)
     conv=>whnf
     have hr2:JRel r (nmul (2*(n / 2 ^ (t+1))) P):=by rw [Nat.two_mul,iO crvP oP];exact hr0
     refine S_RBit (by omega) (fun c hcc=> ?_)
     conv=>whnf
     have ee:=zA n t
     have e5:IntKind.i64.wrap ((t:Int) - 1)=(t:Int) - 1:=w64 (by omega) (by omega)
     rcases bit_lt (n / 2 ^ t)with hz | hz
     · obtain rfl:c=0:=by omega
       conv=>whnf
       refine⟨t,_,_,[some 0,some 1,some 2,some 3],Nat.lt_succ_self _,⟨(t:Int) - 1,r,rfl,rfl,rfl,by omega,by rw [ee,hz];exact hr2⟩,?_⟩
       refine .mk0 ⟨.ptr _ _ _ _ rfl,.ptr _ _ _ _ rfl,.ptr _ _ _ _ rfl,.ptr _ _ _ _ rfl,Flat.i e5,trivial⟩ ⟨.old 0 0 _ _ rfl rfl ⟨rfl,Nat.le_refl _,fun i j hi hj=> .eq _ _ rfl aH⟩,.old 1 1 _ _ rfl rfl ⟨rfl,Nat.le_refl _,fun i j hi hj=> .eq _ _ rfl flat_ptG⟩,
        .old 2 2 _ _ rfl rfl ⟨rfl,Nat.le_refl _,fun i j hi hj=> .eq _ _ rfl zD⟩,.old 3 3 _ _ rfl rfl ⟨rfl,Nat.le_refl _,fun i j hi hj=> .eq _ _ rfl pG⟩,trivial⟩ rfl rfl
     · obtain rfl:c=1:=by omega
       conv=>whnf
       refine S_up (P:=P) (fun a ha=> ?_)
       conv=>whnf
       repeat (refine⟨⟨[],rfl⟩,?_⟩;conv=>whnf)
       subst ha
       refine S_rplus (oP.nmul crvP _) oP hr2 (spr_rel P) (fun s hs0=> ?_)
       conv=>whnf
       repeat (refine⟨⟨[],rfl⟩,?_⟩;conv=>whnf)
       refine⟨t,_,_,[some 0,some 1,some 2,some 3],Nat.lt_succ_self _,⟨(t:Int) - 1,s,rfl,rfl,rfl,by omega,by rw [ee,hz];exact hs0⟩,?_⟩
       refine .mk0 ⟨.ptr _ _ _ _ rfl,.ptr _ _ _ _ rfl,.ptr _ _ _ _ rfl,.ptr _ _ _ _ rfl,Flat.i e5,trivial⟩ ⟨.old 0 0 _ _ rfl rfl ⟨rfl,Nat.le_refl _,fun i j hi hj=> .eq _ _ rfl aH⟩,.old 1 1 _ _ rfl rfl ⟨rfl,Nat.le_refl _,fun i j hi hj=> .eq _ _ rfl flat_ptG⟩,
        .old 2 2 _ _ rfl rfl ⟨rfl,Nat.le_refl _,fun i j hi hj=> .eq _ _ rfl zD⟩,.old 3 3 _ _ rfl rfl ⟨rfl,Nat.le_refl _,fun i j hi hj=> .eq _ _ rfl pG⟩,trivial⟩ rfl rfl
   · have hc:¬ v >= 0:=of_decide_eq_false hc
     obtain rfl:q=0:=by omega
     conv=>whnf
     rw [Nat.pow_zero,Nat.div_one]at hb
     exact⟨⟨b,hb,rfl⟩,cR⟩
theorem S_rtimes {m:Mem} {K:AV->Mem->Prop} {P:Pt Fp} {n:Nat} (hn:n<w256) (oP:On P) (h:∀ r,JRel r (nmul n P)->K (jA r) m):ACall Pg fQ [numA n,ptA P] m K:=by
 refine aC (S_rtimes0 n P hn oP) (.cons _ _ _ _ aF (.cons _ _ _ _ (aK cG) .nil)) ?_
 rintro v ⟨r,h1,rfl⟩
 exact h r h1
theorem S_rTimes {m:Mem} {K:AV->Mem->Prop} {n:Nat} {P:Pt Fp} (hn:n<w256) (oP:On P) (h:K (ptA (nmul n P)) m):ACall Pg bJ [numA n,ptA P] m K:=by
 have h0:ACall Pg bJ [numA n,ptA P] [] (fun v _=>v=ptA (nmul n P)/\Flat true v):=by
  refine tH ⟨rfl,?_⟩
  conv=>whnf
  refine S_rtimes (P:=P) hn oP (fun r hr=> ?_)
  conv=>whnf
  refine S_down hr ?_
  conv=>whnf
  exact⟨rfl,cG⟩
 refine aC h0 (.cons _ _ _ _ aF (.cons _ _ _ _ (aK cG) .nil)) ?_
 rintro v rfl
 exact h
theorem S_rG {m:Mem} {K:AV->Mem->Prop} (h:K (ptA gG) m):ACall Pg jM [] m K:=by
 have h0:ACall Pg jM [] [] (fun v _=>v=ptA gG/\Flat true v):=by
  refine B_witanref01_G ⟨rfl,?_⟩
  conv=>whnf
  rw [G_lim]
  exact⟨rfl,G_lim ▸ cG⟩
 refine aC h0 .nil ?_
 rintro v rfl
 exact h
theorem S_rBase {m:Mem} {K:AV->Mem->Prop} {n:Nat} (hn:n<w256) (h:K (ptA (nmul n gG)) m):ACall Pg cL [numA n] m K:=by
 have h0:ACall Pg cL [numA n] [] (fun v _=>v=ptA (nmul n gG)/\Flat true v):=by
  refine vH ⟨rfl,?_⟩
  conv=>whnf
  refine S_rG ?_
  generalize hG:gG=G
  have oG:On G:=hG ▸ on_G
  conv=>whnf
  repeat (refine⟨⟨[],rfl⟩,?_⟩;conv=>whnf)
  refine S_rTimes (P:=G) hn oG ?_
  conv=>whnf
  repeat (refine⟨⟨[],rfl⟩,?_⟩;conv=>whnf)
  exact⟨rfl,cG⟩
 refine aC h0 (.cons _ _ _ _ aF .nil) ?_
 rintro v rfl
 exact h
end Go.Proofs.YtfolpdmbpbbimaaGreat
end

section
namespace Go.Proofs.YtfolpdmbpbbimaaGreat
open Go Go.Wit
theorem c_eq_t {a b:Nat} {p q:Prop} (ha:a<w256) (hb:b<w256) (hp:a=b->p) (hq:a ≠ b->q):cH ((bif false then !(eqX a b)else eqX a b) == true) p q:=by
 rw [mU ha hb]
 by_cases h:a=b
 · rw [decide_eq_true h];exact hp h
 · rw [decide_eq_false h];exact hq h
theorem S_kPoint0 (i j:Bool) (x y u v:Nat) (hx:x<w256) (hy:y<w256) (hu:u<w256) (hv:v<w256):ACall Pg cM [rawA i x y,rawA j u v] [] (fun r _=>((i=j/\x=u/\y=v/\r= .bool true)\/(¬ (i=j/\x=u/\y=v)/\r= .bool false))/\Flat true r):=by
 refine vK ⟨rfl,?_⟩
 conv=>whnf
 refine aA (p:=_) (q:=_) (fun h=> ?_) (fun h=> ?_)
 · conv=>whnf
   refine c_eq_t hx hu (fun h1=> ?_) (fun h1=> ?_)
   · conv=>whnf
     have hij:i=j:=by cases i <;> cases j <;> first | rfl | exact absurd h (by decide)
     show ((i=j/\x=u/\y=v/\AV.bool (eqX y v)= .bool true)\/(¬ (i=j/\x=u/\y=v)/\AV.bool (eqX y v)= .bool false))/\Flat true (AV.bool (eqX y v))
     refine⟨?_,.bool _⟩
     rw [mU hy hv]
     by_cases e:y=v
     · exact .inl ⟨hij,h1,e,by rw [decide_eq_true e]⟩
     · exact .inr ⟨fun h=>e h.2.2,by rw [decide_eq_false e]⟩
   · conv=>whnf
     exact⟨.inr ⟨fun h=>h1 h.2.1,rfl⟩,.bool _⟩
 · conv=>whnf
   refine⟨.inr ⟨fun h1=> ?_,rfl⟩,.bool _⟩
   obtain⟨rfl,-,-⟩:=h1
   revert h
   cases i <;> decide
theorem S_kPoint {m:Mem} {K:AV->Mem->Prop} {i j:Bool} {x y u v:Nat} (hx:x<w256) (hy:y<w256) (hu:u<w256) (hv:v<w256) (h1:i=j->x=u->y=v->K (.bool true) m) (h2:¬ (i=j/\x=u/\y=v)->K (.bool false) m):ACall Pg cM [rawA i x y,rawA j u v] m K:=by
 refine aC (S_kPoint0 i j x y u v hx hy hu hv) (.cons _ _ _ _ (aK gR) (.cons _ _ _ _ (aK gR) .nil)) ?_
 rintro r (⟨a,b,c,rfl⟩ | ⟨a,rfl⟩)
 · exact h1 a b c
 · exact h2 a
theorem S_kPoint_eq {m:Mem} {K:AV->Mem->Prop} {i:Bool} {x y:Nat} (hx:x<w256) (hy:y<w256) (h:K (.bool true) m):ACall Pg cM [rawA i x y,rawA i x y] m K:=
 S_kPoint hx hy hx hy (fun _ _ _=>h) (fun hn=>absurd ⟨rfl,rfl,rfl⟩ hn)
theorem T_Base {m:Mem} {K:AV->Mem->Prop} {n:Nat} (hn:n<w256) (h:∀ P,On P->P=nmul n gG->K (ptA P) m):ACall Pg fZ [numA n] m K:=
 S_Base hn (h _ (on_G.nmul crvP n) rfl)
theorem T_Times {m:Mem} {K:AV->Mem->Prop} {n:Nat} {P:Pt Fp} (hn:n<w256) (oP:On P) (h:∀ R,On R->R=nmul n P->K (.tup [ptA R,.int .i64 0]) m):ACall Pg dY [numA n,ptA P] m K:=
 S_Times hn oP (h _ (oP.nmul crvP n) rfl)
end Go.Proofs.YtfolpdmbpbbimaaGreat
end

section
namespace Go.Proofs.YtfolpdmbpbbimaaGreat
open Go Go.Wit
theorem S_fmul {m:Mem} {K:AV->Mem->Prop} {x y:Fp} (h:∀ z:Fp,z=x*y->K (numA z.val) m):ACall Pg dF [.int .i64 0,numA x.val,numA y.val] m K:=
 zK (fp_w x) (fp_w y) (fun r hr=>by obtain rfl:r=(x*y).val:=hr;exact h _ rfl)
theorem S_fsub {m:Mem} {K:AV->Mem->Prop} {x y:Fp} (h:∀ z:Fp,z=x - y->K (numA z.val) m):ACall Pg fD [.int .i64 0,numA x.val,numA y.val] m K:=
 S_FSub_0 (fp_w x) (fp_w y) (fun r hr=>by
  rw [Nat.mod_eq_of_lt y.isLt,Nat.add_comm]at hr
  obtain rfl:r=(x - y).val:=hr
  exact h _ rfl)
theorem S_fred {m:Mem} {K:AV->Mem->Prop} {x:Fp} (h:K (numA x.val) m):ACall Pg fY [.int .i64 0,numA x.val] m K:=
 S_Red_0 (fp_w x) (fun r hr=>by rw [Nat.mod_eq_of_lt x.isLt]at hr;rw [hr];exact h)
theorem S_rfmul {m:Mem} {K:AV->Mem->Prop} {x y:Fp} (h:∀ z:Fp,z=x*y->K (numA z.val) m):ACall Pg bG [.int .i64 0,numA x.val,numA y.val] m K:=
 sU (fp_w x) (fp_w y) (fun r hr=>by obtain rfl:r=(x*y).val:=hr;exact h _ rfl)
theorem S_rfsub {m:Mem} {K:AV->Mem->Prop} {x y:Fp} (h:∀ z:Fp,z=x - y->K (numA z.val) m):ACall Pg bO [.int .i64 0,numA x.val,numA y.val] m K:=
 S_RFSub_0 (fp_w x) (fp_w y) (fun r hr=>by
  rw [Nat.mod_eq_of_lt y.isLt,Nat.add_comm]at hr
  obtain rfl:r=(x - y).val:=hr
  exact h _ rfl)
theorem S_rfred {m:Mem} {K:AV->Mem->Prop} {x:Fp} (h:K (numA x.val) m):ACall Pg bN [.int .i64 0,numA x.val] m K:=
 zJ (fp_w x) (fun r hr=>by rw [Nat.mod_eq_of_lt x.isLt]at hr;rw [hr];exact h)
def qrt (s:Nat):List AV:= [.int .u64 (bY .or .u64 ((lim s 0).fdiv (2 ^ 2)) (IntKind.u64.wrap (lim s 1*2 ^ 62))),.int .u64 (bY .or .u64 ((lim s 1).fdiv (2 ^ 2)) (IntKind.u64.wrap (lim s 2*2 ^ 62))),.int .u64 (bY .or .u64 ((lim s 2).fdiv (2 ^ 2)) (IntKind.u64.wrap (lim s 3*2 ^ 62))),.int .u64 ((lim s 3).fdiv (2 ^ 2))]
theorem qrt_p {s:Nat} (h:s=pP+1):AV.agg (qrt s)=numA ((pP+1) / 4):=by
 subst h
 have h0:bY .or .u64 ((lim (pP+1) 0).fdiv (2 ^ 2)) (IntKind.u64.wrap (lim (pP+1) 1*2 ^ 62))=lim ((pP+1) / 4) 0:=by decide +kernel
 have h1:bY .or .u64 ((lim (pP+1) 1).fdiv (2 ^ 2)) (IntKind.u64.wrap (lim (pP+1) 2*2 ^ 62))=lim ((pP+1) / 4) 1:=by decide +kernel
 have h2:bY .or .u64 ((lim (pP+1) 2).fdiv (2 ^ 2)) (IntKind.u64.wrap (lim (pP+1) 3*2 ^ 62))=lim ((pP+1) / 4) 2:=by decide +kernel
 have h3:(lim (pP+1) 3).fdiv (2 ^ 2)=lim ((pP+1) / 4) 3:=by decide +kernel
 unfold qrt numA numL
 rw [h0,h1,h2,h3]
theorem S_sqrt {m:Mem} {K:AV->Mem->Prop} {a:Fp} {s:Nat} (hs:s=pP+1) (h:∀ y:Fp,y=cS a->K (numA y.val) m):ACall Pg jG [.int .i64 0,numA a.val,.agg (qrt s)] m K:=by
 rw [qrt_p hs]
 exact S_Pow_0 (fp_w a) (by decide) (fun r hr=>by obtain rfl:r=(cS a).val:=hr;exact h _ rfl)
theorem S_rsqrt {m:Mem} {K:AV->Mem->Prop} {a:Fp} {s:Nat} (hs:s=pP+1) (h:∀ y:Fp,y=cS a->K (numA y.val) m):ACall Pg dQ [.int .i64 0,numA a.val,.agg (qrt s)] m K:=by
 rw [qrt_p hs]
 exact S_RPow_0 (fp_w a) (by decide) (fun r hr=>by obtain rfl:r=(cS a).val:=hr;exact h _ rfl)
theorem low_bit (n:Nat):bY .and .u64 (lim n 0) 1=((n % 2:Nat):Int):=by
 unfold lim
 rw [and_one (Nat.mod_lt _ (by decide)),Nat.pow_zero,Nat.div_one]
 omega
theorem c_odd {n:Nat} {p q:Prop} (h1:n % 2=1->p) (h2:n % 2=0->q):cH (bY .and .u64 (lim n 0) 1 == 1) p q:=by
 rw [low_bit]
 rcases bit_lt n with h | h
 · rw [h];exact h2 h
 · rw [h];exact h1 h
theorem p1_lt {p s c:Nat} (hp:p=pP) (e:p+1=s+c*w256) (s1:s<w256):s=pP+1:=by
 have h:pP+1<w256:=by decide
 rw [<- hp]at h ⊢
 rcases Nat.eq_zero_or_pos c with rfl | hc
 · omega
 · have:w256<=c*w256:=Nat.le_mul_of_pos_left _ hc
   omega
theorem S_Root0 (a:Fp):ACall Pg lA [numA a.val] [] (fun v _=>((cS a*cS a=a/\v= .tup [numA (evn (cS a)).val,.bool true])\/(cS a*cS a ≠ a/\v= .tup [numA 0,.bool false]))/\Flat true v):=by
 refine B_field_Root ⟨rfl,?_⟩
 conv=>whnf
 repeat (refine⟨⟨[],rfl⟩,?_⟩;conv=>whnf)
 refine pQ (fun p hp=> ?_)
 conv=>whnf
 repeat (refine⟨⟨[],rfl⟩,?_⟩;conv=>whnf)
 refine S_LAddc (b:=1) (by rw [hp];decide) (by decide) (fun s c e s1 c1=> ?_)
 have hs:=p1_lt hp e s1
 conv=>whnf
 refine aR aI 5 ?_
 conv=>whnf
 repeat (refine⟨⟨[],rfl⟩,?_⟩;conv=>whnf)
 refine S_sqrt (a:=a) (s:=s) hs (fun y hy=> ?_)
 rw [<- hy]
 conv=>whnf
 repeat (refine⟨⟨[],rfl⟩,?_⟩;conv=>whnf)
 refine S_fmul (x:=y) (y:=y) (fun yy hyy=> ?_)
 conv=>whnf
 repeat (refine⟨⟨[],rfl⟩,?_⟩;conv=>whnf)
 refine S_fred (x:=a) ?_
 conv=>whnf
 repeat (refine⟨⟨[],rfl⟩,?_⟩;conv=>whnf)
 rw [<- hyy]
 refine c_ne (a:=yy.val) (b:=a.val) (fp_w yy) (fp_w a) (fun ne=> ?_) (fun eq=> ?_)
 · conv=>whnf
   repeat (refine⟨⟨[],rfl⟩,?_⟩;conv=>whnf)
   exact⟨.inr ⟨fun h=>ne (congrArg Fin.val h),by rw [numA_0];rfl⟩,.tup _ (.cons _ _ dM (.cons _ _ (.bool _) .nil))⟩
 · conv=>whnf
   repeat (refine⟨⟨[],rfl⟩,?_⟩;conv=>whnf)
   have eq:=Fin.ext eq
   refine c_odd (n:=y.val) (fun o=> ?_) (fun o=> ?_)
   · conv=>whnf
     repeat (refine⟨⟨[],rfl⟩,?_⟩;conv=>whnf)
     refine S_fsub (x:=0) (y:=y) (fun z hz=> ?_)
     conv=>whnf
     repeat (refine⟨⟨[],rfl⟩,?_⟩;conv=>whnf)
     refine⟨.inl ⟨eq,?_⟩,.tup _ (.cons _ _ aJ (.cons _ _ (.bool _) .nil))⟩
     have:evn y=z:=by unfold evn;rw [if_pos o,hz,mM]
     rw [this]
     rfl
   · conv=>whnf
     repeat (refine⟨⟨[],rfl⟩,?_⟩;conv=>whnf)
     refine⟨.inl ⟨eq,?_⟩,.tup _ (.cons _ _ aJ (.cons _ _ (.bool _) .nil))⟩
     have:evn y=y:=by unfold evn;rw [if_neg (by omega)]
     rw [this]
     rfl
theorem S_Root {m:Mem} {K:AV->Mem->Prop} {a:Fp} (h1:∀ y,y=evn (cS a)->cS a*cS a=a->K (.tup [numA y.val,.bool true]) m) (h2:cS a*cS a ≠ a->K (.tup [numA 0,.bool false]) m):ACall Pg lA [numA a.val] m K:=by
 refine aC (S_Root0 a) (.cons _ _ _ _ aF .nil) ?_
 rintro v (⟨e,rfl⟩ | ⟨e,rfl⟩)
 · exact h1 _ rfl e
 · exact h2 e
theorem S_RRoot0 (a:Fp):ACall Pg gH [numA a.val] [] (fun v _=>((cS a*cS a=a/\v= .tup [numA (evn (cS a)).val,.bool true])\/(cS a*cS a ≠ a/\v= .tup [numA 0,.bool false]))/\Flat true v):=by
 refine vG ⟨rfl,?_⟩
 conv=>whnf
 repeat (refine⟨⟨[],rfl⟩,?_⟩;conv=>whnf)
 refine S_rfred (x:=a) ?_
 conv=>whnf
 repeat (refine⟨⟨[],rfl⟩,?_⟩;conv=>whnf)
 refine jF (fun p hp=> ?_)
 conv=>whnf
 repeat (refine⟨⟨[],rfl⟩,?_⟩;conv=>whnf)
 refine S_RAddc (b:=1) (by rw [hp];decide) (by decide) (fun s c e s1 c1=> ?_)
 have hs:=p1_lt hp e s1
 conv=>whnf
 refine aR aI 5 ?_
 conv=>whnf
 repeat (refine⟨⟨[],rfl⟩,?_⟩;conv=>whnf)
 refine S_rsqrt (a:=a) (s:=s) hs (fun y hy=> ?_)
 rw [<- hy]
 conv=>whnf
 repeat (refine⟨⟨[],rfl⟩,?_⟩;conv=>whnf)
 refine S_rfmul (x:=y) (y:=y) (fun yy hyy=> ?_)
 conv=>whnf
 repeat (refine⟨⟨[],rfl⟩,?_⟩;conv=>whnf)
 rw [<- hyy]
 refine c_ne (a:=yy.val) (b:=a.val) (fp_w yy) (fp_w a) (fun ne=> ?_) (fun eq=> ?_)
 · conv=>whnf
   repeat (refine⟨⟨[],rfl⟩,?_⟩;conv=>whnf)
   exact⟨.inr ⟨fun h=>ne (congrArg Fin.val h),by rw [numA_0];rfl⟩,.tup _ (.cons _ _ dM (.cons _ _ (.bool _) .nil))⟩
 · conv=>whnf
   repeat (refine⟨⟨[],rfl⟩,?_⟩;conv=>whnf)
   have eq:=Fin.ext eq
   refine c_odd (n:=y.val) (fun o=> ?_) (fun o=> ?_)
   · conv=>whnf
     repeat (refine⟨⟨[],rfl⟩,?_⟩;conv=>whnf)
     refine S_rfsub (x:=0) (y:=y) (fun z hz=> ?_)
     conv=>whnf
     repeat (refine⟨⟨[],rfl⟩,?_⟩;conv=>whnf)
     refine⟨.inl ⟨eq,?_⟩,.tup _ (.cons _ _ aJ (.cons _ _ (.bool _) .nil))⟩
     have:evn y=z:=by unfold evn;rw [if_pos o,hz,mM]
     rw [this]
     rfl
   · conv=>whnf
     repeat (refine⟨⟨[],rfl⟩,?_⟩;conv=>whnf)
     refine⟨.inl ⟨eq,?_⟩,.tup _ (.cons _ _ aJ (.cons _ _ (.bool _) .nil))⟩
     have:evn y=y:=by unfold evn;rw [if_neg (by omega)]
     rw [this]
     rfl
theorem S_RRoot {m:Mem} {K:AV->Mem->Prop} {a:Fp} (h1:∀ y,y=evn (cS a)->cS a*cS a=a->K (.tup [numA y.val,.bool true]) m) (h2:cS a*cS a ≠ a->K (.tup [numA 0,.bool false]) m):ACall Pg gH [numA a.val] m K:=by
 refine aC (S_RRoot0 a) (.cons _ _ _ _ aF .nil) ?_
 rintro v (⟨e,rfl⟩ | ⟨e,rfl⟩)
 · exact h1 _ rfl e
 · exact h2 e
end Go.Proofs.YtfolpdmbpbbimaaGreat
end

section
namespace Go.Proofs.YtfolpdmbpbbimaaGreat
open Go Go.Wit
def pbN (P:Pt Fp):Nat:=if isI P then 1 else 33
def pbF (P:Pt Fp) (i:Nat):Int:=if i=0 then (if isI P then 0 else 2+((yN P % 2:Nat):Int))else nK (xN P) (i - 1)
theorem pbF_lt (P:Pt Fp) (i:Nat):0<=pbF P i/\pbF P i<=255:=by
 unfold pbF
 split
 · split <;> omega
 · exact zG _ _
theorem pbN_le (P:Pt Fp):pbN P<=33:=by unfold pbN;split <;> omega
def rd (n:Nat) (f:Nat->Int):Except Int (Pt Fp):=
 if n=1/\f 0=0 then .ok .inf
 else if n=33/\(f 0=2\/f 0=3)then
  if h:ofZ (fun i=>f (i+1))<pP then
   if cS ((⟨_,h⟩ :Fp)*⟨_,h⟩*⟨_,h⟩+7)*cS ((⟨_,h⟩ :Fp)*⟨_,h⟩*⟨_,h⟩+7)=(⟨_,h⟩ :Fp)*⟨_,h⟩*⟨_,h⟩+7 then
    .ok (.aff ⟨_,h⟩ (if f 0=3 then - evn (cS ((⟨_,h⟩ :Fp)*⟨_,h⟩*⟨_,h⟩+7))else evn (cS ((⟨_,h⟩ :Fp)*⟨_,h⟩*⟨_,h⟩+7))))
   else .error 3
  else .error 2
 else .error 7
theorem rd_inf {n:Nat} {f:Nat->Int} (h:n=1/\f 0=0):rd n f= .ok .inf:=by unfold rd;rw [if_pos h]
theorem rd_7 {n:Nat} {f:Nat->Int} (h:¬ (n=1/\f 0=0)) (h2:¬ (n=33/\(f 0=2\/f 0=3))):rd n f= .error 7:=by unfold rd;rw [if_neg h,if_neg h2]
theorem rd_2 {n:Nat} {f:Nat->Int} (h2:n=33/\(f 0=2\/f 0=3)) (h3:¬ ofZ (fun i=>f (i+1))<pP):rd n f= .error 2:=by
 unfold rd
 rw [if_neg (by omega),if_pos h2,dif_neg h3]
theorem rd_3 {n:Nat} {f:Nat->Int} (h2:n=33/\(f 0=2\/f 0=3)) {X:Fp} (hX:ofZ (fun i=>f (i+1))=X.val) (h4:¬ cS (X*X*X+7)*cS (X*X*X+7)=X*X*X+7):rd n f= .error 3:=by
 have h3:ofZ (fun i=>f (i+1))<pP:=hX ▸ X.isLt
 have e:(⟨_,h3⟩ :Fp)=X:=Fin.ext hX
 unfold rd
 rw [if_neg (by omega),if_pos h2,dif_pos h3,e,if_neg h4]
theorem rd_ok {n:Nat} {f:Nat->Int} (h2:n=33/\(f 0=2\/f 0=3)) {X:Fp} (hX:ofZ (fun i=>f (i+1))=X.val) (h4:cS (X*X*X+7)*cS (X*X*X+7)=X*X*X+7):
 rd n f= .ok (.aff X (if f 0=3 then - evn (cS (X*X*X+7))else evn (cS (X*X*X+7)))):=by
 have h3:ofZ (fun i=>f (i+1))<pP:=hX ▸ X.isLt
 have e:(⟨_,h3⟩ :Fp)=X:=Fin.ext hX
 unfold rd
 rw [if_neg (by omega),if_pos h2,dif_pos h3,e,if_pos h4]
theorem neg_sq (y:Fp): -y* -y=y*y:=by grind
theorem neg_neg' (y:Fp): - -y=y:=by grind
theorem rd_pb {P:Pt Fp} (oP:On P) {f:Nat->Int} (hf:∀ i,i<pbN P->f i=pbF P i):rd (pbN P) f= .ok P:=by
  cases P with
  | inf=>exact rd_inf ⟨rfl,by rw [hf 0 (by decide)];rfl⟩
  | aff x y =>
    have hN:pbN (.aff x y)=33:=rfl
    rw [hN]at hf
    have f0:f 0=2+((y.val % 2:Nat):Int):=hf 0 (by decide)
    have h2:f 0=2\/f 0=3:=by omega
    have hX:ofZ (fun i=>f (i+1))=x.val:=ofZ_byteZ (fp_w x) fun i hi=>by rw [hf (i+1) (by omega)];rfl
    have oP:y*y=x*x*x+7:=oP
    have y0:=On.y_ne crvP oP
    have h4:cS (x*x*x+7)*cS (x*x*x+7)=x*x*x+7:=by rw [<- oP];exact fsqrt_sq y
    rw [rd_ok ⟨hN,h2⟩ hX h4]
    have e1:evn (cS (x*x*x+7))*evn (cS (x*x*x+7))=y*y:=by rw [evn_sq,h4,oP]
    have e2:=evn_even (cS (x*x*x+7))
    generalize evn (cS (x*x*x+7))=e at*
    rcases bit_lt y.val with hy | hy
    · rw [if_neg (by omega),even_uniq e1 e2 hy y0]
    · have h6:=jX y0
      have y1: -y ≠ 0:=fun h=>y0 (by have:=neg_neg' y;rw [h]at this;rw [<- this];grind)
      have:e= -y:=even_uniq (by rw [e1,neg_sq]) e2 (by omega) y1
      rw [if_pos (by omega),this,neg_neg']
theorem pb_rd {n:Nat} {f:Nat->Int} {P:Pt Fp} (hf:∀ i,i<n->0<=f i/\f i<=255) (h:rd n f= .ok P):On P/\n=pbN P/\∀ i,i<n->f i=pbF P i:=by
 by_cases h1:n=1/\f 0=0
 · rw [rd_inf h1]at h
   obtain rfl:Pt.inf=P:=by injection h
   refine⟨trivial,h1.1,fun i hi=> ?_⟩
   obtain rfl:i=0:=by omega
   exact h1.2
 by_cases h2:n=33/\(f 0=2\/f 0=3)
 · by_cases h3:ofZ (fun i=>f (i+1))<pP
   · obtain⟨X,hX⟩ :∃ X:Fp,ofZ (fun i=>f (i+1))=X.val:=⟨⟨_,h3⟩,rfl⟩
     by_cases h4:cS (X*X*X+7)*cS (X*X*X+7)=X*X*X+7
     · rw [rd_ok h2 hX h4]at h
       have e1:evn (cS (X*X*X+7))*evn (cS (X*X*X+7))=X*X*X+7:=by rw [evn_sq,h4]
       have e2:=evn_even (cS (X*X*X+7))
       generalize evn (cS (X*X*X+7))=e at*
       have oP:On (.aff X (if f 0=3 then -e else e)):=by
        show _*_=_
        split
        · rw [neg_sq,e1]
        · exact e1
       have e0:e ≠ 0:=On.y_ne crvP (x:=X) e1
       obtain rfl:=Except.ok.inj h
       refine⟨oP,h2.1,fun i hi=> ?_⟩
       by_cases hi0:i=0
       · subst hi0
         show f 0=2+(((if f 0=3 then -e else e).val % 2:Nat):Int)
         rcases h2.2 with h5 | h5
         · rw [if_neg (by omega),e2];omega
         · rw [if_pos h5,jX e0,e2];omega
       · have:=byteZ_ofZ (f:=fun i=>f (i+1)) (fun k hk=>hf (k+1) (by omega)) (i:=i - 1) (by omega)
         rw [hX]at this
         unfold pbF
         rw [if_neg hi0]
         show f i=nK X.val (i - 1)
         rw [this]
         show f i=f (i - 1+1)
         rw [show i - 1+1=i by omega]
     · rw [rd_3 h2 hX h4]at h;cases h
   · rw [rd_2 h2 h3]at h;cases h
 · rw [rd_7 h1 h2]at h;cases h
end Go.Proofs.YtfolpdmbpbbimaaGreat
end

section
namespace Go.Proofs.YtfolpdmbpbbimaaGreat
open Go Go.Wit
theorem fstP (y:Nat):IntKind.u8.wrap (IntKind.u64.wrap (2+bY .and .u64 (lim y 0) 1))=2+((y % 2:Nat):Int):=by
 rw [low_bit,wu64,IntKind.wrap_u8];omega
theorem fstR (y:Nat):IntKind.u8.wrap (2+IntKind.u8.wrap (bY .and .u64 (lim y 0) 1))=2+((y % 2:Nat):Int):=by
 rw [low_bit,IntKind.wrap_u8,IntKind.wrap_u8];omega
theorem updG_row {s:Nat->Int} {g:Nat->Nat->AV} {i:Nat} (hi:i<32):updG ⟨1,32,g⟩ 0 0 32 (rowL s) i 0= .int .u8 (s i):=by
 unfold updG
 rw [show Nat.ble (0+32) (Blk.mk 1 32 g).es=false from rfl]
 simp only [cond_false,iM,Nat.zero_mul,Nat.zero_add,Nat.mul_one,Nat.add_zero,Nat.sub_zero]
 rw [show Nat.ble 0 i=true from by simp,jV hi]
 exact rowL_get hi
theorem pb_cat {x y:Fp} {s:Nat->Int} {v:Nat->Int} {g2 g:Nat->Nat->AV} (hs:s=nK x.val) (hv:∀ y,v y=2+((y % 2:Nat):Int)) (e:g=catG 1 (fun i j=> [AV.int .u8 (v y.val)].getD (i*1+j) .un) (fun i j=>updG ⟨1,32,g2⟩ 0 0 32 (rowL s) (0+i) j)) (i:Nat) (hi:i<33):g i 0= .int .u8 (pbF (.aff x y) i):=by
 subst e
 by_cases h:i=0
 · subst h
   rw [iE (by decide)]
   show AV.int .u8 (v y.val)=_
   rw [hv];rfl
 · rw [dA (by omega),Nat.zero_add,updG_row (by omega),hs]
   unfold pbF
   rw [if_neg h]
   rfl
theorem S_CBytes0 (P:Pt Fp) (oP:On P):ACall Pg iW [ptA P] [] (fun v m'=>∃ n f x vs,v= .tup (x::vs)/\(n=pbN P/\f=pbF P/\vs= [.int .i64 0])/\RetB n f x m'/\Flats true vs):=by
  cases P with
  | inf =>
    refine tM ⟨rfl,?_⟩
    conv=>whnf
    repeat (refine⟨⟨[],rfl⟩,?_⟩;conv=>whnf)
    refine qH oP ?_
    conv=>whnf
    repeat (refine⟨⟨[],rfl⟩,?_⟩;conv=>whnf)
    exact⟨1,pbF .inf,_,_,rfl,⟨rfl,rfl,rfl⟩,.inr ⟨1,1,_,_,rfl,rfl,Nat.le_refl _,fun i hi=>by
      obtain rfl:i=0:=by omega
      rfl⟩,.cons _ _ (.int _ _) .nil⟩
  | aff x y =>
    refine tM ⟨rfl,?_⟩
    conv=>whnf
    repeat (refine⟨⟨[],rfl⟩,?_⟩;conv=>whnf)
    refine qH oP ?_
    conv=>whnf
    repeat (refine⟨⟨[],rfl⟩,?_⟩;conv=>whnf)
    refine S_LBytes (fun s hs hsb=> ?_)
    rw [rowL]
    conv=>whnf
    repeat (refine⟨⟨[],rfl⟩,?_⟩;conv=>whnf)
    refine⟨⟨_,rfl⟩,?_⟩
    conv=>whnf
    repeat (refine⟨⟨[],rfl⟩,?_⟩;conv=>whnf)
    refine fun cap' hcap=> ?_
    conv=>whnf
    repeat (refine⟨⟨[],rfl⟩,?_⟩;conv=>whnf)
    refine⟨33,pbF (.aff x y),_,_,rfl,⟨rfl,rfl,rfl⟩,.inr ⟨3,cap',_,_,rfl,rfl,Nat.le_refl _,fun i hi=> ?_⟩,.cons _ _ (.int _ _) .nil⟩
    exact pb_cat (x:=x) (y:=y) hs fstP rfl i hi
theorem S_CBytes {m:Mem} {K:AV->Mem->Prop} {P:Pt Fp} (oP:On P) (h:∀ cap,memK (m++ [some ⟨1,pbN P,aD (pbF P)⟩]) (K (.tup [.sl m.length 0 (pbN P) cap,.int .i64 0]))):ACall Pg iW [ptA P] m K:=by
 simp only [dL]at h
 refine yY (S_CBytes0 P oP) (.cons _ _ _ _ (aK cG) .nil) ?_
 rintro n f cap vs ⟨rfl,rfl,rfl⟩
 exact h cap
theorem S_PBytes0 (P:Pt Fp):ACall Pg cA [ptA P] [] (fun v m'=>∃ n f,(n=pbN P/\f=pbF P)/\RetB n f v m'):=by
  cases P with
  | inf =>
    refine iY ⟨rfl,?_⟩
    conv=>whnf
    repeat (refine⟨⟨[],rfl⟩,?_⟩;conv=>whnf)
    exact⟨1,pbF .inf,⟨rfl,rfl⟩,.inr ⟨1,1,_,_,rfl,rfl,Nat.le_refl _,fun i hi=>by
      obtain rfl:i=0:=by omega
      rfl⟩⟩
  | aff x y =>
    refine iY ⟨rfl,?_⟩
    conv=>whnf
    repeat (refine⟨⟨[],rfl⟩,?_⟩;conv=>whnf)
    refine S_RBytes (fun s hs hsb=> ?_)
    rw [rowL]
    conv=>whnf
    repeat (refine⟨⟨[],rfl⟩,?_⟩;conv=>whnf)
    refine fun cap' hcap=> ?_
    conv=>whnf
    repeat (refine⟨⟨[],rfl⟩,?_⟩;conv=>whnf)
    refine⟨33,pbF (.aff x y),⟨rfl,rfl⟩,.inr ⟨3,cap',_,_,rfl,rfl,Nat.le_refl _,fun i hi=> ?_⟩⟩
    exact pb_cat (x:=x) (y:=y) hs fstR rfl i hi
theorem S_PBytes {m:Mem} {K:AV->Mem->Prop} {P:Pt Fp} (h:∀ cap,memK (m++ [some ⟨1,pbN P,aD (pbF P)⟩]) (K (.sl m.length 0 (pbN P) cap))):ACall Pg cA [ptA P] m K:=by
 simp only [dL]at h
 refine gA (S_PBytes0 P) (.cons _ _ _ _ (aK cG) .nil) ?_
 rintro n f cap ⟨rfl,rfl⟩
 exact h cap
theorem S_FRead0 (f:Nat->Int) (hf:∀ i,i<32->0<=f i/\f i<=255):ACall Pg lB [.int .i64 0,.agg (rowL f)] [] (fun v _=>((ofZ f<pP/\v= .tup [numA (ofZ f),.int .i64 0])\/(¬ ofZ f<pP/\v= .tup [numA 0,.int .i64 2]))/\Flat true v):=by
 refine B_field_Read ⟨rfl,?_⟩
 conv=>whnf
 repeat (refine⟨⟨[],rfl⟩,?_⟩;conv=>whnf)
 refine mZ ?_
 conv=>whnf
 repeat (refine⟨⟨[],rfl⟩,?_⟩;conv=>whnf)
 refine S_LOf (f:=f) hf (fun n hn hn1=> ?_)
 conv=>whnf
 repeat (refine⟨⟨[],rfl⟩,?_⟩;conv=>whnf)
 refine pQ (fun p hp=> ?_)
 conv=>whnf
 repeat (refine⟨⟨[],rfl⟩,?_⟩;conv=>whnf)
 refine S_LCmp hn1 (by rw [hp];decide) (fun r hr=> ?_)
 conv=>whnf
 repeat (refine⟨⟨[],rfl⟩,?_⟩;conv=>whnf)
 rw [<- hn]
 rcases rD hr with⟨h1,rfl⟩ | ⟨h1,rfl | rfl⟩
 · conv=>whnf
   repeat (refine⟨⟨[],rfl⟩,?_⟩;conv=>whnf)
   exact⟨.inl ⟨hp ▸ h1,rfl⟩,.tup _ (.cons _ _ aJ (.cons _ _ (.int _ _) .nil))⟩
 · conv=>whnf
   repeat (refine⟨⟨[],rfl⟩,?_⟩;conv=>whnf)
   exact⟨.inr ⟨by omega,by rw [numA_0];rfl⟩,.tup _ (.cons _ _ dM (.cons _ _ (.int _ _) .nil))⟩
 · conv=>whnf
   repeat (refine⟨⟨[],rfl⟩,?_⟩;conv=>whnf)
   exact⟨.inr ⟨by omega,by rw [numA_0];rfl⟩,.tup _ (.cons _ _ dM (.cons _ _ (.int _ _) .nil))⟩
theorem S_FRead {m:Mem} {K:AV->Mem->Prop} {f:Nat->Int} (hf:∀ i,i<32->0<=f i/\f i<=255) (h1:∀ X:Fp,ofZ f=X.val->K (.tup [numA X.val,.int .i64 0]) m) (h2:¬ ofZ f<pP->K (.tup [numA 0,.int .i64 2]) m):ACall Pg lB [.int .i64 0,.agg (rowL f)] m K:=by
 refine aC (S_FRead0 f hf) (.cons _ _ _ _ aQ (.cons _ _ _ _ (aK pE) .nil)) ?_
 rintro v (⟨e,rfl⟩ | ⟨e,rfl⟩)
 · exact h1 ⟨_,e⟩ rfl
 · exact h2 e
theorem S_Read0 (n cap:Nat) (f:Nat->Int) (hf:∀ i,i<n->0<=f i/\f i<=255):ACall Pg lE [.vsl 1 n cap (aD f)] [] (fun v _=>((∃ P,rd n f= .ok P/\v= .tup [ptA P,.int .i64 0])\/(∃ e,e ≠ 0/\rd n f= .error e/\v= .tup [noPt,.int .i64 e]))/\Flat true v):=by
 have no:∀ e:Int,Flat true (.tup [noPt,.int .i64 e]):=fun e=> .tup _ (.cons _ _ (uQ true) (.cons _ _ (.int _ _) .nil))
 refine B_curve_Read ⟨rfl,?_⟩
 by_cases h1:n=1
 · subst h1
   conv=>whnf
   repeat (refine⟨⟨[],rfl⟩,?_⟩;conv=>whnf)
   refine aA (fun h=> ?_) (fun h=> ?_)
   · have h:f 0=0:=by simpa using h
     conv=>whnf
     repeat (refine⟨⟨[],rfl⟩,?_⟩;conv=>whnf)
     refine⟨.inl ⟨.inf,rd_inf ⟨rfl,h⟩,rfl⟩,.tup _ (.cons _ _ (cG (P:= .inf)) (.cons _ _ (.int _ _) .nil))⟩
   · have h:f 0 ≠ 0:=by simpa using h
     conv=>whnf
     repeat (refine⟨⟨[],rfl⟩,?_⟩;conv=>whnf)
     exact⟨.inr ⟨7,by decide,rd_7 (fun x=>h x.2) (by omega),rfl⟩,no 7⟩
 by_cases h33:n=33
 · subst h33
   have hf0:0<=f 0/\f 0<=255:=hf 0 (by decide)
   have bad:¬ f 0=2->¬ f 0=3->rd 33 f= .error 7:=fun a b=>rd_7 (by omega) (fun h=>h.2.elim a b)
   have ok:∀ {X y:Fp},Flat true (.tup [ptA (.aff X y),.int .i64 0]):=fun {X y}=> .tup _ (.cons _ _ cG (.cons _ _ (.int _ _) .nil))
   have key:f 0=2\/f 0=3\/(f 0 ≠ 2/\f 0 ≠ 3):=by omega
   rcases key with h2 | h2 | ⟨hn2,hn3⟩
   rotate_left 2
   · conv=>whnf
     repeat (refine⟨⟨[],rfl⟩,?_⟩;conv=>whnf)
     refine aA (fun h=> ?_) (fun h=>absurd (by simpa using h) hn2)
     conv=>whnf
     repeat (refine⟨⟨[],rfl⟩,?_⟩;conv=>whnf)
     refine aA (fun h=> ?_) (fun h=>absurd (by simpa using h) hn3)
     conv=>whnf
     repeat (refine⟨⟨[],rfl⟩,?_⟩;conv=>whnf)
     exact⟨.inr ⟨7,by decide,bad hn2 hn3,rfl⟩,no 7⟩
   · have h23:f 0=2\/f 0=3:= .inl h2
     conv=>whnf
     repeat (refine⟨⟨[],rfl⟩,?_⟩;conv=>whnf)
     refine aA (fun h=>absurd h2 (by simpa using h)) (fun h=> ?_)
     conv=>whnf
     repeat (refine⟨⟨[],rfl⟩,?_⟩;conv=>whnf)
     refine S_FRead (f:=fun i=>f (i+1)) (fun i hi=>hf _ (by omega)) (fun X hX=> ?_) (fun hX=> ?_)
     · conv=>whnf
       repeat (refine⟨⟨[],rfl⟩,?_⟩;conv=>whnf)
       refine S_right (x:=X) (fun c hc=> ?_)
       conv=>whnf
       repeat (refine⟨⟨[],rfl⟩,?_⟩;conv=>whnf)
       refine S_Root (a:=c) (fun y hy hs=> ?_) (fun hs=> ?_)
       · conv=>whnf
         repeat (refine⟨⟨[],rfl⟩,?_⟩;conv=>whnf)
         refine aA (fun h3=> ?_) (fun h3=> ?_)
         · have h3:f 0=3:=by simpa using h3
           omega
         · conv=>whnf
           repeat (refine⟨⟨[],rfl⟩,?_⟩;conv=>whnf)
           refine⟨.inl ⟨.aff X y,?_,rfl⟩,ok (X:=X) (y:=y)⟩
           rw [rd_ok ⟨rfl,h23⟩ hX (hc ▸ hs),if_neg (by omega),<- hc,hy]
       · conv=>whnf
         repeat (refine⟨⟨[],rfl⟩,?_⟩;conv=>whnf)
         exact⟨.inr ⟨3,by decide,rd_3 ⟨rfl,h23⟩ hX (hc ▸ hs),rfl⟩,no 3⟩
     · conv=>whnf
       repeat (refine⟨⟨[],rfl⟩,?_⟩;conv=>whnf)
       exact⟨.inr ⟨2,by decide,rd_2 ⟨rfl,h23⟩ hX,rfl⟩,no 2⟩
   · have h23:f 0=2\/f 0=3:= .inr h2
     conv=>whnf
     repeat (refine⟨⟨[],rfl⟩,?_⟩;conv=>whnf)
     refine aA (fun h=> ?_) (fun h=>absurd (show f 0=2 by simpa using h) (by omega))
     conv=>whnf
     repeat (refine⟨⟨[],rfl⟩,?_⟩;conv=>whnf)
     refine aA (fun h=>absurd h2 (by simpa using h)) (fun h=> ?_)
     conv=>whnf
     repeat (refine⟨⟨[],rfl⟩,?_⟩;conv=>whnf)
     refine S_FRead (f:=fun i=>f (i+1)) (fun i hi=>hf _ (by omega)) (fun X hX=> ?_) (fun hX=> ?_)
     · conv=>whnf
       repeat (refine⟨⟨[],rfl⟩,?_⟩;conv=>whnf)
       refine S_right (x:=X) (fun c hc=> ?_)
       conv=>whnf
       repeat (refine⟨⟨[],rfl⟩,?_⟩;conv=>whnf)
       refine S_Root (a:=c) (fun y hy hs=> ?_) (fun hs=> ?_)
       · conv=>whnf
         repeat (refine⟨⟨[],rfl⟩,?_⟩;conv=>whnf)
         refine aA (fun h3=> ?_) (fun h3=>absurd h2 (by simpa using h3))
         conv=>whnf
         repeat (refine⟨⟨[],rfl⟩,?_⟩;conv=>whnf)
         refine qT (x:=0) (y:=y) (fun z hz=> ?_)
         conv=>whnf
         repeat (refine⟨⟨[],rfl⟩,?_⟩;conv=>whnf)
         refine⟨.inl ⟨.aff X z,?_,rfl⟩,ok (X:=X) (y:=z)⟩
         rw [rd_ok ⟨rfl,h23⟩ hX (hc ▸ hs),if_pos h2,<- hc,hz,hy,mM]
       · conv=>whnf
         repeat (refine⟨⟨[],rfl⟩,?_⟩;conv=>whnf)
         exact⟨.inr ⟨3,by decide,rd_3 ⟨rfl,h23⟩ hX (hc ▸ hs),rfl⟩,no 3⟩
     · conv=>whnf
       repeat (refine⟨⟨[],rfl⟩,?_⟩;conv=>whnf)
       exact⟨.inr ⟨2,by decide,rd_2 ⟨rfl,h23⟩ hX,rfl⟩,no 2⟩
 · conv=>whnf
   repeat (refine⟨⟨[],rfl⟩,?_⟩;conv=>whnf)
   refine aA (fun h=>by exfalso;simp at h;omega) (fun h=> ?_)
   conv=>whnf
   repeat (refine⟨⟨[],rfl⟩,?_⟩;conv=>whnf)
   refine aA (fun h=>by exfalso;simp at h;omega) (fun h=> ?_)
   conv=>whnf
   repeat (refine⟨⟨[],rfl⟩,?_⟩;conv=>whnf)
   exact⟨.inr ⟨7,by decide,rd_7 (fun h=>h1 h.1) (fun h=>h33 h.1),rfl⟩,no 7⟩
theorem S_Read {m:Mem} {K:AV->Mem->Prop} {x:AV} {n:Nat} {f:Nat->Int} (hx:aO m x n f) (hf:∀ i,i<n->0<=f i/\f i<=255) (h1:∀ P,On P->rd n f= .ok P->K (.tup [ptA P,.int .i64 0]) m) (h2:∀ e,e ≠ 0->rd n f= .error e->K (.tup [noPt,.int .i64 e]) m):ACall Pg lE [x] m K:=by
 obtain⟨c,hl⟩:=hx
 refine aC (S_Read0 n c f hf) (.cons _ _ _ _ hl .nil) ?_
 rintro v (⟨P,hP,rfl⟩ | ⟨e,h0,he,rfl⟩)
 · exact h1 P (pb_rd hf hP).1 hP
 · exact h2 e h0 he
theorem S_RdPoint0 (n cap:Nat) (f:Nat->Int) (hf:∀ i,i<n->0<=f i/\f i<=255):ACall Pg dI [.vsl 1 n cap (aD f)] [] (fun v _=>((∃ P,rd n f= .ok P/\v= .tup [ptA P,.int .i64 0])\/(∃ e,e ≠ 0/\rd n f= .error e/\v= .tup [noPt,.int .i64 e]))/\Flat true v):=by
 have no:∀ e:Int,Flat true (.tup [noPt,.int .i64 e]):=fun e=> .tup _ (.cons _ _ (uQ true) (.cons _ _ (.int _ _) .nil))
 have ok:∀ {P},Flat true (.tup [ptA P,.int .i64 0]):=fun {P}=> .tup _ (.cons _ _ cG (.cons _ _ (.int _ _) .nil))
 refine nM ⟨rfl,?_⟩
 by_cases h1:n=1
 · subst h1
   conv=>whnf
   repeat (refine⟨⟨[],rfl⟩,?_⟩;conv=>whnf)
   refine aA (fun h=> ?_) (fun h=> ?_)
   · have h:f 0=0:=by simpa using h
     conv=>whnf
     repeat (refine⟨⟨[],rfl⟩,?_⟩;conv=>whnf)
     refine S_rInf ?_
     conv=>whnf
     repeat (refine⟨⟨[],rfl⟩,?_⟩;conv=>whnf)
     refine⟨.inl ⟨.inf,rd_inf ⟨rfl,h⟩,rfl⟩,ok (P:= .inf)⟩
   · have h:f 0 ≠ 0:=by simpa using h
     conv=>whnf
     repeat (refine⟨⟨[],rfl⟩,?_⟩;conv=>whnf)
     exact⟨.inr ⟨7,by decide,rd_7 (fun x=>h x.2) (by omega),rfl⟩,no 7⟩
 by_cases h33:n=33
 · subst h33
   have hf0:0<=f 0/\f 0<=255:=hf 0 (by decide)
   have bad:¬ f 0=2->¬ f 0=3->rd 33 f= .error 7:=fun a b=>rd_7 (by omega) (fun h=>h.2.elim a b)
   have key:f 0=2\/f 0=3\/(f 0 ≠ 2/\f 0 ≠ 3):=by omega
   rcases key with h2 | h2 | ⟨hn2,hn3⟩
   rotate_left 2
   · conv=>whnf
     repeat (refine⟨⟨[],rfl⟩,?_⟩;conv=>whnf)
     refine aA (fun h=> ?_) (fun h=>absurd (by simpa using h) hn2)
     conv=>whnf
     repeat (refine⟨⟨[],rfl⟩,?_⟩;conv=>whnf)
     refine aA (fun h=> ?_) (fun h=>absurd (by simpa using h) hn3)
     conv=>whnf
     repeat (refine⟨⟨[],rfl⟩,?_⟩;conv=>whnf)
     exact⟨.inr ⟨7,by decide,bad hn2 hn3,rfl⟩,no 7⟩
   · have h23:f 0=2\/f 0=3:= .inl h2
     conv=>whnf
     repeat (refine⟨⟨[],rfl⟩,?_⟩;conv=>whnf)
     refine aA (fun h=>absurd h2 (by simpa using h)) (fun h=> ?_)
     conv=>whnf
     repeat (refine⟨⟨[],rfl⟩,?_⟩;conv=>whnf)
     refine S_ROf (f:=fun i=>f (i+1)) (fun i hi=>hf _ (by omega)) (fun x hx hx1=> ?_)
     conv=>whnf
     repeat (refine⟨⟨[],rfl⟩,?_⟩;conv=>whnf)
     refine jF (fun p hp=> ?_)
     conv=>whnf
     repeat (refine⟨⟨[],rfl⟩,?_⟩;conv=>whnf)
     refine S_RCmp hx1 (by rw [hp];decide) (fun r hr=> ?_)
     conv=>whnf
     repeat (refine⟨⟨[],rfl⟩,?_⟩;conv=>whnf)
     rcases rD hr with⟨g1,rfl⟩ | ⟨g1,rfl | rfl⟩
     rotate_left
     · conv=>whnf
       repeat (refine⟨⟨[],rfl⟩,?_⟩;conv=>whnf)
       exact⟨.inr ⟨2,by decide,rd_2 ⟨rfl,h23⟩ (by omega),rfl⟩,no 2⟩
     · conv=>whnf
       repeat (refine⟨⟨[],rfl⟩,?_⟩;conv=>whnf)
       exact⟨.inr ⟨2,by decide,rd_2 ⟨rfl,h23⟩ (by omega),rfl⟩,no 2⟩
     obtain⟨X,rfl⟩ :∃ X:Fp,x=X.val:=⟨⟨x,by omega⟩,rfl⟩
     have hX:=hx.symm
     conv=>whnf
     repeat (refine⟨⟨[],rfl⟩,?_⟩;conv=>whnf)
     refine dB (x:=X) (y:=X) (fun xx hxx=> ?_)
     conv=>whnf
     repeat (refine⟨⟨[],rfl⟩,?_⟩;conv=>whnf)
     refine dB (x:=xx) (y:=X) (fun x3 hx3=> ?_)
     conv=>whnf
     repeat (refine⟨⟨[],rfl⟩,?_⟩;conv=>whnf)
     refine mD (x:=x3) (y:=7) (fun c hc=> ?_)
     conv=>whnf
     repeat (refine⟨⟨[],rfl⟩,?_⟩;conv=>whnf)
     subst hxx hx3
     refine S_RRoot (a:=c) (fun y hy hs=> ?_) (fun hs=> ?_)
     · conv=>whnf
       repeat (refine⟨⟨[],rfl⟩,?_⟩;conv=>whnf)
       refine aA (fun h3=> ?_) (fun h3=> ?_)
       · have h3:f 0=3:=by simpa using h3
         omega
       · conv=>whnf
         repeat (refine⟨⟨[],rfl⟩,?_⟩;conv=>whnf)
         refine⟨.inl ⟨.aff X y,?_,rfl⟩,ok (P:= .aff X y)⟩
         rw [rd_ok ⟨rfl,h23⟩ hX (hc ▸ hs),if_neg (by omega),<- hc,hy]
     · conv=>whnf
       repeat (refine⟨⟨[],rfl⟩,?_⟩;conv=>whnf)
       exact⟨.inr ⟨3,by decide,rd_3 ⟨rfl,h23⟩ hX (hc ▸ hs),rfl⟩,no 3⟩
   · have h23:f 0=2\/f 0=3:= .inr h2
     conv=>whnf
     repeat (refine⟨⟨[],rfl⟩,?_⟩;conv=>whnf)
     refine aA (fun h=> ?_) (fun h=>absurd (show f 0=2 by simpa using h) (by omega))
     conv=>whnf
     repeat (refine⟨⟨[],rfl⟩,?_⟩;conv=>whnf)
     refine aA (fun h=>absurd h2 (by simpa using h)) (fun h=> ?_)
     conv=>whnf
     repeat (refine⟨⟨[],rfl⟩,?_⟩;conv=>whnf)
     refine S_ROf (f:=fun i=>f (i+1)) (fun i hi=>hf _ (by omega)) (fun x hx hx1=> ?_)
     conv=>whnf
     repeat (refine⟨⟨[],rfl⟩,?_⟩;conv=>whnf)
     refine jF (fun p hp=> ?_)
     conv=>whnf
     repeat (refine⟨⟨[],rfl⟩,?_⟩;conv=>whnf)
     refine S_RCmp hx1 (by rw [hp];decide) (fun r hr=> ?_)
     conv=>whnf
     repeat (refine⟨⟨[],rfl⟩,?_⟩;conv=>whnf)
     rcases rD hr with⟨g1,rfl⟩ | ⟨g1,rfl | rfl⟩
     rotate_left
     · conv=>whnf
       repeat (refine⟨⟨[],rfl⟩,?_⟩;conv=>whnf)
       exact⟨.inr ⟨2,by decide,rd_2 ⟨rfl,h23⟩ (by omega),rfl⟩,no 2⟩
     · conv=>whnf
       repeat (refine⟨⟨[],rfl⟩,?_⟩;conv=>whnf)
       exact⟨.inr ⟨2,by decide,rd_2 ⟨rfl,h23⟩ (by omega),rfl⟩,no 2⟩
     obtain⟨X,rfl⟩ :∃ X:Fp,x=X.val:=⟨⟨x,by omega⟩,rfl⟩
     have hX:=hx.symm
     conv=>whnf
     repeat (refine⟨⟨[],rfl⟩,?_⟩;conv=>whnf)
     refine dB (x:=X) (y:=X) (fun xx hxx=> ?_)
     conv=>whnf
     repeat (refine⟨⟨[],rfl⟩,?_⟩;conv=>whnf)
     refine dB (x:=xx) (y:=X) (fun x3 hx3=> ?_)
     conv=>whnf
     repeat (refine⟨⟨[],rfl⟩,?_⟩;conv=>whnf)
     refine mD (x:=x3) (y:=7) (fun c hc=> ?_)
     conv=>whnf
     repeat (refine⟨⟨[],rfl⟩,?_⟩;conv=>whnf)
     subst hxx hx3
     refine S_RRoot (a:=c) (fun y hy hs=> ?_) (fun hs=> ?_)
     · conv=>whnf
       repeat (refine⟨⟨[],rfl⟩,?_⟩;conv=>whnf)
       refine aA (fun h3=> ?_) (fun h3=>absurd h2 (by simpa using h3))
       conv=>whnf
       repeat (refine⟨⟨[],rfl⟩,?_⟩;conv=>whnf)
       refine nF (x:=0) (y:=y) (fun z hz=> ?_)
       conv=>whnf
       repeat (refine⟨⟨[],rfl⟩,?_⟩;conv=>whnf)
       refine⟨.inl ⟨.aff X z,?_,rfl⟩,ok (P:= .aff X z)⟩
       rw [rd_ok ⟨rfl,h23⟩ hX (hc ▸ hs),if_pos h2,<- hc,hz,hy,mM]
     · conv=>whnf
       repeat (refine⟨⟨[],rfl⟩,?_⟩;conv=>whnf)
       exact⟨.inr ⟨3,by decide,rd_3 ⟨rfl,h23⟩ hX (hc ▸ hs),rfl⟩,no 3⟩
 · conv=>whnf
   repeat (refine⟨⟨[],rfl⟩,?_⟩;conv=>whnf)
   refine aA (fun h=>by exfalso;simp at h;omega) (fun h=> ?_)
   conv=>whnf
   repeat (refine⟨⟨[],rfl⟩,?_⟩;conv=>whnf)
   refine aA (fun h=>by exfalso;simp at h;omega) (fun h=> ?_)
   conv=>whnf
   repeat (refine⟨⟨[],rfl⟩,?_⟩;conv=>whnf)
   exact⟨.inr ⟨7,by decide,rd_7 (fun h=>h1 h.1) (fun h=>h33 h.1),rfl⟩,no 7⟩
theorem S_RdPoint {m:Mem} {K:AV->Mem->Prop} {x:AV} {n:Nat} {f:Nat->Int} (hx:aO m x n f) (hf:∀ i,i<n->0<=f i/\f i<=255) (h1:∀ P,On P->rd n f= .ok P->K (.tup [ptA P,.int .i64 0]) m) (h2:∀ e,e ≠ 0->rd n f= .error e->K (.tup [noPt,.int .i64 e]) m):ACall Pg dI [x] m K:=by
 obtain⟨c,hl⟩:=hx
 refine aC (S_RdPoint0 n c f hf) (.cons _ _ _ _ hl .nil) ?_
 rintro v (⟨P,hP,rfl⟩ | ⟨e,h0,he,rfl⟩)
 · exact h1 P (pb_rd hf hP).1 hP
 · exact h2 e h0 he
end Go.Proofs.YtfolpdmbpbbimaaGreat
end

section
namespace Go.Proofs.YtfolpdmbpbbimaaGreat
open Go Go.Wit
def rotI (x k:Int):Int:=bY .or .u32 (IntKind.u32.wrap (x*2 ^ (min (bY .and .u64 (IntKind.u64.wrap k) 31).toNat IntKind.u32.bits))) (x.fdiv (2 ^ (min (IntKind.u64.wrap (32 - bY .and .u64 (IntKind.u64.wrap k) 31)).toNat IntKind.u32.bits)))
theorem S_rot {m:Mem} {K:AV->Mem->Prop} (x k:Int) (h:K (.int .u32 (rotI x k)) m):ACall Pg aS [.int .u32 x,.int .i64 k] m K:=by
 refine rM ⟨rfl,?_⟩
 conv=>whnf
 have h0:0<=bY .and .u64 (IntKind.u64.wrap k) 31:=by
  show 0<=IntKind.u64.wrap _
  rw [wu64];omega
 have h1:0<=IntKind.u64.wrap (32 - bY .and .u64 (IntKind.u64.wrap k) 31):=by rw [wu64];omega
 refine aE (by simpa using h1) ?_
 conv=>whnf
 exact h
theorem lM {m:Mem} {K:AV->Mem->Prop} (x k:Int) (h:K (.int .u32 (rotI x (IntKind.i64.wrap (0 - k)))) m):ACall Pg bB [.int .u32 x,.int .i64 k] m K:=by
 refine tD ⟨rfl,?_⟩
 conv=>whnf
 refine S_rot _ _ ?_
 conv=>whnf
 exact h
theorem catW {nv:Bool} {σ:Nat->Option Nat} {N k:Nat} {g g':Nat->Int} {h:Nat->Nat->AV} {A B:AV} {i j:Nat} (hA:A=catG N (aD g) h i j) (hB:B=aD g' i j) (h1:∀ i,i<N->g' i=g i) (h2:∀ i,i<k->h i 0= .int .u8 (g' (N+i))) (hi:i<N+k) (hj:j<1):
 RV nv σ A B:=by
 subst hA hB
 obtain rfl:j=0:=by omega
 by_cases hN:i<N
 · have:catG N (aD g) h i 0=aD g' i 0:=by rw [iE hN];simp only [aD,h1 i hN]
   rw [this];exact .eq _ _ rfl (.int _ _)
 · have:catG N (aD g) h i 0=aD g' i 0:=by
    rw [dA (by omega),h2 _ (by omega)]
    simp only [aD]
    congr 2;omega
   rw [this];exact .eq _ _ rfl (.int _ _)
theorem or_byteU {a b:Int} (ha:0<=a/\a<72057594037927936) (hb:0<=b/\b<=255):bY .or .u64 (a*256) b=a*256+b:=by
 obtain⟨A,rfl⟩ :∃ A:Nat,a=A:=⟨a.toNat,by omega⟩
 obtain⟨B,rfl⟩ :∃ B:Nat,b=B:=⟨b.toNat,by omega⟩
 have h1:BitVec.ofInt 64 ((A:Int)*256)=BitVec.ofNat 64 (256*A):=by
  rw [show ((A:Int)*256)=((256*A:Nat):Int) by omega,BitVec.ofInt_natCast]
 have h2:BitVec.ofInt 64 (B:Int)=BitVec.ofNat 64 B:=BitVec.ofInt_natCast _ _
 show IntKind.u64.wrap ((BitVec.ofInt 64 ((A:Int)*256) ||| BitVec.ofInt 64 (B:Int)).toNat)=_
 rw [h1,h2,BitVec.toNat_or,BitVec.toNat_ofNat,BitVec.toNat_ofNat,Nat.mod_eq_of_lt (by omega),Nat.mod_eq_of_lt (by omega)]
 have h3:=Nat.two_pow_add_eq_or_of_lt (i:=8) (b:=B) (by omega) A
 rw [show (256:Nat)=2 ^ 8 from rfl,<- h3,wu64]
 omega
theorem S_high0 (n cap:Nat) (f:Nat->Int) (hn:n<=7) (hf:∀ i,i<n->0<=f i/\f i<=255):ACall Pg qI [.vsl 1 n cap (aD f)] [] (fun v _=>v= .int .u64 (getV f 0 n)/\Flat true v):=by
 refine B_sha_high ⟨rfl,?_⟩
 conv=>whnf
 refine bE aI (I:=fun q l m=>∃ (k:Nat),l= [(3,.int .u64 (getV f 0 k)),(6,.vsl 1 n cap (aD f)),(7,.int .i64 n),(8,.int .i64 k)] /\ m= [] /\ q+k=n) n
  (l0:= [(3,.int .u64 0),(6,.vsl 1 n cap (aD f)),(7,.int .i64 n),(8,.int .i64 (0:Nat))]) (m0:= []) [] ⟨0,rfl,rfl,rfl⟩ ?_ ?_
 · exact .mk0 ⟨Flat.i rfl,.eq _ _ rfl (.vsl _ _ _ _ rfl (fun _ _ _ _=> .int _ _)),Flat.i rfl,Flat.i rfl,trivial⟩ trivial rfl rfl
 · rintro q l m ⟨k,rfl,rfl,hq⟩
   conv=>whnf
   refine aA (fun hb=> ?_) (fun hb=> ?_)
   · have hb:k<n:=by simpa using hb
     conv=>whnf
     refine aE (by simp;omega) ?_
     conv=>whnf
     obtain⟨g1,g2⟩:=getV_lt (f:=f) (p:=0) (k:=k) (fun i hi=>hf i (by omega))
     have g3:(256:Int) ^ k<=256 ^ 6:=by
      have:256 ^ k<=256 ^ 6:=Nat.pow_le_pow_right (by omega) (by omega)
      exact_mod_cast this
     have g4:=hf k (by omega)
     rw [w64 (n:=(k:Int)+1) (by omega) (by omega),show min (Int.toNat 8) IntKind.u64.bits=8 from rfl,Int.toNat_natCast,
      show IntKind.u64.wrap (f k)=f k by rw [wu64];omega,show IntKind.u64.wrap (getV f 0 k*2 ^ 8)=getV f 0 k*256 by rw [wu64];omega]
     refine⟨q - 1,[(3,.int .u64 (getV f 0 (k+1))),(6,.vsl 1 n cap (aD f)),(7,.int .i64 n),(8,.int .i64 ((k+1:Nat):Int))],[],[],by omega,⟨k+1,rfl,rfl,by omega⟩,?_⟩
     exact .mk0 ⟨Flat.i (by rw [or_byteU (by omega) g4,getV,Nat.zero_add]),.eq _ _ rfl (.vsl _ _ _ _ rfl (fun _ _ _ _=> .int _ _)),Flat.i rfl,Flat.i (by omega),trivial⟩ trivial rfl rfl
   · have hb:k=n:=by simp at hb;omega
     subst hb
     conv=>whnf
     exact⟨rfl,.int _ _⟩
theorem S_high {m:Mem} {x:AV} {n:Nat} {f:Nat->Int} {K:AV->Mem->Prop} (hx:aO m x n f) (hn:n<=7) (hf:∀ i,i<n->0<=f i/\f i<=255) (h:K (.int .u64 (getV f 0 n)) m):ACall Pg qI [x] m K:=by
 obtain⟨cap,hl⟩:=hx
 refine aC (S_high0 n cap f hn hf) (.cons _ _ _ _ hl .nil) ?_
 rintro v rfl
 exact h
def padN (n:Nat):Nat:=(n+72) / 64*64
def padF (n:Nat) (f:Nat->Int) (i:Nat):Int:=if i<n then f i else if i=n then 128 else if i<padN n - 8 then 0 else ((8*n:Nat):Int) / 2 ^ (8*(padN n - 1 - i)) % 256
theorem padF_lt {n:Nat} {f:Nat->Int} (hf:∀ i,i<n->0<=f i/\f i<=255) (i:Nat):0<=padF n f i/\padF n f i<=255:=by
 unfold padF
 split
 · rename_i h;exact hf i h
 · split
   · omega
   · split <;> omega
theorem padN_ge (n:Nat):n+9<=padN n/\padN n % 64=0/\padN n<=n+72:=by unfold padN;omega
theorem yS (a b:Nat):((a:Int).tmod (b:Int))=((a % b:Nat):Int):=by rw [Int.tmod_eq_emod_of_nonneg (by omega)];simp
theorem S_padded0 (n cap:Nat) (f:Nat->Int) (hn:n<=1000000):ACall Pg kY [.vsl 1 n cap (aD f)] [] (fun v m'=>∃ n' f',(n'=padN n/\f'=padF n f)/\RetB n' f' v m'):=by
 obtain⟨p1,p2,p3⟩:=padN_ge n
 refine B_sha_padded ⟨rfl,?_⟩
 conv=>whnf
 refine aE (eQ rfl rfl rfl (by omega) (by omega)) (fun cap1 hcap1=> ?_)
 conv=>whnf
 refine aE (eQ (by simp) rfl rfl (by omega) (by omega)) (fun cap2 hcap2=> ?_)
 conv=>whnf
 simp only [Nat.zero_add]
 refine bE aI (I:=fun q l m=>∃ (N c:Nat) (g:Nat->Int),l= [(0,.vsl 1 n cap (aD f)),(3,.sl 0 0 N c)] /\ m= [some ⟨1,N,aD g⟩] /\ q+N=padN n - 8/\n+1<=N/\∀ j,j<N->g j=padF n f j) (padN n - 8 - (n+1))
  (l0:= [(0,.vsl 1 n cap (aD f)),(3,.sl 0 0 (n+1) cap2)]) (m0:= [some ⟨1,n+1,aD (padF n f)⟩]) [some 3] ⟨n+1,cap2,_,rfl,rfl,by omega,by omega,fun j hj=>rfl⟩ ?_ ?_
 · refine .mk0 ⟨.eq _ _ rfl (.vsl _ _ _ _ rfl (fun _ _ _ _=> .int _ _)),.sl _ _ _ _ _ rfl,trivial⟩ ⟨.old 0 3 _ _ rfl rfl ⟨rfl,Nat.le_refl _,fun i j hi hj=> ?_⟩,trivial⟩ rfl rfl
   have hj:j<1:=hj
   have hi:i<n+1:=hi
   refine .eq _ _ ?_ ?_ <;> (obtain rfl:j=0:=by omega) <;> dsimp only
   · by_cases h:i<n
     · rw [iE h]
       have:catG 0 (fun i j=>(reps [AV.int IntKind.u8 0] 0).getD (i*1+j) AV.un) (aD f) i 0=aD f i 0:=by rw [dA (by omega)];rfl
       refine Eq.trans this ?_
       simp only [aD,padF,if_pos h]
     · obtain rfl:i=n:=by omega
       rw [dA (by omega)]
       simp only [aD,padF,if_neg h,if_pos trivial,Nat.sub_self]
       rfl
   · by_cases h:i<n
     · rw [iE h]
       have:catG 0 (fun i j=>(reps [AV.int IntKind.u8 0] 0).getD (i*1+j) AV.un) (aD f) i 0=aD f i 0:=by rw [dA (by omega)];rfl
       exact(show Flat false (catG 0 (fun i j=>(reps [AV.int IntKind.u8 0] 0).getD (i*1+j) AV.un) (aD f) i 0)from this ▸ .int _ _)
     · obtain rfl:i=n:=by omega
       rw [dA (by omega),Nat.sub_self]
       exact .int _ _
 · rintro q l m ⟨N,c,g,rfl,rfl,hq,hN,hg⟩
   conv=>whnf
   rw [show ((N:Int).tmod 64)=((N % 64:Nat):Int)from yS N 64]
   refine aA (fun hb=> ?_) (fun hb=> ?_)
   · have hb:N<padN n - 8:=by
      simp at hb
      rcases Nat.lt_or_ge N (padN n - 8)with h | h
      · exact h
      · have:N=padN n - 8:=by omega
        omega
     conv=>whnf
     refine aE (eQ (by simp) rfl rfl (by omega) (by omega)) (fun cap' hcap=> ?_)
     conv=>whnf
     refine⟨q - 1,[(0,.vsl 1 n cap (aD f)),(3,.sl 0 0 (N+1) cap')],[some ⟨1,N+1,aD (fun j=>if j<N then g j else 0)⟩],[some 2],by omega,⟨N+1,cap',_,rfl,rfl,by omega,by omega,fun j hj=> ?_⟩,?_⟩
     · by_cases h:j<N
       · simp only [if_pos h];exact hg j h
       · simp only [if_neg h]
         rw [padF,if_neg (by omega),if_neg (by omega),if_pos (by omega)]
     · refine .mk0 ⟨.eq _ _ rfl (.vsl _ _ _ _ rfl (fun _ _ _ _=> .int _ _)),.sl _ _ _ _ _ rfl,trivial⟩ ⟨.old 0 2 _ _ rfl rfl ⟨rfl,Nat.le_refl _,fun i j hi hj=> ?_⟩,trivial⟩ rfl rfl
       dsimp only
       refine catW (N:=N) (k:=1) (g:=g) (g':=fun j=>if j<N then g j else 0) rfl rfl (fun i hi=>if_pos hi) (fun i hi=> ?_) hi hj
       obtain rfl:i=0:=by omega
       simp only [Nat.add_zero,if_neg (Nat.lt_irrefl N)];rfl
   · have hb:N=padN n - 8:=by
      simp at hb
      omega
     conv=>whnf
     rw [show IntKind.u64.wrap (IntKind.u64.wrap (n:Int)*2 ^ min (Int.toNat 3) IntKind.u64.bits)=((8*n:Nat):Int) by
      rw [wu64,wu64,show min (Int.toNat 3) IntKind.u64.bits=3 from rfl];omega]
     refine bE aI (I:=fun q l m=>∃ (k:Int) (N c:Nat) (g:Nat->Int),l= [(0,.vsl 1 n cap (aD f)),(3,.sl 0 0 N c),(4,.int .u64 ((8*n:Nat):Int)),(5,.int .i64 k)] /\ m= [some ⟨1,N,aD g⟩] /\ (q:Int)=k+1/\ -1<=k/\k<=7/\(N:Int)=padN n - 1 - k/\∀ j,j<N->g j=padF n f j) 8
      (l0:= [(0,.vsl 1 n cap (aD f)),(3,.sl 0 0 N c),(4,.int .u64 ((8*n:Nat):Int)),(5,.int .i64 7)]) (m0:= [some ⟨1,N,aD g⟩]) [some 0] ⟨7,N,c,g,rfl,rfl,by omega,by omega,by omega,by omega,hg⟩ ?_ ?_
     · refine .mk0 ⟨.eq _ _ rfl (.vsl _ _ _ _ rfl (fun _ _ _ _=> .int _ _)),.sl _ _ _ _ _ rfl,Flat.i rfl,Flat.i rfl,trivial⟩ ⟨.old 0 0 _ _ rfl rfl ⟨rfl,Nat.le_refl _,fun i j hi hj=> .eq _ _ rfl (.int _ _)⟩,trivial⟩ rfl rfl
     · clear hb hq hN hg
       rintro q l m ⟨k,N,c,g,rfl,rfl,hq,hk1,hk2,hN,hg⟩
       conv=>whnf
       refine aA (fun hb=> ?_) (fun hb=> ?_)
       · have hb:0<=k:=by simpa using hb
         conv=>whnf
         rw [w64 (n:=8*k) (by omega) (by omega)]
         refine aE (decide_eq_true (by omega)) ?_
         conv=>whnf
         refine aE (eQ (by simp) rfl rfl (by omega) (by omega)) (fun cap' hcap=> ?_)
         conv=>whnf
         rw [w64 (n:=k - 1) (by omega) (by omega)]
         refine⟨q - 1,[(0,.vsl 1 n cap (aD f)),(3,.sl 0 0 (N+1) cap'),(4,.int .u64 ((8*n:Nat):Int)),(5,.int .i64 (k - 1))],[some ⟨1,N+1,aD (padF n f)⟩],[some 2],by omega,⟨k - 1,N+1,cap',_,rfl,rfl,by omega,by omega,by omega,by omega,fun j hj=>rfl⟩,?_⟩
         refine .mk0 ⟨.eq _ _ rfl (.vsl _ _ _ _ rfl (fun _ _ _ _=> .int _ _)),.sl _ _ _ _ _ rfl,Flat.i rfl,Flat.i rfl,trivial⟩ ⟨.old 0 2 _ _ rfl rfl ⟨rfl,Nat.le_refl _,fun i j hi hj=> ?_⟩,trivial⟩ rfl rfl
         dsimp only
         refine catW (N:=N) (k:=1) (g:=g) (g':=padF n f) rfl rfl (fun i hi=>(hg i hi).symm) (fun i hi=> ?_) hi hj
         obtain rfl:i=0:=by omega
         have e:IntKind.u8.wrap (((8*n:Nat):Int).fdiv (2 ^ min (8*k).toNat IntKind.u64.bits))=padF n f (N+0):=by
          rw [IntKind.wrap_u8,Int.fdiv_eq_ediv_of_nonneg _ (Int.pow_nonneg (by omega)),padF,if_neg (by omega),if_neg (by omega),if_neg (by omega)]
          rw [show min (8*k).toNat IntKind.u64.bits=8*(padN n - 1 - (N+0)) by simp only [IntKind.bits];omega]
         rw [<- e];rfl
       · have hb:k= -1:=by simp at hb;omega
         conv=>whnf
         obtain rfl:N=padN n:=by omega
         exact⟨padN n,padF n f,⟨rfl,rfl⟩,.inr ⟨0,c,padN n,_,rfl,rfl,Nat.le_refl _,fun i hi=>by rw [<- hg i hi];rfl⟩⟩
theorem S_padded {m:Mem} {x:AV} {n:Nat} {f:Nat->Int} {K:AV->Mem->Prop} (hx:aO m x n f) (hn:n<=1000000) (hK:∀ cap,memK (m++ [some ⟨1,padN n,aD (padF n f)⟩]) (K (.sl m.length 0 (padN n) cap))):ACall Pg kY [x] m K:=by
 simp only [dL]at hK
 obtain⟨cap,hl⟩:=hx
 refine gA (S_padded0 n cap f hn) (.cons _ _ _ _ hl .nil) ?_
 rintro n' f' cap' ⟨rfl,rfl⟩
 exact hK cap'
end Go.Proofs.YtfolpdmbpbbimaaGreat
end

