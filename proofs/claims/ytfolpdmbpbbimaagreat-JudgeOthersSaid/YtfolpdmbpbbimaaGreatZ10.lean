/- Texts of a proof, one behind the other; the last of these: Dealers of an own block, made twice; no condition. -/
import Derived.Test.YtfolpdmbpbbimaaGreatZ9
set_option linter.unusedVariables false
set_option linter.unusedSimpArgs false
set_option maxRecDepth 100000
section
namespace Go.Proofs.YtfolpdmbpbbimaaGreat
open Go Go.Wit
def rowO (p q:Nat) (d:Dl) (cap1 cap2:Nat):List AV:=dlL d (.sl p 0 (0+d.ns) cap1) (.sl q 0 d.nc cap2)
theorem fz_e (p q:Nat) (D:Nat->Dl) (d1 d2 C1 C2:Nat->Nat) (k cap1 cap2 i j:Nat) (hi:i<k+1) (hj:j<26) (v:AV) (hv1:i=k->v=(rowO p q (D k) cap1 cap2).getD j .un) (hv2:i ≠ k->v=dlG D C1 C2 i j):
    FzV p ⟨32,0+(D k).ns,catG 0 (fun x x_1=>AV.un) (sealG (D k).S)⟩ v (if i=k/\j=14 then .sl q 0 (D k).nc cap2 else dlG D (fun i=>if i=k then cap1 else C1 i) C2 i j):=by
  by_cases hik:i=k
  · rw [hv1 hik]
    clear hv1 hv2
    subst hik
    by_cases h14:j=14
    · subst h14
      rw [if_pos ⟨rfl,rfl⟩];exact .inl rfl
    rw [if_neg (fun h=>h14 h.2)]
    by_cases h13:j=13
    · subst h13
      refine .inr (.inr ⟨0,0+(D i).ns,cap1,sealG (D i).S,rfl,?_,by show 0+(0+(D i).ns)<=0+(D i).ns;omega,fun a b _ _=> ?_⟩)
      · show AV.vsl 32 (D i).ns (if i=i then cap1 else C1 i) (sealG (D i).S)=_
        rw [if_pos rfl,Nat.zero_add]
      · show sealG (D i).S a b=catG 0 (fun x x_1=>AV.un) (sealG (D i).S) (0+a) b
        rw [catG_ge (by omega)];simp
    · refine .inl ?_
      revert h14 h13
      revert j
      refine fun j hj=>lt26 (P:=fun j=>j ≠ 14->j ≠ 13->(dlG D (fun m=>if m=i then cap1 else C1 m) C2 i j)=(rowO p q (D i) cap1 cap2).getD j .un) ?_ ?_ ?_ ?_ ?_ ?_ ?_ ?_ ?_ ?_ ?_ ?_ ?_ ?_ ?_ ?_ ?_ ?_ ?_ ?_ ?_ ?_ ?_ ?_ ?_ ?_ j hj
      all_goals (intro a b;first | rfl | exact absurd rfl a | exact absurd rfl b)
  · rw [hv2 hik,if_neg (fun h=>hik h.1)]
    refine .inl ?_
    unfold dlG;simp only [if_neg hik]
theorem fz_f (q:Nat) (D:Nat->Dl) (C1 C2:Nat->Nat) (k cap1 cap2 i j:Nat) (hi:i<k+1) (hj:j<26):
    FzV q ⟨9,(D k).nc,rawsG (D k).I (D k).X (D k).Y⟩ (if i=k/\j=14 then .sl q 0 (D k).nc cap2 else dlG D (fun i=>if i=k then cap1 else C1 i) C2 i j) (dlG D (fun i=>if i=k then cap1 else C1 i) (fun i=>if i=k then cap2 else C2 i) i j):=by
  by_cases hik:i=k
  · subst hik
    by_cases h14:j=14
    · subst h14
      rw [if_pos ⟨rfl,rfl⟩]
      refine .inr (.inr ⟨0,(D i).nc,cap2,rawsG (D i).I (D i).X (D i).Y,rfl,?_,by show 0+(D i).nc<=(D i).nc;omega,fun a b _ _=>by rw [Nat.zero_add]⟩)
      show AV.vsl 9 (D i).nc (if i=i then cap2 else C2 i) _=_
      rw [if_pos rfl]
    rw [if_neg (fun h=>h14 h.2)]
    refine .inl ?_
    revert h14
    revert j
    refine fun j hj=>lt26 (P:=fun j=>j ≠ 14->dlG D (fun m=>if m=i then cap1 else C1 m) (fun m=>if m=i then cap2 else C2 m) i j=dlG D (fun m=>if m=i then cap1 else C1 m) C2 i j) ?_ ?_ ?_ ?_ ?_ ?_ ?_ ?_ ?_ ?_ ?_ ?_ ?_ ?_ ?_ ?_ ?_ ?_ ?_ ?_ ?_ ?_ ?_ ?_ ?_ ?_ j hj
    all_goals (intro a;first | rfl | exact absurd rfl a)
  · rw [if_neg (fun h=>hik h.1)]
    refine .inl ?_
    unfold dlG;simp only [if_neg hik]
set_option maxHeartbeats 4000000 in
theorem S_TwinDealersO (r cap:Nat) (D:Nat->Dl) (d1 d2:Nat->Nat) (hr:r<=10) (hD:∀ k,k<r->(D k).ns<=20/\(D k).nc<=8):ACall Pg F_witankeep_TwinDealers [.sl 0 0 r cap] [some ⟨26,r,dlG D d1 d2⟩] (fun v m'=>m'[0]? = some (some ⟨26,r,dlG D d1 d2⟩)/\((v= .nils/\r=0)\/∃ l cap c1 c2,1<=l/\v= .sl l 0 r cap/\m'[l]? = some (some ⟨26,r,dlG D c1 c2⟩))):=by
  refine B_witankeep_TwinDealers ⟨rfl,?_⟩
  conv=>whnf
  repeat (refine⟨⟨_,rfl⟩,?_⟩;conv=>whnf)
  refine loop_fz mixed (I:=fun q l m=>∃ (k c':Nat) (C1 C2:Nat->Nat),l= [(0,.sl 0 0 r cap),(3,.sl 1 0 k c'),(4,.int .i64 k)] /\ m= [some ⟨26,r,dlG D d1 d2⟩,some ⟨26,k,dlG D C1 C2⟩] /\ q+k=r) r
    (l0:= [(0,.sl 0 0 r cap),(3,.sl 1 0 0 0),(4,.int .i64 (0:Nat))]) (m0:= [some ⟨26,r,dlG D d1 d2⟩,some ⟨26,0,dlG D (fun _=>0) (fun _=>0)⟩]) [some 0,none] ⟨0,0,_,_,rfl,rfl,rfl⟩ ?_ ?_
  · exact .mkN ⟨.sl _ _ _ _ _ rfl,.nils _ _,Flat.i rfl,trivial⟩ ⟨.old 0 0 _ _ rfl rfl ⟨rfl,Nat.le_refl _,fun i j hi hj=>RV.of rfl (by dsimp only;exact flat_dlG)⟩,.ph _ _ _ rfl,trivial⟩ rfl rfl rfl
  · rintro q l m ⟨k,c',C1,C2,rfl,rfl,hq⟩
    conv=>whnf
    repeat (refine⟨⟨_,rfl⟩,?_⟩;conv=>whnf)
    refine condB_mk (fun hb=> ?_) (fun hb=> ?_)
    · have hb:k<r:=by simp at hb;omega
      obtain⟨h1,h2⟩:=hD k hb
      have h1':(D (k:Int).toNat).ns<=20:=h1
      conv=>whnf
      repeat (refine⟨⟨_,rfl⟩,?_⟩;conv=>whnf)
      refine condB_ok (by simp;omega) ?_
      conv=>whnf
      repeat (refine⟨⟨_,rfl⟩,?_⟩;conv=>whnf)
      conv=>whnf
      repeat (refine⟨⟨_,rfl⟩,?_⟩;conv=>whnf)
      rw [show 0+(k:Int).toNat=k by simp]
      refine condB_ok (by simp [roomG,Nat.ble_eq];omega) ?_
      refine⟨?_,?_⟩
      · refine⟨?_,?_⟩
        · conv=>whnf
          repeat (refine⟨⟨_,rfl⟩,?_⟩;conv=>whnf)
          refine condB_ok (app_ok (by first | rfl | simp) rfl rfl (by omega) (by omega)) (fun cap1 hcap1=> ?_)
          conv=>whnf
          repeat (refine⟨⟨_,rfl⟩,?_⟩;conv=>whnf)
          refine S_TwinPoints (n:=(D k).nc) (I:=(D k).I) (X:=(D k).X) (Y:=(D k).Y) (ShowsG.vsl fun i j _ _=>flat_rawsG) (by omega) (fun cap2=> ?_)
          conv=>whnf
          repeat (refine⟨⟨_,rfl⟩,?_⟩;conv=>whnf)
          refine condB_ok (app_ok (by first | rfl | simp) rfl rfl (by omega) (by omega)) (fun cap3 hcap3=> ?_)
          conv=>whnf
          repeat (refine⟨⟨_,rfl⟩,?_⟩;conv=>whnf)
          have e5:IntKind.i64.wrap ((k:Int)+1)=((k+1:Nat):Int):=by rw [w64 (by omega) (by omega)];omega
          refine⟨q - 1,[(0,.sl 0 0 r cap),(3,.sl 1 0 (k+1) cap3),(4,.int .i64 ((k+1:Nat):Int))],[some ⟨26,r,dlG D d1 d2⟩,none,none,none,none,none,some ⟨26,k+1,dlG D (fun i=>if i=k then cap1 else C1 i) (fun i=>if i=k then cap2 else C2 i)⟩],[some ⟨26,r,dlG D d1 d2⟩,some ⟨26,k+1,dlG D (fun i=>if i=k then cap1 else C1 i) (fun i=>if i=k then cap2 else C2 i)⟩],[some 0,some 6],by omega,⟨k+1,cap3,_,_,rfl,rfl,by omega⟩,?_,?_⟩
          · refine .step 3 _ _ [some ⟨26,r,dlG D d1 d2⟩,none,none,none,some ⟨9,(D k).nc,rawsG (D k).I (D k).X (D k).Y⟩,none,some ⟨26,k+1,fun i j=>if i=k/\j=14 then .sl 4 0 (D k).nc cap2 else dlG D (fun i=>if i=k then cap1 else C1 i) C2 i j⟩] _ rfl (.c (.inr ⟨by decide,_,_,rfl,rfl,rfl,Nat.le_refl _,fun i j _ _=> .inl rfl⟩) (.c (.inl rfl) (.c (.inl rfl) (.c (.inl rfl) (.c (.inr ⟨by decide,_,_,rfl,rfl,rfl,Nat.le_refl _,fun i j _ _=> .inl rfl⟩) (.c (.inl rfl) (.c (.inr ⟨by decide,_,_,rfl,rfl,rfl,Nat.le_refl _,fun i j hi hj=> ?_⟩) .n))))))) ?_
            · refine fz_e 3 4 D d1 d2 C1 C2 k cap1 cap2 i j hi hj _ (fun h=> ?_) (fun h=> ?_)
              · dsimp only
                rw [catG_ge (by omega),h,Nat.sub_self]
                clear hi
                revert j
                exact lt26 rfl rfl rfl rfl rfl rfl rfl rfl rfl rfl rfl rfl rfl rfl rfl rfl rfl rfl rfl rfl rfl rfl rfl rfl rfl rfl
              · dsimp only
                have hi:i<k+1:=hi
                rw [catG_lt (by omega)]
            · refine .step 4 ⟨9,(D k).nc,rawsG (D k).I (D k).X (D k).Y⟩ _ [some ⟨26,r,dlG D d1 d2⟩,none,none,none,none,none,some ⟨26,k+1,dlG D (fun i=>if i=k then cap1 else C1 i) (fun i=>if i=k then cap2 else C2 i)⟩] _ rfl (.c (.inr ⟨by decide,_,_,rfl,rfl,rfl,Nat.le_refl _,fun i j _ _=> .inl rfl⟩) (.c (.inl rfl) (.c (.inl rfl) (.c (.inl rfl) (.c (.inl rfl) (.c (.inl rfl) (.c (.inr ⟨by decide,_,_,rfl,rfl,rfl,Nat.le_refl _,fun i j hi hj=> ?_⟩) .n))))))) (.refl _)
              exact fz_f 4 D C1 C2 k cap1 cap2 i j hi hj
          · exact .mkN ⟨.sl _ _ _ _ _ rfl,.sl _ _ _ _ _ rfl,Flat.i e5,trivial⟩ ⟨.old 0 0 _ _ rfl rfl ⟨rfl,Nat.le_refl _,fun i j hi hj=>RV.of rfl (by dsimp only;exact flat_dlG)⟩,.old 1 6 _ _ rfl rfl ⟨rfl,Nat.le_refl _,fun i j hi hj=>RV.of rfl (by dsimp only;exact flat_dlG)⟩,trivial⟩ rfl rfl rfl
        · conv=>whnf
          repeat (refine⟨⟨_,rfl⟩,?_⟩;conv=>whnf)
          refine condB_ok (app_ok (by first | rfl | simp) rfl rfl (by omega) (by omega)) (fun cap1 hcap1=> ?_)
          conv=>whnf
          repeat (refine⟨⟨_,rfl⟩,?_⟩;conv=>whnf)
          refine S_TwinPoints (n:=(D k).nc) (I:=(D k).I) (X:=(D k).X) (Y:=(D k).Y) (ShowsG.vsl fun i j _ _=>flat_rawsG) (by omega) (fun cap2=> ?_)
          conv=>whnf
          repeat (refine⟨⟨_,rfl⟩,?_⟩;conv=>whnf)
          refine condB_ok (app_ok (by first | rfl | simp) rfl rfl (by omega) (by omega)) (fun cap3 hcap3=> ?_)
          conv=>whnf
          repeat (refine⟨⟨_,rfl⟩,?_⟩;conv=>whnf)
          have e5:IntKind.i64.wrap ((k:Int)+1)=((k+1:Nat):Int):=by rw [w64 (by omega) (by omega)];omega
          refine⟨q - 1,[(0,.sl 0 0 r cap),(3,.sl 1 0 (k+1) cap3),(4,.int .i64 ((k+1:Nat):Int))],[some ⟨26,r,dlG D d1 d2⟩,none,none,none,none,none,some ⟨26,k+1,dlG D (fun i=>if i=k then cap1 else C1 i) (fun i=>if i=k then cap2 else C2 i)⟩],[some ⟨26,r,dlG D d1 d2⟩,some ⟨26,k+1,dlG D (fun i=>if i=k then cap1 else C1 i) (fun i=>if i=k then cap2 else C2 i)⟩],[some 0,some 6],by omega,⟨k+1,cap3,_,_,rfl,rfl,by omega⟩,?_,?_⟩
          · refine .step 3 _ _ [some ⟨26,r,dlG D d1 d2⟩,none,none,none,some ⟨9,(D k).nc,rawsG (D k).I (D k).X (D k).Y⟩,none,some ⟨26,k+1,fun i j=>if i=k/\j=14 then .sl 4 0 (D k).nc cap2 else dlG D (fun i=>if i=k then cap1 else C1 i) C2 i j⟩] _ rfl (.c (.inr ⟨by decide,_,_,rfl,rfl,rfl,Nat.le_refl _,fun i j _ _=> .inl rfl⟩) (.c (.inl rfl) (.c (.inl rfl) (.c (.inl rfl) (.c (.inr ⟨by decide,_,_,rfl,rfl,rfl,Nat.le_refl _,fun i j _ _=> .inl rfl⟩) (.c (.inl rfl) (.c (.inr ⟨by decide,_,_,rfl,rfl,rfl,Nat.le_refl _,fun i j hi hj=> ?_⟩) .n))))))) ?_
            · refine fz_e 3 4 D d1 d2 C1 C2 k cap1 cap2 i j hi hj _ (fun h=> ?_) (fun h=> ?_)
              · dsimp only
                rw [catG_ge (by omega),h,Nat.sub_self]
                clear hi
                revert j
                exact lt26 rfl rfl rfl rfl rfl rfl rfl rfl rfl rfl rfl rfl rfl rfl rfl rfl rfl rfl rfl rfl rfl rfl rfl rfl rfl rfl
              · dsimp only
                have hi:i<k+1:=hi
                rw [catG_lt (by omega)]
            · refine .step 4 ⟨9,(D k).nc,rawsG (D k).I (D k).X (D k).Y⟩ _ [some ⟨26,r,dlG D d1 d2⟩,none,none,none,none,none,some ⟨26,k+1,dlG D (fun i=>if i=k then cap1 else C1 i) (fun i=>if i=k then cap2 else C2 i)⟩] _ rfl (.c (.inr ⟨by decide,_,_,rfl,rfl,rfl,Nat.le_refl _,fun i j _ _=> .inl rfl⟩) (.c (.inl rfl) (.c (.inl rfl) (.c (.inl rfl) (.c (.inl rfl) (.c (.inl rfl) (.c (.inr ⟨by decide,_,_,rfl,rfl,rfl,Nat.le_refl _,fun i j hi hj=> ?_⟩) .n))))))) (.refl _)
              exact fz_f 4 D C1 C2 k cap1 cap2 i j hi hj
          · exact .mkN ⟨.sl _ _ _ _ _ rfl,.sl _ _ _ _ _ rfl,Flat.i e5,trivial⟩ ⟨.old 0 0 _ _ rfl rfl ⟨rfl,Nat.le_refl _,fun i j hi hj=>RV.of rfl (by dsimp only;exact flat_dlG)⟩,.old 1 6 _ _ rfl rfl ⟨rfl,Nat.le_refl _,fun i j hi hj=>RV.of rfl (by dsimp only;exact flat_dlG)⟩,trivial⟩ rfl rfl rfl
      · conv=>whnf
        repeat (refine⟨⟨_,rfl⟩,?_⟩;conv=>whnf)
        refine condB_ok (app_ok (by first | rfl | simp) rfl rfl (by omega) (by omega)) (fun cap1 hcap1=> ?_)
        conv=>whnf
        repeat (refine⟨⟨_,rfl⟩,?_⟩;conv=>whnf)
        refine S_TwinPoints (n:=(D k).nc) (I:=(D k).I) (X:=(D k).X) (Y:=(D k).Y) (ShowsG.vsl fun i j _ _=>flat_rawsG) (by omega) (fun cap2=> ?_)
        conv=>whnf
        repeat (refine⟨⟨_,rfl⟩,?_⟩;conv=>whnf)
        refine condB_ok (app_ok (by first | rfl | simp) rfl rfl (by omega) (by omega)) (fun cap3 hcap3=> ?_)
        conv=>whnf
        repeat (refine⟨⟨_,rfl⟩,?_⟩;conv=>whnf)
        have e5:IntKind.i64.wrap ((k:Int)+1)=((k+1:Nat):Int):=by rw [w64 (by omega) (by omega)];omega
        refine⟨q - 1,[(0,.sl 0 0 r cap),(3,.sl 1 0 (k+1) cap3),(4,.int .i64 ((k+1:Nat):Int))],[some ⟨26,r,dlG D d1 d2⟩,none,none,none,none,none,some ⟨26,k+1,dlG D (fun i=>if i=k then cap1 else C1 i) (fun i=>if i=k then cap2 else C2 i)⟩],[some ⟨26,r,dlG D d1 d2⟩,some ⟨26,k+1,dlG D (fun i=>if i=k then cap1 else C1 i) (fun i=>if i=k then cap2 else C2 i)⟩],[some 0,some 6],by omega,⟨k+1,cap3,_,_,rfl,rfl,by omega⟩,?_,?_⟩
        · refine .step 3 _ _ [some ⟨26,r,dlG D d1 d2⟩,none,none,none,some ⟨9,(D k).nc,rawsG (D k).I (D k).X (D k).Y⟩,none,some ⟨26,k+1,fun i j=>if i=k/\j=14 then .sl 4 0 (D k).nc cap2 else dlG D (fun i=>if i=k then cap1 else C1 i) C2 i j⟩] _ rfl (.c (.inr ⟨by decide,_,_,rfl,rfl,rfl,Nat.le_refl _,fun i j _ _=> .inl rfl⟩) (.c (.inl rfl) (.c (.inl rfl) (.c (.inl rfl) (.c (.inr ⟨by decide,_,_,rfl,rfl,rfl,Nat.le_refl _,fun i j _ _=> .inl rfl⟩) (.c (.inl rfl) (.c (.inr ⟨by decide,_,_,rfl,rfl,rfl,Nat.le_refl _,fun i j hi hj=> ?_⟩) .n))))))) ?_
          · refine fz_e 3 4 D d1 d2 C1 C2 k cap1 cap2 i j hi hj _ (fun h=> ?_) (fun h=> ?_)
            · dsimp only
              rw [catG_ge (by omega),h,Nat.sub_self]
              clear hi
              revert j
              exact lt26 rfl rfl rfl rfl rfl rfl rfl rfl rfl rfl rfl rfl rfl rfl rfl rfl rfl rfl rfl rfl rfl rfl rfl rfl rfl rfl
            · dsimp only
              have hi:i<k+1:=hi
              rw [catG_lt (by omega)]
          · refine .step 4 ⟨9,(D k).nc,rawsG (D k).I (D k).X (D k).Y⟩ _ [some ⟨26,r,dlG D d1 d2⟩,none,none,none,none,none,some ⟨26,k+1,dlG D (fun i=>if i=k then cap1 else C1 i) (fun i=>if i=k then cap2 else C2 i)⟩] _ rfl (.c (.inr ⟨by decide,_,_,rfl,rfl,rfl,Nat.le_refl _,fun i j _ _=> .inl rfl⟩) (.c (.inl rfl) (.c (.inl rfl) (.c (.inl rfl) (.c (.inl rfl) (.c (.inl rfl) (.c (.inr ⟨by decide,_,_,rfl,rfl,rfl,Nat.le_refl _,fun i j hi hj=> ?_⟩) .n))))))) (.refl _)
            exact fz_f 4 D C1 C2 k cap1 cap2 i j hi hj
        · exact .mkN ⟨.sl _ _ _ _ _ rfl,.sl _ _ _ _ _ rfl,Flat.i e5,trivial⟩ ⟨.old 0 0 _ _ rfl rfl ⟨rfl,Nat.le_refl _,fun i j hi hj=>RV.of rfl (by dsimp only;exact flat_dlG)⟩,.old 1 6 _ _ rfl rfl ⟨rfl,Nat.le_refl _,fun i j hi hj=>RV.of rfl (by dsimp only;exact flat_dlG)⟩,trivial⟩ rfl rfl rfl
    · have hb:k=r:=by simp at hb;omega
      subst hb
      conv=>whnf
      repeat (refine⟨⟨_,rfl⟩,?_⟩;conv=>whnf)
      exact⟨rfl,.inr ⟨1,c',C1,C2,Nat.le_refl _,rfl,rfl⟩⟩
theorem S_TwinDealersW {m:Mem} {K:AV->Mem->Prop} {r cap l0:Nat} {D:Nat->Dl} {d1 d2:Nat->Nat} (hl0:m[l0]? = some (some ⟨26,r,dlG D d1 d2⟩)) (hr1:1<=r) (hr:r<=10) (hD:∀ k,k<r->(D k).ns<=20/\(D k).nc<=8) (h:∀ c c1 c2,memK (m++ [some ⟨26,r,dlG D c1 c2⟩]) (K (.sl m.length 0 r c))):ACall Pg F_witankeep_TwinDealers [.sl l0 0 r cap] m K:=by
  simp only [memK_eq]at h
  have hlt:=lt_of_get hl0
  have hb0:∀ i j,i<r->j<26->dlG D d1 d2 i j=dlG D d1 d2 i j:=fun i j hi hj=>rfl
  have hb1:∀ i j,i<r->j<26->Flat false (dlG D d1 d2 i j):=fun i j hi hj=>flat_dlG
  have hg1:∀ {i q:Nat},[some l0].getD i none=some q->i=0/\q=l0:=fun {i q} h=>by
    match i,h with
    | 0,h=>exact ⟨rfl,by simpa using h.symm⟩
    | i+1,h=>simp at h
  refine(S_TwinDealersO r cap D d1 d2 hr hD).frame false [some l0] [] (fun _=>rfl) (.cons _ _ _ _ (.rv _ _ (.sl _ _ _ _ _ rfl)) .nil) ⟨.old 0 l0 _ _ rfl hl0 ⟨rfl,Nat.le_refl _,fun i j hi hj=>RV.of rfl (by dsimp only;exact flat_dlG)⟩,trivial⟩ rfl (fun i j q g1 g2=>by rw [(hg1 g1).1,(hg1 g2).1]) (fun q hq=>by cases hq) ?_
  rintro v m' ⟨k0,(⟨_,hr0⟩ | ⟨l,c,C1,C2,hl,rfl,hb⟩)⟩
  · omega
  have ht:∀ {q r':Nat},(if q=l0 then some 0 else if q=m.length then some l else none)=some r'->(q=l0/\r'=0)\/(q=m.length/\1<=r'/\r'=l):=by
    intro q r' hq
    by_cases h:q=l0
    · rw [if_pos h]at hq;exact .inl ⟨h,(Option.some.inj hq).symm⟩
    · rw [if_neg h]at hq
      by_cases h'':q=m.length
      · rw [if_pos h'']at hq;obtain rfl:=Option.some.inj hq;exact .inr ⟨h'',hl,rfl⟩
      · rw [if_neg h'']at hq;cases hq
  refine⟨.sl m.length 0 r c,m++ [some ⟨26,r,dlG D C1 C2⟩],fun q=>if q=l0 then some 0 else if q=m.length then some l else none,⟨by simp,fun q r hq=> ?_,fun q q' r hq hq'=> ?_,fun q r hlt' hq=> ?_,fun q b hq=> ?_⟩,.sl _ _ _ _ _ (by rw [if_neg (by omega),if_pos rfl]),h c C1 C2⟩
  · rw [List.length_append]
    rcases ht hq with⟨rfl,_⟩ | ⟨rfl,_⟩
    · omega
    · simp
  · rcases ht hq with⟨rfl,rfl⟩ | ⟨rfl,e,_⟩ <;> rcases ht hq' with⟨rfl,e'⟩ | ⟨rfl,e',_⟩
    all_goals first
      | rfl
      | (exfalso;omega)
  · rcases ht hq with⟨rfl,rfl⟩ | ⟨rfl,e,_⟩
    · exact⟨by simp,rfl⟩
    · exact absurd hlt' (Nat.lt_irrefl _)
  · by_cases hqm:q<m.length
    · rw [List.getElem?_append_left hqm]at hq
      by_cases hql:q=l0
      · subst hql
        rw [hl0]at hq
        obtain rfl:=Option.some.inj (Option.some.inj hq)
        exact .inr (.inl ⟨0,_,if_pos rfl,k0,rfl,Nat.le_refl _,fun i j hi hj=>RV.of (hb0 i j hi hj).symm (hb1 i j hi hj)⟩)
      · refine .inl ⟨by rw [if_neg hql,if_neg (by omega)],hq,fun i hi=>hql (hg1 hi).2⟩
    · rw [List.getElem?_append_right (by omega)]at hq
      have hqe:q=m.length:=by
        rcases Nat.lt_or_ge (q - m.length) 1 with g | g
        · omega
        · rw [List.getElem?_eq_none (by simpa using g)]at hq;cases hq
      subst hqe
      rw [Nat.sub_self]at hq
      obtain rfl:=Option.some.inj (Option.some.inj hq)
      exact .inr (.inl ⟨l,_,by rw [if_neg (by omega),if_pos rfl],hb,rfl,Nat.le_refl _,fun i j hi hj=>RV.of rfl (by dsimp only;exact flat_dlG)⟩)
end Go.Proofs.YtfolpdmbpbbimaaGreat
end

