/- The law ShaLengths; no condition. -/
import Derived.Test.YtdobchoiiihfiaaD20
set_option linter.unusedVariables false
set_option linter.unusedSimpArgs false
set_option maxRecDepth 100000
set_option pp.maxSteps 300
namespace Go.Proofs.Ytdobchoiiihfiaa
open Go Go.Wit

theorem zeroAt {i j : Nat} {A : AV} (hj : j < 1) (hA : A = [AV.int IntKind.u8 0].getD j AV.un) : A = .int .u8 0 := by
  subst hA
  obtain rfl : j = 0 := by omega
  rfl

theorem S_ShaLengths : ACall Pg F_witanlaw04_ShaLengths [] [] (fun x _ => x = .bool true) := by
  refine B_witanlaw04_ShaLengths ⟨rfl, ?_⟩
  conv => whnf
  refine loop_wk mixed (I := fun q l m => ∃ (k : Nat), l = [(1, .sl 0 0 200 200), (2, .int .i64 k)] ∧ m = [some ⟨1, 200, bytesG (fun _ => 0)⟩] ∧ q + k = 201) 201
    (l0 := [(1, .sl 0 0 200 200), (2, .int .i64 (0 : Nat))]) (m0 := [some ⟨1, 200, bytesG (fun _ => 0)⟩]) [some 0] ⟨0, rfl, rfl, rfl⟩ ?_ ?_
  · refine .mk0 ⟨.sl _ _ _ _ _ rfl, Flat.i rfl, trivial⟩ ⟨.old 0 0 _ _ rfl rfl ⟨rfl, Nat.le_refl _, fun i j hi hj => ?_⟩, trivial⟩ rfl rfl
    have hj : j < 1 := hj
    obtain rfl : j = 0 := by omega
    exact .eq _ _ rfl (.int _ _)
  · rintro q l m ⟨k, rfl, rfl, hq⟩
    conv => whnf
    refine condB_mk (fun hc => ?_) (fun hc => ?_)
    · have hc : k ≤ 200 := by simp at hc; omega
      conv => whnf
      refine condB_ok (by simp; omega) ?_
      conv => whnf
      refine condB_ok (by simp; omega) ?_
      conv => whnf
      rw [show ((k : Int).toNat - 0) = k by omega]
      refine S_SumR (n := k) (f := fun _ => 0) (Shows.any rfl (show 0 + k ≤ 200 by omega) (fun i hi => rfl)) (by omega) (fun i _ => by simp) (fun s hs hsb => ?_)
      rw [rowL]
      conv => whnf
      refine ⟨⟨[], rfl⟩, ?_⟩
      conv => whnf
      refine S_Sum256R (n := k) (f := fun _ => 0) (Shows.any rfl (show 0 + k ≤ 200 by omega) (fun i hi => rfl)) (by omega) (fun i _ => by simp) (fun s2 hs2 hsb2 => ?_)
      obtain rfl : s2 = s := hs2.trans hs.symm
      rw [rowL]
      conv => whnf
      refine ⟨⟨[], rfl⟩, ?_⟩
      conv => whnf
      refine S_Bytes (n1 := 32) (n2 := 32) (f := s2) (g := s2) (Shows.any rfl (by simp) (fun i hi => rowAt hi rfl)) (Shows.any rfl (by simp) (fun i hi => rowAt hi rfl)) (by omega) ?_
      rw [sameB_eq.2 ⟨rfl, fun _ _ => rfl⟩]
      conv => whnf
      refine ⟨⟨[], rfl⟩, ?_⟩
      conv => whnf
      have e5 : IntKind.i64.wrap ((k : Int) + 1) = ((k + 1 : Nat) : Int) := by rw [w64 (by omega) (by omega)]; omega
      refine ⟨q - 1, [(1, .sl 0 0 200 200), (2, .int .i64 ((k + 1 : Nat) : Int))], [some ⟨1, 200, bytesG (fun _ => 0)⟩], [some 0], by omega, ⟨k + 1, rfl, rfl, by omega⟩, ?_⟩
      exact .mk0 ⟨.sl _ _ _ _ _ rfl, Flat.i e5, trivial⟩ ⟨.old 0 0 _ _ rfl rfl ⟨rfl, Nat.le_refl _, fun i j hi hj => .eq _ _ rfl (.int _ _)⟩, trivial⟩ rfl rfl
    · conv => whnf
      refine S_wakes ?_
      conv => whnf

theorem S_row_ShaLengths (avs : List AV) (h : okVs [] avs) : ∃ avs', Retold avs avs' ∧ ACall Pg F_witanlaw04_ShaLengths avs' [] (fun x _ => x = .bool true) := by
  obtain rfl : avs = [] := h
  exact ⟨_, .nil, S_ShaLengths⟩

end Go.Proofs.Ytdobchoiiihfiaa
