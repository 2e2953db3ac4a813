/- The law ShaChains; no condition. -/
import Derived.Test.YtdobchoiiihfiaaD20
set_option linter.unusedVariables false
set_option linter.unusedSimpArgs false
set_option maxRecDepth 100000
set_option pp.maxSteps 300
namespace Go.Proofs.Ytdobchoiiihfiaa
open Go Go.Wit

theorem S_ShaChains (n c1 : Nat) (f : Nat → Int) (v : Int) (hf : ∀ i, i < n → 0 ≤ f i ∧ f i ≤ 255) :
    ACall Pg F_witanlaw04_ShaChains [.vsl 1 n c1 (bytesG f), .int .i64 v] [] (fun x _ => x = .bool true) := by
  refine B_witanlaw04_ShaChains ⟨rfl, ?_⟩
  conv => whnf
  refine condB_mk (fun hc => ?_) (fun hc => ?_)
  rotate_left
  · have e : decide ((n : Int) > 3000) = true := by simpa using hc
    simp only [e]
    conv => whnf
  have hn : n ≤ 3000 := by simp at hc; omega
  conv => whnf
  refine condB_mk (fun hc => ?_) (fun hc => ?_)
  rotate_left
  · have e : decide (v < 0) = true := by simpa using hc
    simp only [e]
    conv => whnf
  have hv : 0 ≤ v := by simp at hc; omega
  conv => whnf
  refine condB_mk (fun hc => ?_) (fun hc => ?_)
  · conv => whnf
  have hv2 : v ≤ 100 := by simp at hc; omega
  obtain ⟨v, rfl⟩ : ∃ v' : Nat, v = v' := ⟨v.toNat, by omega⟩
  conv => whnf
  refine S_SumR (f := f) Shows.vsl (by omega) hf (fun s hs hsb => ?_)
  rw [rowL]
  conv => whnf
  refine S_Sum256R (f := f) Shows.vsl (by omega) hf (fun s2 hs2 hsb2 => ?_)
  obtain rfl : s2 = s := hs2.trans hs.symm
  rw [rowL]
  conv => whnf
  refine loop_wk mixed (I := fun q l m => ∃ (j : Nat) (s : Nat → Int), l = [(1, .int .i64 v), (5, .ptr 0 0 0), (6, .ptr 1 0 0), (7, .int .i64 j)] ∧
      m = [some ⟨1, 32, bytesG s⟩, some ⟨1, 32, bytesG s⟩] ∧ q + j = v ∧ ∀ i, 0 ≤ s i ∧ s i ≤ 255) v
    (l0 := [(1, .int .i64 v), (5, .ptr 0 0 0), (6, .ptr 1 0 0), (7, .int .i64 (0 : Nat))])
    (m0 := [some ⟨1, 32, bytesG s2⟩, some ⟨1, 32, bytesG s2⟩]) [some 0, some 1] ⟨0, s2, rfl, rfl, rfl, hsb2⟩ ?_ ?_
  · refine .mk0 ⟨Flat.i rfl, .ptr _ _ _ _ rfl, .ptr _ _ _ _ rfl, Flat.i rfl, trivial⟩ ⟨.old 0 0 _ _ rfl rfl ⟨rfl, Nat.le_refl _, fun i j hi hj => ?_⟩, .old 1 1 _ _ rfl rfl ⟨rfl, Nat.le_refl _, fun i j hi hj => ?_⟩, trivial⟩ rfl rfl
    · exact sumBlk hi hj rfl
    · exact sumBlk hi hj rfl
  · rintro q l m ⟨j, s, rfl, rfl, hq, hsb⟩
    conv => whnf
    refine condB_mk (fun hb => ?_) (fun hb => ?_)
    · have hb : j < v := by simp at hb; omega
      conv => whnf
      refine S_SumR (n := 32) (f := s) (Shows.any rfl (by simp) (fun i hi => by simp only [bytesG, Nat.zero_add])) (by omega) (fun i _ => hsb i) (fun s3 hs3 hsb3 => ?_)
      rw [rowL]
      conv => whnf
      refine ⟨⟨[], rfl⟩, ?_⟩
      conv => whnf
      refine S_Sum256R (n := 32) (f := s) (Shows.any rfl (by simp) (fun i hi => by simp only [bytesG, Nat.zero_add])) (by omega) (fun i _ => hsb i) (fun s4 hs4 hsb4 => ?_)
      obtain rfl : s4 = s3 := hs4.trans hs3.symm
      rw [rowL]
      conv => whnf
      refine ⟨⟨[], rfl⟩, ?_⟩
      conv => whnf
      refine ⟨⟨[], rfl⟩, ?_⟩
      conv => whnf
      have e5 : IntKind.i64.wrap ((j : Int) + 1) = ((j + 1 : Nat) : Int) := by rw [w64 (by omega) (by omega)]; omega
      refine ⟨q - 1, [(1, .int .i64 v), (5, .ptr 0 0 0), (6, .ptr 1 0 0), (7, .int .i64 ((j + 1 : Nat) : Int))], [some ⟨1, 32, bytesG s4⟩, some ⟨1, 32, bytesG s4⟩], [some 0, some 1], by omega, ⟨j + 1, s4, rfl, rfl, by omega, hsb4⟩, ?_⟩
      refine .mk0 ⟨Flat.i rfl, .ptr _ _ _ _ rfl, .ptr _ _ _ _ rfl, Flat.i e5, trivial⟩ ⟨.old 0 0 _ _ rfl rfl ⟨rfl, Nat.le_refl _, fun i j hi hj => ?_⟩, .old 1 1 _ _ rfl rfl ⟨rfl, Nat.le_refl _, fun i j hi hj => ?_⟩, trivial⟩ rfl rfl
      · exact sumBlk hi hj rfl
      · exact sumBlk hi hj rfl
    · have hb : j = v := by simp at hb; omega
      conv => whnf
      refine S_Bytes (n1 := 32) (n2 := 32) (f := s) (g := s) (Shows.any rfl (by simp) (fun i hi => by simp only [bytesG, Nat.zero_add])) (Shows.any rfl (by simp) (fun i hi => by simp only [bytesG, Nat.zero_add])) (by omega) ?_
      rw [sameB_eq.2 ⟨rfl, fun _ _ => rfl⟩]
      conv => whnf
      refine ⟨⟨[], rfl⟩, ?_⟩
      conv => whnf
      refine S_wakes ?_
      conv => whnf
      refine ⟨⟨[], rfl⟩, ?_⟩
      conv => whnf

theorem S_row_ShaChains (avs : List AV) (h : okVs [.sl 1 (.int .u8), .int .i64] avs) : ∃ avs', Retold avs avs' ∧ ACall Pg F_witanlaw04_ShaChains avs' [] (fun x _ => x = .bool true) := by
  obtain ⟨a, _, rfl, h1, c, _, rfl, h3, rfl⟩ := h
  obtain ⟨n, c1, f, r1, _, _, hf⟩ := ok_bytes h1
  obtain ⟨v, rfl, _⟩ := ok_int h3
  exact ⟨_, .cons r1 (.cons (Retold1.refl _) .nil), S_ShaChains n c1 f v hf⟩

end Go.Proofs.Ytdobchoiiihfiaa
