/- The law ShaKeys; no condition. -/
import Derived.Test.YtdobchoiiihfiaaD17
set_option linter.unusedVariables false
set_option linter.unusedSimpArgs false
set_option maxRecDepth 100000
set_option pp.maxSteps 300
namespace Go.Proofs.Ytdobchoiiihfiaa
open Go Go.Wit

theorem macB_sum {n k : Nat} {f g : Nat → Int} (hn : 64 < n) : macB 32 (sumB n f) k g = macB n f k g := by
  have : keyP 32 (sumB n f) = keyP n f := by
    funext i
    simp only [keyP, keyN, keyG, if_pos hn, show ¬ 64 < 32 by omega, if_false]
  rw [macB, this]; rfl

theorem macB_pad {n N k : Nat} {f G g : Nat → Int} (hn : ¬ 64 < n) (hN : ¬ 64 < N) (h1 : n ≤ N) (hG : ∀ i, i < N → G i = if i < n then f i else 0) : macB N G k g = macB n f k g := by
  have : keyP N G = keyP n f := by
    funext i
    simp only [keyP, keyN, keyG, if_neg hn, if_neg hN]
    by_cases hi : i < N
    · rw [if_pos hi, hG i hi]
    · rw [if_neg hi, if_neg (by omega)]
  rw [macB, this]; rfl

theorem S_ShaKeys (n c1 : Nat) (f : Nat → Int) (k c2 : Nat) (g : Nat → Int) (v : Int) (hf : ∀ i, i < n → 0 ≤ f i ∧ f i ≤ 255) (hg : ∀ i, i < k → 0 ≤ g i ∧ g i ≤ 255) (hv1 : v ≤ 9223372036854775807) :
    ACall Pg F_witanlaw04_ShaKeys [.vsl 1 n c1 (bytesG f), .vsl 1 k c2 (bytesG g), .int .i64 v] [] (fun x _ => x = .bool true) := by
  refine B_witanlaw04_ShaKeys ⟨rfl, ?_⟩
  conv => whnf
  refine condB_mk (fun hc => ?_) (fun hc => ?_)
  rotate_left
  · have e : decide ((n : Int) > 3000) = true := by simpa using hc
    simp only [e]
    conv => whnf
  have hn : n ≤ 3000 := by simp at hc; omega
  conv => whnf
  refine condB_mk (fun hc => ?_) (fun hc => ?_)
  rotate_left
  · have e : decide ((k : Int) > 3000) = true := by simpa using hc
    simp only [e]
    conv => whnf
  have hk : k ≤ 3000 := by simp at hc; omega
  conv => whnf
  refine condB_mk (fun hc => ?_) (fun hc => ?_)
  · conv => whnf
  have hv : 0 ≤ v := by simp at hc; omega
  obtain ⟨v, rfl⟩ : ∃ v' : Nat, v = v' := ⟨v.toNat, by omega⟩
  conv => whnf
  refine S_Mac (f := f) (g := g) Shows.vsl Shows.vsl (by omega) (by omega) hf hg (fun s hs hsb => ?_)
  rw [rowL]
  conv => whnf
  refine condB_mk (fun hd => ?_) (fun hd => ?_)
  · have hd : 64 < n := by simp at hd; omega
    conv => whnf
    refine S_SumR (f := f) Shows.vsl (by omega) hf (fun s1 hs1 hsb1 => ?_)
    rw [rowL]
    conv => whnf
    refine S_Mac (n := 32) (f := s1) (g := g) (Shows.any rfl (by simp) (fun i hi => rowAt hi rfl)) Shows.vsl (by omega) (by omega) (fun i _ => hsb1 i) hg (fun s2 hs2 hsb2 => ?_)
    rw [rowL]
    conv => whnf
    obtain rfl : s2 = s := by rw [hs2, hs, hs1, macB_sum hd]
    refine S_Bytes (n1 := 32) (n2 := 32) (f := s2) (g := s2) (Shows.any rfl (by simp) (fun i hi => rowAt hi rfl)) (Shows.any rfl (by simp) (fun i hi => rowAt hi rfl)) (by omega) ?_
    rw [sameB_eq.2 ⟨rfl, fun _ _ => rfl⟩]
    conv => whnf
    refine ⟨⟨[], rfl⟩, ?_⟩
    conv => whnf
    refine S_wakes ?_
    conv => whnf
    refine ⟨⟨[], rfl⟩, ?_⟩
    conv => whnf
  · have hd : ¬ 64 < n := by simp at hd; omega
    conv => whnf
    refine S_Twin (f := f) Shows.vsl (by omega) (fun cap1 => ?_)
    conv => whnf
    refine loop_wk mixed (I := fun q l m => ∃ (j N c : Nat) (G : Nat → Int), l = [(1, .vsl 1 k c2 (bytesG g)), (2, .int .i64 v), (7, .ptr 0 0 0), (10, .sl 1 0 N c), (11, .int .i64 j)] ∧
        m = [some ⟨1, 32, bytesG s⟩, some ⟨1, N, bytesG G⟩] ∧ q + N = 64 ∧ n ≤ N ∧ j + n = N ∧ (∀ i, i < N → G i = if i < n then f i else 0)) (64 - n)
      (l0 := [(1, .vsl 1 k c2 (bytesG g)), (2, .int .i64 v), (7, .ptr 0 0 0), (10, .sl 1 0 n cap1), (11, .int .i64 (0 : Nat))])
      (m0 := [some ⟨1, 32, bytesG s⟩, some ⟨1, n, bytesG f⟩]) [some 0, some 1] ⟨0, n, cap1, f, rfl, rfl, by omega, by omega, by omega, fun i hi => by rw [if_pos hi]⟩ ?_ ?_
    · refine .mk0 ⟨.eq _ _ rfl (.vsl _ _ _ _ rfl (fun _ _ _ _ => .int _ _)), Flat.i rfl, .ptr _ _ _ _ rfl, .sl _ _ _ _ _ rfl, Flat.i rfl, trivial⟩ ⟨.old 0 0 _ _ rfl rfl ⟨rfl, Nat.le_refl _, fun i j hi hj => ?_⟩, .old 1 1 _ _ rfl rfl ⟨rfl, Nat.le_refl _, fun i j hi hj => .eq _ _ rfl (.int _ _)⟩, trivial⟩ rfl rfl
      exact sumBlk hi hj rfl
    · rintro q l m ⟨j, N, c, G, rfl, rfl, hq, h1, h2, hG⟩
      conv => whnf
      refine condB_mk (fun hb => ?_) (fun hb => ?_)
      · have hb : j < v := by simp at hb; omega
        conv => whnf
        refine condB_mk (fun he => ?_) (fun he => ?_)
        · have he : N < 64 := by simp at he; omega
          conv => whnf
          refine condB_ok (app_ok (by simp) rfl rfl (by omega) (by omega)) (fun cap' hcap' => ?_)
          conv => whnf
          have e5 : IntKind.i64.wrap ((j : Int) + 1) = ((j + 1 : Nat) : Int) := by rw [w64 (by omega) (by omega)]; omega
          refine ⟨q - 1, [(1, .vsl 1 k c2 (bytesG g)), (2, .int .i64 v), (7, .ptr 0 0 0), (10, .sl 1 0 (N + 1) cap'), (11, .int .i64 ((j + 1 : Nat) : Int))], [some ⟨1, 32, bytesG s⟩, some ⟨1, N + 1, bytesG (fun i => if i < N then G i else 0)⟩], [some 0, some 3], by omega,
            ⟨j + 1, N + 1, cap', _, rfl, rfl, by omega, by omega, by omega, fun i hi => ?_⟩, ?_⟩
          · by_cases h : i < N
            · simp only [if_pos h]; exact hG i h
            · simp only [if_neg h]; rw [if_neg (by omega)]
          · refine .mk0 ⟨.eq _ _ rfl (.vsl _ _ _ _ rfl (fun _ _ _ _ => .int _ _)), Flat.i rfl, .ptr _ _ _ _ rfl, .sl _ _ _ _ _ rfl, Flat.i e5, trivial⟩ ⟨.old 0 0 _ _ rfl rfl ⟨rfl, Nat.le_refl _, fun i j hi hj => .eq _ _ rfl (.int _ _)⟩, .old 1 3 _ _ rfl rfl ⟨rfl, Nat.le_refl _, fun i j hi hj => ?_⟩, trivial⟩ rfl rfl
            have hj : j < 1 := hj
            have hi : i < N + 1 := hi
            dsimp only
            refine catW (N := N) (k := 1) (g := G) (g' := fun i => if i < N then G i else 0) rfl rfl (fun i h => if_pos h) (fun i h => ?_) hi hj
            obtain rfl : i = 0 := by omega
            simp only [if_neg (show ¬ N + 0 < N by omega)]
            rfl
        · have he : ¬ N < 64 := by simp at he; omega
          conv => whnf
          refine S_Mac (n := N) (f := G) (g := g) (Shows.any rfl (by simp) (fun i hi => by simp only [bytesG, Nat.zero_add])) Shows.vsl (by omega) (by omega) (fun i hi => ?_) hg (fun s2 hs2 hsb2 => ?_)
          · rw [hG i hi]
            by_cases h : i < n
            · rw [if_pos h]; exact hf i h
            · rw [if_neg h]; omega
          rw [rowL]
          conv => whnf
          obtain rfl : s2 = s := by rw [hs2, hs, macB_pad hd (by omega) h1 hG]
          refine S_Bytes (n1 := 32) (n2 := 32) (f := s2) (g := s2) (Shows.any rfl (by simp) (fun i hi => by simp only [bytesG, Nat.zero_add])) (Shows.any rfl (by simp) (fun i hi => rowAt hi rfl)) (by omega) ?_
          rw [sameB_eq.2 ⟨rfl, fun _ _ => rfl⟩]
          conv => whnf
          refine ⟨⟨[], rfl⟩, ?_⟩
          conv => whnf
          refine S_wakes ?_
          conv => whnf
          refine ⟨⟨[], rfl⟩, ?_⟩
          conv => whnf
      · have hb : ¬ j < v := by simp at hb; omega
        have eb : decide ((j : Int) < (v : Int)) = false := decide_eq_false (by omega)
        simp only [eb]
        conv => whnf
        refine S_Mac (n := N) (f := G) (g := g) (Shows.any rfl (by simp) (fun i hi => by simp only [bytesG, Nat.zero_add])) Shows.vsl (by omega) (by omega) (fun i hi => ?_) hg (fun s2 hs2 hsb2 => ?_)
        · rw [hG i hi]
          by_cases h : i < n
          · rw [if_pos h]; exact hf i h
          · rw [if_neg h]; omega
        rw [rowL]
        conv => whnf
        obtain rfl : s2 = s := by rw [hs2, hs, macB_pad hd (by omega) h1 hG]
        refine S_Bytes (n1 := 32) (n2 := 32) (f := s2) (g := s2) (Shows.any rfl (by simp) (fun i hi => by simp only [bytesG, Nat.zero_add])) (Shows.any rfl (by simp) (fun i hi => rowAt hi rfl)) (by omega) ?_
        rw [sameB_eq.2 ⟨rfl, fun _ _ => rfl⟩]
        conv => whnf
        refine ⟨⟨[], rfl⟩, ?_⟩
        conv => whnf
        refine S_wakes ?_
        conv => whnf
        refine ⟨⟨[], rfl⟩, ?_⟩
        conv => whnf

theorem S_row_ShaKeys (avs : List AV) (h : okVs [.sl 1 (.int .u8), .sl 1 (.int .u8), .int .i64] avs) : ∃ avs', Retold avs avs' ∧ ACall Pg F_witanlaw04_ShaKeys avs' [] (fun x _ => x = .bool true) := by
  obtain ⟨a, _, rfl, h1, b, _, rfl, h2, c, _, rfl, h3, rfl⟩ := h
  obtain ⟨n, c1, f, r1, _, _, hf⟩ := ok_bytes h1
  obtain ⟨k, c2, g, r2, _, _, hg⟩ := ok_bytes h2
  obtain ⟨v, rfl, _, hv⟩ := ok_int h3
  exact ⟨_, .cons r1 (.cons r2 (.cons (Retold1.refl _) .nil)), S_ShaKeys n c1 f k c2 g v hf hg hv⟩

end Go.Proofs.Ytdobchoiiihfiaa
