/- Texts of a proof, one behind the other; the last of these: What a dealer posts, in any memory; no condition. -/
import Derived.Test.YtfolpdmbpbbimaaZ8
section
/- The keyed sum of the program; no condition. -/
set_option linter.unusedVariables false
set_option linter.unusedSimpArgs false
set_option maxRecDepth 100000
set_option pp.maxSteps 300
namespace Go.Proofs.Ytfolpdmbpbbimaa
open Go Go.Wit

set_option maxHeartbeats 1000000 in
theorem S_Mac0 (n c1 : Nat) (f : Nat → Int) (k c2 : Nat) (g : Nat → Int) (hn : n ≤ 900000) (hk : k ≤ 900000) (hf : ∀ i, i < n → 0 ≤ f i ∧ f i ≤ 255) (hg : ∀ i, i < k → 0 ≤ g i ∧ g i ≤ 255) :
    ACall Pg F_sha_Mac [.vsl 1 n c1 (bytesG f), .vsl 1 k c2 (bytesG g)] [] (fun v _ => v = .agg (rowL (macB n f k g)) ∧ Flat true v) := by
  have hP : ∀ i, 64 < n → keyP n f i = if i < 32 then sumB n f i else 0 := fun i h => by simp only [keyP, keyN, keyG, if_pos h]
  have hP' : ∀ i, ¬ 64 < n → keyP n f i = if i < n then f i else 0 := fun i h => by simp only [keyP, keyN, keyG, if_neg h]
  have hM : macB n f k g = sumB 96 (outF (keyP n f) (sumB (64 + k) (inF (keyP n f) g))) := rfl
  generalize keyP n f = P at *
  generalize hM2 : macB n f k g = M at *
  refine B_sha_Mac ⟨rfl, ?_⟩
  conv => whnf
  repeat (refine ⟨⟨_, rfl⟩, ?_⟩; conv => whnf)
  refine condB_mk (fun hc => ?_) (fun hc => ?_)
  · have hc : 64 < n := by simp at hc; omega
    conv => whnf
    repeat (refine ⟨⟨_, rfl⟩, ?_⟩; conv => whnf)
    refine S_SumR (f := f) Shows.vsl (by omega) hf (fun s hs hsb => ?_)
    rw [rowL]
    conv => whnf
    repeat (refine ⟨⟨_, rfl⟩, ?_⟩; conv => whnf)
    refine loop_wk mixed (I := fun q l m => ∃ (j : Nat), l = [(1, .vsl 1 k c2 (bytesG g)), (4, .ptr 0 0 0), (6, .sl 1 0 64 64), (7, .sl 2 0 64 64), (25, .int .i64 (64 : Nat)), (26, .int .i64 j)] ∧
        m = [some ⟨1, 32, fun _ _ => .int .u8 0⟩, some ⟨1, 64, bytesG (fun i => if i < j then xorB (P i) 54 else P i)⟩, some ⟨1, 64, bytesG (fun i => if i < j then xorB (P i) 92 else P i)⟩] ∧ q + j = 64) 64
      (l0 := [(1, .vsl 1 k c2 (bytesG g)), (4, .ptr 0 0 0), (6, .sl 1 0 64 64), (7, .sl 2 0 64 64), (25, .int .i64 (64 : Nat)), (26, .int .i64 (0 : Nat))]) (m0 := [some ⟨1, 32, fun _ _ => .int .u8 0⟩, some ⟨1, 64, bytesG (fun i => if i < 0 then xorB (P i) 54 else P i)⟩, some ⟨1, 64, bytesG (fun i => if i < 0 then xorB (P i) 92 else P i)⟩]) [some 0, some 2, some 3] ⟨0, rfl, rfl, rfl⟩ ?_ ?_
    · refine .mk0 ⟨.eq _ _ rfl (.vsl _ _ _ _ rfl (fun _ _ _ _ => .int _ _)), .ptr _ _ _ _ rfl, .sl _ _ _ _ _ rfl, .sl _ _ _ _ _ rfl, Flat.i rfl, Flat.i rfl, trivial⟩ ⟨.old 0 0 _ _ rfl rfl ⟨rfl, Nat.le_refl _, fun i j hi hj => oneU0 hj rfl⟩, .old 1 2 _ _ rfl rfl ⟨rfl, Nat.le_refl _, fun i j hi hj => ?_⟩, .old 2 3 _ _ rfl rfl ⟨rfl, Nat.le_refl _, fun i j hi hj => ?_⟩, trivial⟩ rfl rfl
      · have hj : j < 1 := hj
        obtain rfl : j = 0 := by omega
        exact keyW2 (P := P) (s := s) (a := fun i => xorB (P i) 54) hj (by rw [hP i hc, hs]) rfl
      · have hj : j < 1 := hj
        obtain rfl : j = 0 := by omega
        exact keyW2 (P := P) (s := s) (a := fun i => xorB (P i) 92) hj (by rw [hP i hc, hs]) rfl
    · rintro q l m ⟨j, rfl, rfl, hq⟩
      conv => whnf
      repeat (refine ⟨⟨_, rfl⟩, ?_⟩; conv => whnf)
      refine condB_mk (fun hb => ?_) (fun hb => ?_)
      · have hb : j < 64 := by simp at hb; omega
        conv => whnf
        repeat (refine ⟨⟨_, rfl⟩, ?_⟩; conv => whnf)
        refine condB_ok (by simp; omega) ?_
        conv => whnf
        repeat (refine ⟨⟨_, rfl⟩, ?_⟩; conv => whnf)
        simp only [Int.toNat_natCast, Nat.zero_add]
        refine condB_ok (by simp [roomG, Nat.ble_eq]; omega) ?_
        conv => whnf
        repeat (refine ⟨⟨_, rfl⟩, ?_⟩; conv => whnf)
        refine condB_ok (by simp; omega) ?_
        conv => whnf
        repeat (refine ⟨⟨_, rfl⟩, ?_⟩; conv => whnf)
        simp only [Int.toNat_natCast, Nat.zero_add]
        refine condB_ok (by simp [roomG, Nat.ble_eq]; omega) ?_
        conv => whnf
        repeat (refine ⟨⟨_, rfl⟩, ?_⟩; conv => whnf)
        refine condB_ok (by simp; omega) ?_
        conv => whnf
        repeat (refine ⟨⟨_, rfl⟩, ?_⟩; conv => whnf)
        simp only [Int.toNat_natCast, Nat.zero_add]
        refine condB_ok (by simp [roomG, Nat.ble_eq]; omega) ?_
        conv => whnf
        repeat (refine ⟨⟨_, rfl⟩, ?_⟩; conv => whnf)
        refine condB_ok (by simp; omega) ?_
        conv => whnf
        repeat (refine ⟨⟨_, rfl⟩, ?_⟩; conv => whnf)
        simp only [Int.toNat_natCast, Nat.zero_add]
        refine condB_ok (by simp [roomG, Nat.ble_eq]; omega) ?_
        conv => whnf
        repeat (refine ⟨⟨_, rfl⟩, ?_⟩; conv => whnf)
        have e5 : IntKind.i64.wrap ((j : Int) + 1) = ((j + 1 : Nat) : Int) := by rw [w64 (by omega) (by omega)]; omega
        have e6 : ∀ x, bitsV .xor .u8 (if j < j then x else P j) 54 = xorB (P j) 54 := fun x => by rw [if_neg (Nat.lt_irrefl _)]; rfl
        have e7 : ∀ x, bitsV .xor .u8 (if j < j then x else P j) 92 = xorB (P j) 92 := fun x => by rw [if_neg (Nat.lt_irrefl _)]; rfl
        refine ⟨q - 1, [(1, .vsl 1 k c2 (bytesG g)), (4, .ptr 0 0 0), (6, .sl 1 0 64 64), (7, .sl 2 0 64 64), (25, .int .i64 (64 : Nat)), (26, .int .i64 ((j + 1 : Nat) : Int))], [some ⟨1, 32, fun _ _ => .int .u8 0⟩, some ⟨1, 64, bytesG (fun i => if i < j + 1 then xorB (P i) 54 else P i)⟩, some ⟨1, 64, bytesG (fun i => if i < j + 1 then xorB (P i) 92 else P i)⟩], [some 0, some 1, some 2], by omega, ⟨j + 1, rfl, rfl, by omega⟩, ?_⟩
        refine .mk0 ⟨.eq _ _ rfl (.vsl _ _ _ _ rfl (fun _ _ _ _ => .int _ _)), .ptr _ _ _ _ rfl, .sl _ _ _ _ _ rfl, .sl _ _ _ _ _ rfl, Flat.i rfl, Flat.i e5, trivial⟩ ⟨.old 0 0 _ _ rfl rfl ⟨rfl, Nat.le_refl _, fun i j hi hj => .eq _ _ rfl (.int _ _)⟩, .old 1 1 _ _ rfl rfl ⟨rfl, Nat.le_refl _, fun a b ha hb => ?_⟩, .old 2 2 _ _ rfl rfl ⟨rfl, Nat.le_refl _, fun a b ha hb => ?_⟩, trivial⟩ rfl rfl
        · exact updB (a := fun i => xorB (P i) 54) (z := P) hb (e6 _) rfl
        · exact updB (a := fun i => xorB (P i) 92) (z := P) hb (e7 _) rfl
      · have hb : j = 64 := by simp at hb; omega
        subst hb
        conv => whnf
        repeat (refine ⟨⟨_, rfl⟩, ?_⟩; conv => whnf)
        refine condB_ok (app_ok (by simp) rfl rfl (by omega) (by omega)) (fun cap1 hcap1 => ?_)
        conv => whnf
        repeat (refine ⟨⟨_, rfl⟩, ?_⟩; conv => whnf)
        refine S_SumR (n := 64 + k) (f := inF P g) (Shows.any rfl (by simp) (fun i hi => ?_)) (by omega) (fun i hi => ?_) (fun s1 hs1 hsb1 => ?_)
        · exact catP (fun i h => by simp only [inF, if_pos h]) (fun i h => by simp only [inF]; rw [if_neg (by omega), show 64 + i - 64 = i by omega]) (k := k) (fun i h => rfl) hi
        · by_cases h : i < 64
          · simp only [inF, if_pos h]; exact xorB_lt _ _
          · simp only [inF, if_neg h]; exact hg _ (by omega)
        rw [rowL]
        conv => whnf
        repeat (refine ⟨⟨_, rfl⟩, ?_⟩; conv => whnf)
        intro cap2 hcap2
        conv => whnf
        repeat (refine ⟨⟨_, rfl⟩, ?_⟩; conv => whnf)
        refine S_SumR (n := 96) (f := outF P s1) (Shows.any rfl (by simp) (fun i hi => ?_)) (by omega) (fun i hi => ?_) (fun s2 hs2 hsb2 => ?_)
        · exact catP (fun i h => by simp only [outF, if_pos h]) (fun i h => by simp only [outF]; rw [if_neg (by omega), show 64 + i - 64 = i by omega]) (k := 32) (fun i h => rowAt h rfl) hi
        · by_cases h : i < 64
          · simp only [outF, if_pos h]; exact xorB_lt _ _
          · simp only [outF, if_neg h]; exact hsb1 _
        rw [rowL]
        conv => whnf
        repeat (refine ⟨⟨_, rfl⟩, ?_⟩; conv => whnf)
        have e9 : s2 = M := by rw [hs2, hM, hs1]
        subst e9
        exact outRow2 rfl
  · have hc : ¬ 64 < n := by simp at hc; omega
    conv => whnf
    repeat (refine ⟨⟨_, rfl⟩, ?_⟩; conv => whnf)
    refine loop_wk mixed (I := fun q l m => ∃ (j : Nat), l = [(1, .vsl 1 k c2 (bytesG g)), (4, .ptr 0 0 0), (6, .sl 1 0 64 64), (7, .sl 2 0 64 64), (25, .int .i64 (64 : Nat)), (26, .int .i64 j)] ∧
        m = [some ⟨1, 32, fun _ _ => .int .u8 0⟩, some ⟨1, 64, bytesG (fun i => if i < j then xorB (P i) 54 else P i)⟩, some ⟨1, 64, bytesG (fun i => if i < j then xorB (P i) 92 else P i)⟩] ∧ q + j = 64) 64
      (l0 := [(1, .vsl 1 k c2 (bytesG g)), (4, .ptr 0 0 0), (6, .sl 1 0 64 64), (7, .sl 2 0 64 64), (25, .int .i64 (64 : Nat)), (26, .int .i64 (0 : Nat))]) (m0 := [some ⟨1, 32, fun _ _ => .int .u8 0⟩, some ⟨1, 64, bytesG (fun i => if i < 0 then xorB (P i) 54 else P i)⟩, some ⟨1, 64, bytesG (fun i => if i < 0 then xorB (P i) 92 else P i)⟩]) [some 0, some 1, some 2] ⟨0, rfl, rfl, rfl⟩ ?_ ?_
    · refine .mk0 ⟨.eq _ _ rfl (.vsl _ _ _ _ rfl (fun _ _ _ _ => .int _ _)), .ptr _ _ _ _ rfl, .sl _ _ _ _ _ rfl, .sl _ _ _ _ _ rfl, Flat.i rfl, Flat.i rfl, trivial⟩ ⟨.old 0 0 _ _ rfl rfl ⟨rfl, Nat.le_refl _, fun i j hi hj => oneU0 hj rfl⟩, .old 1 1 _ _ rfl rfl ⟨rfl, Nat.le_refl _, fun i j hi hj => ?_⟩, .old 2 2 _ _ rfl rfl ⟨rfl, Nat.le_refl _, fun i j hi hj => ?_⟩, trivial⟩ rfl rfl
      · have hj : j < 1 := hj
        obtain rfl : j = 0 := by omega
        exact keyW1 (P := P) (f := f) (n := n) (a := fun i => xorB (P i) 54) hj (by omega) (hP' i hc) rfl
      · have hj : j < 1 := hj
        obtain rfl : j = 0 := by omega
        exact keyW1 (P := P) (f := f) (n := n) (a := fun i => xorB (P i) 92) hj (by omega) (hP' i hc) rfl
    · rintro q l m ⟨j, rfl, rfl, hq⟩
      conv => whnf
      repeat (refine ⟨⟨_, rfl⟩, ?_⟩; conv => whnf)
      refine condB_mk (fun hb => ?_) (fun hb => ?_)
      · have hb : j < 64 := by simp at hb; omega
        conv => whnf
        repeat (refine ⟨⟨_, rfl⟩, ?_⟩; conv => whnf)
        refine condB_ok (by simp; omega) ?_
        conv => whnf
        repeat (refine ⟨⟨_, rfl⟩, ?_⟩; conv => whnf)
        simp only [Int.toNat_natCast, Nat.zero_add]
        refine condB_ok (by simp [roomG, Nat.ble_eq]; omega) ?_
        conv => whnf
        repeat (refine ⟨⟨_, rfl⟩, ?_⟩; conv => whnf)
        refine condB_ok (by simp; omega) ?_
        conv => whnf
        repeat (refine ⟨⟨_, rfl⟩, ?_⟩; conv => whnf)
        simp only [Int.toNat_natCast, Nat.zero_add]
        refine condB_ok (by simp [roomG, Nat.ble_eq]; omega) ?_
        conv => whnf
        repeat (refine ⟨⟨_, rfl⟩, ?_⟩; conv => whnf)
        refine condB_ok (by simp; omega) ?_
        conv => whnf
        repeat (refine ⟨⟨_, rfl⟩, ?_⟩; conv => whnf)
        simp only [Int.toNat_natCast, Nat.zero_add]
        refine condB_ok (by simp [roomG, Nat.ble_eq]; omega) ?_
        conv => whnf
        repeat (refine ⟨⟨_, rfl⟩, ?_⟩; conv => whnf)
        refine condB_ok (by simp; omega) ?_
        conv => whnf
        repeat (refine ⟨⟨_, rfl⟩, ?_⟩; conv => whnf)
        simp only [Int.toNat_natCast, Nat.zero_add]
        refine condB_ok (by simp [roomG, Nat.ble_eq]; omega) ?_
        conv => whnf
        repeat (refine ⟨⟨_, rfl⟩, ?_⟩; conv => whnf)
        have e5 : IntKind.i64.wrap ((j : Int) + 1) = ((j + 1 : Nat) : Int) := by rw [w64 (by omega) (by omega)]; omega
        have e6 : ∀ x, bitsV .xor .u8 (if j < j then x else P j) 54 = xorB (P j) 54 := fun x => by rw [if_neg (Nat.lt_irrefl _)]; rfl
        have e7 : ∀ x, bitsV .xor .u8 (if j < j then x else P j) 92 = xorB (P j) 92 := fun x => by rw [if_neg (Nat.lt_irrefl _)]; rfl
        refine ⟨q - 1, [(1, .vsl 1 k c2 (bytesG g)), (4, .ptr 0 0 0), (6, .sl 1 0 64 64), (7, .sl 2 0 64 64), (25, .int .i64 (64 : Nat)), (26, .int .i64 ((j + 1 : Nat) : Int))], [some ⟨1, 32, fun _ _ => .int .u8 0⟩, some ⟨1, 64, bytesG (fun i => if i < j + 1 then xorB (P i) 54 else P i)⟩, some ⟨1, 64, bytesG (fun i => if i < j + 1 then xorB (P i) 92 else P i)⟩], [some 0, some 1, some 2], by omega, ⟨j + 1, rfl, rfl, by omega⟩, ?_⟩
        refine .mk0 ⟨.eq _ _ rfl (.vsl _ _ _ _ rfl (fun _ _ _ _ => .int _ _)), .ptr _ _ _ _ rfl, .sl _ _ _ _ _ rfl, .sl _ _ _ _ _ rfl, Flat.i rfl, Flat.i e5, trivial⟩ ⟨.old 0 0 _ _ rfl rfl ⟨rfl, Nat.le_refl _, fun i j hi hj => .eq _ _ rfl (.int _ _)⟩, .old 1 1 _ _ rfl rfl ⟨rfl, Nat.le_refl _, fun a b ha hb => ?_⟩, .old 2 2 _ _ rfl rfl ⟨rfl, Nat.le_refl _, fun a b ha hb => ?_⟩, trivial⟩ rfl rfl
        · exact updB (a := fun i => xorB (P i) 54) (z := P) hb (e6 _) rfl
        · exact updB (a := fun i => xorB (P i) 92) (z := P) hb (e7 _) rfl
      · have hb : j = 64 := by simp at hb; omega
        subst hb
        conv => whnf
        repeat (refine ⟨⟨_, rfl⟩, ?_⟩; conv => whnf)
        refine condB_ok (app_ok (by simp) rfl rfl (by omega) (by omega)) (fun cap1 hcap1 => ?_)
        conv => whnf
        repeat (refine ⟨⟨_, rfl⟩, ?_⟩; conv => whnf)
        refine S_SumR (n := 64 + k) (f := inF P g) (Shows.any rfl (by simp) (fun i hi => ?_)) (by omega) (fun i hi => ?_) (fun s1 hs1 hsb1 => ?_)
        · exact catP (fun i h => by simp only [inF, if_pos h]) (fun i h => by simp only [inF]; rw [if_neg (by omega), show 64 + i - 64 = i by omega]) (k := k) (fun i h => rfl) hi
        · by_cases h : i < 64
          · simp only [inF, if_pos h]; exact xorB_lt _ _
          · simp only [inF, if_neg h]; exact hg _ (by omega)
        rw [rowL]
        conv => whnf
        repeat (refine ⟨⟨_, rfl⟩, ?_⟩; conv => whnf)
        intro cap2 hcap2
        conv => whnf
        repeat (refine ⟨⟨_, rfl⟩, ?_⟩; conv => whnf)
        refine S_SumR (n := 96) (f := outF P s1) (Shows.any rfl (by simp) (fun i hi => ?_)) (by omega) (fun i hi => ?_) (fun s2 hs2 hsb2 => ?_)
        · exact catP (fun i h => by simp only [outF, if_pos h]) (fun i h => by simp only [outF]; rw [if_neg (by omega), show 64 + i - 64 = i by omega]) (k := 32) (fun i h => rowAt h rfl) hi
        · by_cases h : i < 64
          · simp only [outF, if_pos h]; exact xorB_lt _ _
          · simp only [outF, if_neg h]; exact hsb1 _
        rw [rowL]
        conv => whnf
        repeat (refine ⟨⟨_, rfl⟩, ?_⟩; conv => whnf)
        have e9 : s2 = M := by rw [hs2, hM, hs1]
        subst e9
        exact outRow2 rfl

theorem S_Mac {m : Mem} {x y : AV} {n k : Nat} {f g : Nat → Int} {K : AV → Mem → Prop} (hx : Shows m x n f) (hy : Shows m y k g) (hn : n ≤ 900000) (hk : k ≤ 900000) (hf : ∀ i, i < n → 0 ≤ f i ∧ f i ≤ 255) (hg : ∀ i, i < k → 0 ≤ g i ∧ g i ≤ 255)
    (h : ∀ s, s = macB n f k g → (∀ i, 0 ≤ s i ∧ s i ≤ 255) → K (.agg (rowL s)) m) : ACall Pg F_sha_Mac [x, y] m K := by
  obtain ⟨c1, hl⟩ := hx
  obtain ⟨c2, hl2⟩ := hy
  refine lift_flat (S_Mac0 n c1 f k c2 g hn hk hf hg) (.cons _ _ _ _ hl (.cons _ _ _ _ hl2 .nil)) ?_
  rintro v rfl
  exact h _ rfl (sumB_lt _ _)

end Go.Proofs.Ytfolpdmbpbbimaa
end

section
/- Streams; no condition. -/
set_option linter.unusedVariables false
set_option linter.unusedSimpArgs false
set_option maxRecDepth 100000
set_option pp.maxSteps 3000
namespace Go.Proofs.Ytfolpdmbpbbimaa
open Go Go.Wit

/-- A key's bytes. -/
def stF (k : Nat) (f : Nat → Int) (i : Nat) : Int := macB k f 8 (beF (i / 32 : Nat) 8) (i % 32)
theorem stW {nv : Bool} {σ : Nat → Option Nat} {k c i j : Nat} {f : Nat → Int} {s : Nat → Int} {h : Nat → Nat → AV} {A : AV} (hj : j < 1) (hi : i < 32 * (c + 1)) (hs : s = macB k f 8 (beF (c : Nat) 8)) (hA : A = catG (32 * c) (bytesG (stF k f)) h i j) (hh : ∀ t, t < 32 → h t 0 = .int .u8 (s t)) : RV nv σ A (bytesG (stF k f) i j) := by
  subst hA
  obtain rfl : j = 0 := by omega
  refine RV.of ?_ (.int _ _)
  by_cases h1 : i < 32 * c
  · rw [catG_lt h1]
  · rw [catG_ge (by omega), hh _ (by omega), hs]
    show _ = AV.int .u8 (macB k f 8 (beF (i / 32 : Nat) 8) (i % 32))
    rw [show i / 32 = c by omega, show i % 32 = i - 32 * c by omega]

theorem S_DStream0 (k c1 : Nat) (f : Nat → Int) (n : Int) (hk : k ≤ 900000) (hf : ∀ i, i < k → 0 ≤ f i ∧ f i ≤ 255) :
    ACall Pg F_draw_Stream [.vsl 1 k c1 (bytesG f), .int .i64 n] [] (fun v m' => ∃ n' f' x vs, v = .tup (x :: vs) ∧ ((0 ≤ n ∧ n ≤ 65536 ∧ n' = n.toNat ∧ f' = stF k f ∧ vs = [.int .i64 0]) ∨ (¬ (0 ≤ n ∧ n ≤ 65536) ∧ n' = 0 ∧ vs = [.int .i64 4])) ∧ RetB n' f' x m' ∧ Flats true vs) := by
  refine B_draw_Stream ⟨rfl, ?_⟩
  have hbad : ¬ (0 ≤ n ∧ n ≤ 65536) → ∀ m', ∃ n' f' x vs, AV.tup [.nils, .int .i64 4] = .tup (x :: vs) ∧ ((0 ≤ n ∧ n ≤ 65536 ∧ n' = n.toNat ∧ f' = stF k f ∧ vs = [.int .i64 0]) ∨ (¬ (0 ≤ n ∧ n ≤ 65536) ∧ n' = 0 ∧ vs = [.int .i64 4])) ∧ RetB n' f' x m' ∧ Flats true vs := fun h m' =>
    ⟨0, fun _ => 0, .nils, _, rfl, .inr ⟨h, rfl, rfl⟩, .inl ⟨rfl, rfl⟩, .cons _ _ (.int _ _) .nil⟩
  conv => whnf
  repeat (refine ⟨⟨[], rfl⟩, ?_⟩; conv => whnf)
  refine condB_mk (fun h0 => ?_) (fun h0 => ?_)
  rotate_left
  · conv => whnf
    repeat (refine ⟨⟨[], rfl⟩, ?_⟩; conv => whnf)
    exact hbad (by simp at h0; omega) []
  conv => whnf
  repeat (refine ⟨⟨[], rfl⟩, ?_⟩; conv => whnf)
  refine condB_mk (fun h1 => ?_) (fun h1 => ?_)
  · conv => whnf
    repeat (refine ⟨⟨[], rfl⟩, ?_⟩; conv => whnf)
    exact hbad (by simp at h1; omega) []
  obtain ⟨N, rfl⟩ : ∃ N : Nat, n = N := ⟨n.toNat, by simp at h0; omega⟩
  have hN : N ≤ 65536 := by simp at h1; omega
  clear h0 h1 hbad
  conv => whnf
  repeat (refine ⟨⟨[], rfl⟩, ?_⟩; conv => whnf)
  refine loop_wk mixed (I := fun q l m => ∃ (c c' : Nat), l = [(0, .vsl 1 k c1 (bytesG f)), (1, .int .i64 N), (6, .sl 0 0 (32 * c) c'), (7, .int .u64 c)] ∧ m = [some ⟨1, 32 * c, bytesG (stF k f)⟩] ∧ q + c = (N + 31) / 32) ((N + 31) / 32)
    (l0 := [(0, .vsl 1 k c1 (bytesG f)), (1, .int .i64 N), (6, .sl 0 0 (32 * 0) 0), (7, .int .u64 (0 : Nat))]) (m0 := [some ⟨1, 32 * 0, bytesG (stF k f)⟩]) [none] ⟨0, 0, rfl, rfl, rfl⟩ ?_ ?_
  · exact .mk0 ⟨.eq _ _ rfl (.vsl _ _ _ _ rfl (fun _ _ _ _ => .int _ _)), Flat.i rfl, .nils _ _, Flat.i rfl, trivial⟩ ⟨.ph _ _ _ rfl, trivial⟩ rfl rfl
  · rintro q l m ⟨c, c', rfl, rfl, hq⟩
    conv => whnf
    repeat (refine ⟨⟨[], rfl⟩, ?_⟩; conv => whnf)
    refine condB_mk (fun hb => ?_) (fun hb => ?_)
    · have hb : 32 * c < N := by simp at hb; omega
      conv => whnf
      repeat (refine ⟨⟨[], rfl⟩, ?_⟩; conv => whnf)
      refine S_number (s := 8) (x := (c : Int)) (by omega) (by decide) (fun cap2 => ?_)
      conv => whnf
      repeat (refine ⟨⟨[], rfl⟩, ?_⟩; conv => whnf)
      refine S_Mac (f := f) (g := beF c 8) Shows.vsl (Shows.sl rfl (Nat.le_refl 8) fun i hi => by rw [Nat.zero_add]) hk (by decide) hf (fun _ _ => beF_lt) (fun s hs hsb => ?_)
      rw [rowL]
      conv => whnf
      repeat (refine ⟨⟨[], rfl⟩, ?_⟩; conv => whnf)
      refine condB_ok (app_ok (by first | rfl | simp) rfl rfl (by omega) (by omega)) (fun cap4 hcap4 => ?_)
      conv => whnf
      repeat (refine ⟨⟨[], rfl⟩, ?_⟩; conv => whnf)
      have e5 : IntKind.u64.wrap ((c : Int) + 1) = ((c + 1 : Nat) : Int) := by rw [wu64]; omega
      refine ⟨q - 1, [(0, .vsl 1 k c1 (bytesG f)), (1, .int .i64 N), (6, .sl 0 0 (32 * (c + 1)) cap4), (7, .int .u64 ((c + 1 : Nat) : Int))], [some ⟨1, 32 * (c + 1), bytesG (stF k f)⟩], [some 3], by omega, ⟨c + 1, cap4, rfl, rfl, by omega⟩, ?_⟩
      refine .mk0 ⟨.eq _ _ rfl (.vsl _ _ _ _ rfl (fun _ _ _ _ => .int _ _)), Flat.i rfl, .sl _ _ _ _ _ rfl, Flat.i e5, trivial⟩ ⟨.old 0 3 _ _ rfl rfl ⟨rfl, Nat.le_refl _, fun i j hi hj => ?_⟩, trivial⟩ rfl rfl
      dsimp only
      refine stW hj hi hs rfl fun t ht => ?_
      refine rowAtE ht ?_ rfl
      omega
    · have hb : N ≤ 32 * c := by simp at hb; omega
      conv => whnf
      repeat (refine ⟨⟨[], rfl⟩, ?_⟩; conv => whnf)
      refine condB_ok (by simp; omega) ?_
      conv => whnf
      repeat (refine ⟨⟨[], rfl⟩, ?_⟩; conv => whnf)
      refine condB_ok (app_ok rfl (decide_eq_true (by show 0 + 0 + N ≤ 32 * c; omega)) rfl (by show (0 + N) * 1 ≤ 140737488355328; omega) (by show 0 + N ≤ 140737488355328; omega)) (fun cap4 hcap4 => ?_)
      conv => whnf
      repeat (refine ⟨⟨[], rfl⟩, ?_⟩; conv => whnf)
      refine ⟨N, stF k f, _, _, rfl, .inl ⟨by omega, by omega, rfl, rfl, rfl⟩, .inr ⟨2, cap4, 0 + N, _, by rw [Nat.zero_add]; rfl, rfl, by omega, fun i hi => ?_⟩, .cons _ _ (.int _ _) .nil⟩
      dsimp only
      rw [catG_ge (by omega)]
      show bytesG (stF k f) (0 + 0 + (i - 0)) 0 = _
      rw [show 0 + 0 + (i - 0) = i by omega]
      rfl
theorem S_DStream {m : Mem} {x : AV} {K : AV → Mem → Prop} {k : Nat} {f : Nat → Int} {n : Int} (hx : Shows m x k f) (hk : k ≤ 900000) (hf : ∀ i, i < k → 0 ≤ f i ∧ f i ≤ 255)
    (h1 : 0 ≤ n → n ≤ 65536 → ∀ cap, memK (m ++ [some ⟨1, n.toNat, bytesG (stF k f)⟩]) (K (.tup [.sl m.length 0 n.toNat cap, .int .i64 0])))
    (h2 : ¬ (0 ≤ n ∧ n ≤ 65536) → ∀ g cap, memK (m ++ [some ⟨1, 0, bytesG g⟩]) (K (.tup [.sl m.length 0 0 cap, .int .i64 4]))) : ACall Pg F_draw_Stream [x, .int .i64 n] m K := by
  simp only [memK_eq] at h1 h2
  obtain ⟨cap, hl⟩ := hx
  refine lift_tup (S_DStream0 k cap f n hk hf) (.cons _ _ _ _ hl (.cons _ _ _ _ lend_int .nil)) ?_
  rintro n' f' cap' vs (⟨g1, g2, rfl, rfl, rfl⟩ | ⟨h, rfl, rfl⟩)
  · exact h1 g1 g2 cap'
  · exact h2 h f' cap'

end Go.Proofs.Ytfolpdmbpbbimaa
end

section
/- Seals; no condition. -/
set_option linter.unusedVariables false
set_option linter.unusedSimpArgs false
set_option maxRecDepth 100000
set_option pp.maxSteps 3000
namespace Go.Proofs.Ytfolpdmbpbbimaa
open Go Go.Wit

def isD (i : Int) : Bool := decide (1 ≤ i) && decide (i ≤ 8)
theorem S_dealer {m : Mem} {K : AV → Mem → Prop} {i : Int} (h : K (.bool (isD i)) m) : ACall Pg F_pair_dealer [.int .i64 i] m K := by
  have h0 : ACall Pg F_pair_dealer [.int .i64 i] [] (fun v _ => v = .bool (isD i) ∧ Flat true v) := by
    refine B_pair_dealer ⟨rfl, ?_⟩
    conv => whnf
    repeat (refine ⟨⟨[], rfl⟩, ?_⟩; conv => whnf)
    refine condB_mk (fun h => ?_) (fun h => ?_)
    · conv => whnf
      repeat (refine ⟨⟨[], rfl⟩, ?_⟩; conv => whnf)
      have e : decide (1 ≤ i) = true := by simpa using h
      exact ⟨by unfold isD; rw [e]; rfl, .bool _⟩
    · conv => whnf
      repeat (refine ⟨⟨[], rfl⟩, ?_⟩; conv => whnf)
      have e : decide (1 ≤ i) = false := by simpa using h
      exact ⟨by unfold isD; rw [e]; rfl, .bool _⟩
  refine lift_flat h0 (.cons _ _ _ _ lend_int .nil) ?_
  rintro v rfl
  exact h

/-- A key's bytes, from and to; what they turn. -/
def keyF (P : Pt Fp) (a b : Int) : Nat → Int := catB (pbN P) (pbF P) (fun i => if i = 0 then a else b)
def tnF (P : Pt Fp) (a b : Int) (f : Nat → Int) (i : Nat) : Int := xorB (f i) (stF (pbN P + 2) (keyF P a b) i)
theorem keyF_in {P : Pt Fp} {a b : Int} (ha : isD a = true) (hb : isD b = true) (i : Nat) (hi : i < pbN P + 2) : 0 ≤ keyF P a b i ∧ keyF P a b i ≤ 255 := by
  simp only [isD, Bool.and_eq_true, decide_eq_true_eq] at ha hb
  refine catB_in (m := 2) (fun i _ => pbF_lt P i) (fun i _ => ?_) hi
  split <;> omega
theorem isD_u8 {a : Int} (ha : isD a = true) : IntKind.u8.wrap a = a := by
  simp only [isD, Bool.and_eq_true, decide_eq_true_eq] at ha
  rw [IntKind.wrap_u8]; omega

theorem rowL_at {f : Nat → Int} {i : Nat} {A : AV} (hi : i < 32) (hA : A = (List.map (fun i => AV.int .u8 (f i)) (List.range 32)).getD (i * 1 + 0) .un) : A = .int .u8 (f i) := by
  rw [hA, show i * 1 + 0 = i by omega]
  exact rowL_get hi
theorem turnW {nv : Bool} {σ : Nat → Option Nat} {T f g : Nat → Int} {k i j p q r : Nat} {x : Int} {A : AV} (hj : j < 1) (hx : x = bitsV .xor .u8 (if q < k then T q else f q) (g r)) (hT : T k = xorB (f k) (g k)) (hp : p = k) (hq : q = k) (hr : r = k) (hA : A = updG ⟨1, 32, bytesG (fun i => if i < k then T i else f i)⟩ p 0 1 [.int .u8 x] i j) :
    RV nv σ A (bytesG (fun i => if i < k + 1 then T i else f i) i j) := by
  subst hp hq hr
  exact updB (a := T) (z := f) hj (by rw [hx, if_neg (Nat.lt_irrefl _), hT]; rfl) hA
theorem outTurn {s z : Nat → Int} {g : Nat → Nat → AV} {l : List AV} (hl : l = List.map (cellG ⟨1, 32, updG ⟨1, 32, g⟩ 0 0 32 (List.map (cellG ⟨1, 32, bytesG (fun i => if i < 32 then s i else z i)⟩ 0 0) (List.range 32))⟩ 0 0) (List.range 32)) : AV.agg l = .agg (rowL s) := by
  have e : List.map (cellG ⟨1, 32, bytesG (fun i => if i < 32 then s i else z i)⟩ 0 0) (List.range 32) = (List.range 32).map fun i => .int .u8 (s i) := by
    refine List.map_congr_left fun i hi => ?_
    rw [cellG_one, Nat.zero_add]
    show AV.int .u8 (if i < 32 then s i else z i) = _
    rw [if_pos (List.mem_range.1 hi)]
  rw [e] at hl
  exact (outRow2 hl).1
theorem S_turned0 (P : Pt Fp) (oP : On P) (a b : Int) (ha : isD a = true) (hb : isD b = true) (f : Nat → Int) (hf : ∀ i, i < 32 → 0 ≤ f i ∧ f i ≤ 255) :
    ACall Pg F_pair_turned [ptA P, .int .i64 a, .int .i64 b, .agg (rowL f)] [] (fun v _ => v = .tup [.agg (rowL (tnF P a b f)), .int .i64 0] ∧ Flat true v) := by
  have hT : ∀ i, tnF P a b f i = xorB (f i) (stF (pbN P + 2) (keyF P a b) i) := fun _ => rfl
  generalize tnF P a b f = T at *
  have hk := keyF_in (P := P) ha hb
  have hn := pbN_le P
  have hcell : ∀ {n : Nat} {g h : Nat → Nat → AV}, (∀ i, g i 0 = .int .u8 (pbF P i)) → h 0 0 = .int .u8 (IntKind.u8.wrap a) → h 1 0 = .int .u8 (IntKind.u8.wrap b) → ∀ i, i < pbN P + 2 → catG (pbN P) g h i 0 = .int .u8 (keyF P a b i) := fun h0 h1 h2 i hi => by
    unfold keyF
    by_cases h : i < pbN P
    · rw [catG_lt h, catB_lt h, h0]
    · rw [catG_ge (by omega), catB_ge (by omega)]
      have : i - pbN P = 0 ∨ i - pbN P = 1 := by omega
      rcases this with e | e
      · rw [e, h1, isD_u8 ha, if_pos rfl]
      · rw [e, h2, isD_u8 hb, if_neg (by decide)]
  unfold rowL
  refine B_pair_turned ⟨rfl, ?_⟩
  conv => whnf
  repeat (refine ⟨⟨_, rfl⟩, ?_⟩; conv => whnf)
  refine S_dealer ?_
  rw [ha]
  conv => whnf
  repeat (refine ⟨⟨_, rfl⟩, ?_⟩; conv => whnf)
  refine S_dealer ?_
  rw [hb]
  conv => whnf
  repeat (refine ⟨⟨_, rfl⟩, ?_⟩; conv => whnf)
  refine S_CBytes oP (fun cap1 => ?_)
  conv => whnf
  repeat (refine ⟨⟨_, rfl⟩, ?_⟩; conv => whnf)
  refine condB_ok (app_ok (by first | rfl | simp) rfl rfl (by omega) (by omega)) (fun cap2 hcap2 => ?_)
  conv => whnf
  repeat (refine ⟨⟨_, rfl⟩, ?_⟩; conv => whnf)
  refine S_DStream (k := pbN P + 2) (f := keyF P a b) (n := 32) (Shows.any rfl (Nat.le_of_eq (Nat.zero_add _)) fun i hi => ?_) (by omega) hk (fun _ _ cap3 => ?_) (fun h => absurd h (by decide))
  · rw [show 0 + i = i from Nat.zero_add i]
    dsimp only
    exact hcell (n := 0) (fun _ => rfl) rfl rfl i hi
  conv => whnf
  repeat (refine ⟨⟨_, rfl⟩, ?_⟩; conv => whnf)
  refine loop_wk mixed (I := fun q l m => ∃ (j : Nat), l = [(7, .ptr 0 0 0), (8, .ptr 1 0 0), (9, .int .i64 0), (12, .sl 2 0 32 cap3), (47, .int .i64 j)] ∧ m = [some ⟨1, 32, bytesG (fun i => if i < j then T i else f i)⟩, some ⟨1, 32, fun _ _ => .int .u8 0⟩, some ⟨1, 32, bytesG (stF (pbN P + 2) (keyF P a b))⟩] ∧ q + j = 32) 32
    (l0 := [(7, .ptr 0 0 0), (8, .ptr 1 0 0), (9, .int .i64 0), (12, .sl 2 0 32 cap3), (47, .int .i64 (0 : Nat))]) (m0 := [some ⟨1, 32, bytesG (fun i => if i < 0 then T i else f i)⟩, some ⟨1, 32, fun _ _ => .int .u8 0⟩, some ⟨1, 32, bytesG (stF (pbN P + 2) (keyF P a b))⟩]) [some 1, some 2, some 6] ⟨0, rfl, rfl, rfl⟩ ?_ ?_
  · refine .mk0 ⟨.ptr _ _ _ _ rfl, .ptr _ _ _ _ rfl, Flat.i rfl, .sl _ _ _ _ _ rfl, Flat.i rfl, trivial⟩ ⟨.old 0 1 _ _ rfl rfl ⟨rfl, Nat.le_refl _, fun i j hi hj => ?_⟩, .old 1 2 _ _ rfl rfl ⟨rfl, Nat.le_refl _, fun i j hi hj => oneU0 hj rfl⟩, .old 2 6 _ _ rfl rfl ⟨rfl, Nat.le_refl _, fun i j hi hj => RV.of rfl (.int _ _)⟩, trivial⟩ rfl rfl
    have hj : j < 1 := hj
    obtain rfl : j = 0 := by omega
    exact zeroB (j := 0) (a := T) (z := f) (rowL_at hi rfl)
  · rintro q l m ⟨j, rfl, rfl, hq⟩
    conv => whnf
    repeat (refine ⟨⟨_, rfl⟩, ?_⟩; conv => whnf)
    refine condB_mk (fun hb => ?_) (fun hb => ?_)
    · have hb : j < 32 := by simp at hb; omega
      conv => whnf
      repeat (refine ⟨⟨_, rfl⟩, ?_⟩; conv => whnf)
      refine condB_ok (by simp; omega) ?_
      conv => whnf
      repeat (refine ⟨⟨_, rfl⟩, ?_⟩; conv => whnf)
      refine condB_ok (by simp [roomG, Nat.ble_eq]; omega) ?_
      conv => whnf
      repeat (refine ⟨⟨_, rfl⟩, ?_⟩; conv => whnf)
      refine condB_ok (by simp; omega) ?_
      conv => whnf
      repeat (refine ⟨⟨_, rfl⟩, ?_⟩; conv => whnf)
      refine condB_ok (by simp [roomG, Nat.ble_eq]; omega) ?_
      conv => whnf
      repeat (refine ⟨⟨_, rfl⟩, ?_⟩; conv => whnf)
      refine condB_ok (by simp; omega) ?_
      conv => whnf
      repeat (refine ⟨⟨_, rfl⟩, ?_⟩; conv => whnf)
      refine condB_ok (by simp [roomG, Nat.ble_eq]; omega) ?_
      conv => whnf
      repeat (refine ⟨⟨_, rfl⟩, ?_⟩; conv => whnf)
      have e5 : IntKind.i64.wrap ((j : Int) + 1) = ((j + 1 : Nat) : Int) := by rw [w64 (by omega) (by omega)]; omega
      refine ⟨q - 1, [(7, .ptr 0 0 0), (8, .ptr 1 0 0), (9, .int .i64 0), (12, .sl 2 0 32 cap3), (47, .int .i64 ((j + 1 : Nat) : Int))], [some ⟨1, 32, bytesG (fun i => if i < j + 1 then T i else f i)⟩, some ⟨1, 32, fun _ _ => .int .u8 0⟩, some ⟨1, 32, bytesG (stF (pbN P + 2) (keyF P a b))⟩], [some 0, some 1, some 2], by omega, ⟨j + 1, rfl, rfl, by omega⟩, ?_⟩
      exact .mk0 ⟨.ptr _ _ _ _ rfl, .ptr _ _ _ _ rfl, Flat.i rfl, .sl _ _ _ _ _ rfl, Flat.i e5, trivial⟩ ⟨.old 0 0 _ _ rfl rfl ⟨rfl, Nat.le_refl _, fun x y hx hy => turnW hy rfl (hT j) (Nat.zero_add _) (Nat.zero_add _) (Nat.zero_add _) rfl⟩, .old 1 1 _ _ rfl rfl ⟨rfl, Nat.le_refl _, fun i j hi hj => .eq _ _ rfl (.int _ _)⟩, .old 2 2 _ _ rfl rfl ⟨rfl, Nat.le_refl _, fun i j hi hj => RV.of rfl (.int _ _)⟩, trivial⟩ rfl rfl
    · have hb : j = 32 := by simp at hb; omega
      subst hb
      conv => whnf
      repeat (refine ⟨⟨_, rfl⟩, ?_⟩; conv => whnf)
      have e0 := outTurn (s := T) (z := f) (g := fun _ _ => .int .u8 0) rfl
      refine ⟨congrArg (fun x => AV.tup [x, .int .i64 0]) e0, ?_⟩
      refine Eq.mpr (congrArg (fun x => Flat true (AV.tup [x, .int .i64 0])) e0) ?_
      exact .tup _ (.cons _ _ flat_rowA (.cons _ _ (.int _ _) .nil))
theorem S_turned {m : Mem} {K : AV → Mem → Prop} {P : Pt Fp} {a b : Int} {f : Nat → Int} (oP : On P) (ha : isD a = true) (hb : isD b = true) (hf : ∀ i, i < 32 → 0 ≤ f i ∧ f i ≤ 255) (h : ∀ s, s = tnF P a b f → (∀ i, 0 ≤ s i ∧ s i ≤ 255) → K (.tup [.agg (rowL s), .int .i64 0]) m) : ACall Pg F_pair_turned [ptA P, .int .i64 a, .int .i64 b, .agg (rowL f)] m K := by
  refine lift_flat (S_turned0 P oP a b ha hb f hf) (.cons _ _ _ _ (lend_flat flat_ptA) (.cons _ _ _ _ lend_int (.cons _ _ _ _ lend_int (.cons _ _ _ _ (lend_flat flat_rowA) .nil)))) ?_
  rintro v rfl
  exact h _ rfl fun i => xorB_lt _ _

theorem S_turned_no {m : Mem} {K : AV → Mem → Prop} {i : Bool} {x y : Nat} {a b : Int} {f : Nat → Int} (hab : (isD a && isD b) = false) (h : K (.tup [.agg (rowL fun _ => 0), .int .i64 1]) m) : ACall Pg F_pair_turned [rawA i x y, .int .i64 a, .int .i64 b, .agg (rowL f)] m K := by
  have h0 : ACall Pg F_pair_turned [rawA i x y, .int .i64 a, .int .i64 b, .agg (rowL f)] [] (fun v _ => v = .tup [.agg (rowL fun _ => 0), .int .i64 1] ∧ Flat true v) := by
    unfold rowL
    refine B_pair_turned ⟨rfl, ?_⟩
    conv => whnf
    repeat (refine ⟨⟨_, rfl⟩, ?_⟩; conv => whnf)
    refine S_dealer ?_
    cases ha : isD a with
    | false =>
      conv => whnf
      repeat (refine ⟨⟨_, rfl⟩, ?_⟩; conv => whnf)
      have e0 := (outRow2 (s := fun _ => 0) (g := fun _ j => [AV.int .u8 0].getD j .un) rfl).1
      refine ⟨congrArg (fun x => AV.tup [x, .int .i64 1]) e0, ?_⟩
      refine Eq.mpr (congrArg (fun x => Flat true (AV.tup [x, .int .i64 1])) e0) ?_
      exact .tup _ (.cons _ _ flat_rowA (.cons _ _ (.int _ _) .nil))
    | true =>
      rw [ha, Bool.true_and] at hab
      conv => whnf
      repeat (refine ⟨⟨_, rfl⟩, ?_⟩; conv => whnf)
      refine S_dealer ?_
      rw [hab]
      conv => whnf
      repeat (refine ⟨⟨_, rfl⟩, ?_⟩; conv => whnf)
      have e0 := (outRow2 (s := fun _ => 0) (g := fun _ j => [AV.int .u8 0].getD j .un) rfl).1
      refine ⟨congrArg (fun x => AV.tup [x, .int .i64 1]) e0, ?_⟩
      refine Eq.mpr (congrArg (fun x => Flat true (AV.tup [x, .int .i64 1])) e0) ?_
      exact .tup _ (.cons _ _ flat_rowA (.cons _ _ (.int _ _) .nil))
  refine lift_flat h0 (.cons _ _ _ _ (lend_flat flat_rawA) (.cons _ _ _ _ lend_int (.cons _ _ _ _ lend_int (.cons _ _ _ _ (lend_flat flat_rowA) .nil)))) ?_
  rintro v rfl
  exact h
theorem S_turned_bad {m : Mem} {K : AV → Mem → Prop} {i : Bool} {x y : Nat} {a b : Int} {f : Nat → Int} (hx : x < w256) (hy : y < w256) (hbad : Bad i x y) (ha : isD a = true) (hb : isD b = true) (h : K (.tup [.agg (rowL fun _ => 0), .int .i64 3]) m) : ACall Pg F_pair_turned [rawA i x y, .int .i64 a, .int .i64 b, .agg (rowL f)] m K := by
  have h0 : ACall Pg F_pair_turned [rawA i x y, .int .i64 a, .int .i64 b, .agg (rowL f)] [] (fun v _ => v = .tup [.agg (rowL fun _ => 0), .int .i64 3] ∧ Flat true v) := by
    unfold rowL
    refine B_pair_turned ⟨rfl, ?_⟩
    conv => whnf
    repeat (refine ⟨⟨_, rfl⟩, ?_⟩; conv => whnf)
    refine S_dealer ?_
    rw [ha]
    conv => whnf
    repeat (refine ⟨⟨_, rfl⟩, ?_⟩; conv => whnf)
    refine S_dealer ?_
    rw [hb]
    conv => whnf
    repeat (refine ⟨⟨_, rfl⟩, ?_⟩; conv => whnf)
    refine S_CBytes_bad (i := i) (x := x) (y := y) hx hy hbad (fun cap1 f1 => ?_)
    conv => whnf
    repeat (refine ⟨⟨_, rfl⟩, ?_⟩; conv => whnf)
    have e0 := (outRow2 (s := fun _ => 0) (g := fun _ j => [AV.int .u8 0].getD j .un) rfl).1
    refine ⟨congrArg (fun x => AV.tup [x, .int .i64 3]) e0, ?_⟩
    refine Eq.mpr (congrArg (fun x => Flat true (AV.tup [x, .int .i64 3])) e0) ?_
    exact .tup _ (.cons _ _ flat_rowA (.cons _ _ (.int _ _) .nil))
  refine lift_flat h0 (.cons _ _ _ _ (lend_flat flat_rawA) (.cons _ _ _ _ lend_int (.cons _ _ _ _ lend_int (.cons _ _ _ _ (lend_flat flat_rowA) .nil)))) ?_
  rintro v rfl
  exact h
end Go.Proofs.Ytfolpdmbpbbimaa
end

section
/- Seal and open; no condition. -/
set_option linter.unusedVariables false
set_option linter.unusedSimpArgs false
set_option maxRecDepth 100000
set_option pp.maxSteps 3000
namespace Go.Proofs.Ytfolpdmbpbbimaa
open Go Go.Wit

/-- What turned makes of any key, from and to. -/
theorem S_turnedAny {m : Mem} {K : AV → Mem → Prop} {i : Bool} {x y : Nat} {a b : Int} {f : Nat → Int} (hx : x < w256) (hy : y < w256) (hf : ∀ i, i < 32 → 0 ≤ f i ∧ f i ≤ 255)
    (h1 : (isD a && isD b) = false → K (.tup [.agg (rowL fun _ => 0), .int .i64 1]) m)
    (h2 : isD a = true → isD b = true → Bad i x y → K (.tup [.agg (rowL fun _ => 0), .int .i64 3]) m)
    (h3 : isD a = true → isD b = true → ∀ P s, On P → rawA i x y = ptA P → s = tnF P a b f → (∀ i, 0 ≤ s i ∧ s i ≤ 255) → K (.tup [.agg (rowL s), .int .i64 0]) m) : ACall Pg F_pair_turned [rawA i x y, .int .i64 a, .int .i64 b, .agg (rowL f)] m K := by
  cases hab : (isD a && isD b) with
  | false => exact S_turned_no hab (h1 hab)
  | true =>
    rw [Bool.and_eq_true] at hab
    by_cases hP : ∃ P, On P ∧ rawA i x y = ptA P
    · obtain ⟨P, oP, e⟩ := hP
      rw [e]
      exact S_turned oP hab.1 hab.2 hf fun s hs hb => h3 hab.1 hab.2 P s oP e hs hb
    · have hbad : Bad i x y := fun P oP e => hP ⟨P, oP, e⟩
      exact S_turned_bad hx hy hbad hab.1 hab.2 (h2 hab.1 hab.2 hbad)
theorem flat_st {s : Nat → Int} {e : Int} : Flat true (.tup [.agg (rowL s), .int .i64 e]) := .tup _ (.cons _ _ flat_rowA (.cons _ _ (.int _ _) .nil))
theorem S_Seal0 (i : Bool) (x y : Nat) (a b : Int) (n : Nat) (hx : x < w256) (hy : y < w256) : ACall Pg F_pair_Seal [rawA i x y, .int .i64 a, .int .i64 b, numA n] [] (fun v _ =>
    (((isD a && isD b) = false ∧ v = .tup [.agg (rowL fun _ => 0), .int .i64 1]) ∨ (isD a = true ∧ isD b = true ∧ Bad i x y ∧ v = .tup [.agg (rowL fun _ => 0), .int .i64 3]) ∨
     (isD a = true ∧ isD b = true ∧ ∃ P, On P ∧ rawA i x y = ptA P ∧ v = .tup [.agg (rowL (tnF P a b (byteZ n))), .int .i64 0])) ∧ Flat true v) := by
  refine B_pair_Seal ⟨rfl, ?_⟩
  conv => whnf
  repeat (refine ⟨⟨_, rfl⟩, ?_⟩; conv => whnf)
  refine S_LBytes (a := n) (fun s hs hb0 => ?_)
  conv => whnf
  repeat (refine ⟨⟨_, rfl⟩, ?_⟩; conv => whnf)
  refine S_turnedAny (i := i) (x := x) (y := y) hx hy (fun i _ => hb0 i) (fun h => ?_) (fun h1 h2 h3 => ?_) (fun h1 h2 P t oP eP ht hbt => ?_)
  · rw [rowL]
    conv => whnf
    repeat (refine ⟨⟨_, rfl⟩, ?_⟩; conv => whnf)
    have e0 := (outRow2 (s := fun _ => 0) (g := fun _ j => [AV.int .u8 0].getD j .un) rfl).1
    refine ⟨.inl ⟨h, congrArg (fun x => AV.tup [x, .int .i64 1]) e0⟩, ?_⟩
    exact Eq.mpr (congrArg (fun x => Flat true (AV.tup [x, .int .i64 1])) e0) flat_st
  · rw [rowL]
    conv => whnf
    repeat (refine ⟨⟨_, rfl⟩, ?_⟩; conv => whnf)
    have e0 := (outRow2 (s := fun _ => 0) (g := fun _ j => [AV.int .u8 0].getD j .un) rfl).1
    refine ⟨.inr (.inl ⟨h1, h2, h3, congrArg (fun x => AV.tup [x, .int .i64 3]) e0⟩), ?_⟩
    exact Eq.mpr (congrArg (fun x => Flat true (AV.tup [x, .int .i64 3])) e0) flat_st
  · rw [rowL]
    conv => whnf
    repeat (refine ⟨⟨_, rfl⟩, ?_⟩; conv => whnf)
    have e0 := (outRow2 (s := t) (g := fun _ j => [AV.int .u8 0].getD j .un) rfl).1
    refine ⟨.inr (.inr ⟨h1, h2, P, oP, eP, (congrArg (fun x => AV.tup [x, .int .i64 0]) e0).trans (by rw [ht, hs])⟩), ?_⟩
    exact Eq.mpr (congrArg (fun x => Flat true (AV.tup [x, .int .i64 0])) e0) flat_st
theorem S_Seal {m : Mem} {K : AV → Mem → Prop} {i : Bool} {x y n : Nat} {a b : Int} (hx : x < w256) (hy : y < w256)
    (h1 : (isD a && isD b) = false → K (.tup [.agg (rowL fun _ => 0), .int .i64 1]) m)
    (h2 : isD a = true → isD b = true → Bad i x y → K (.tup [.agg (rowL fun _ => 0), .int .i64 3]) m)
    (h3 : isD a = true → isD b = true → ∀ P s, On P → rawA i x y = ptA P → s = tnF P a b (byteZ n) → (∀ i, 0 ≤ s i ∧ s i ≤ 255) → K (.tup [.agg (rowL s), .int .i64 0]) m) : ACall Pg F_pair_Seal [rawA i x y, .int .i64 a, .int .i64 b, numA n] m K := by
  refine lift_flat (S_Seal0 i x y a b n hx hy) (.cons _ _ _ _ (lend_flat flat_rawA) (.cons _ _ _ _ lend_int (.cons _ _ _ _ lend_int (.cons _ _ _ _ lend_numA .nil)))) ?_
  rintro v (⟨h, rfl⟩ | ⟨g1, g2, g3, rfl⟩ | ⟨g1, g2, P, oP, e, rfl⟩)
  · exact h1 h
  · exact h2 g1 g2 g3
  · exact h3 g1 g2 P _ oP e rfl fun i => xorB_lt _ _
end Go.Proofs.Ytfolpdmbpbbimaa
end

section
/- Dealers; no condition. -/
set_option linter.unusedVariables false
set_option linter.unusedSimpArgs false
set_option maxRecDepth 100000
set_option pp.maxSteps 3000
set_option pp.deepTerms false
set_option pp.deepTerms.threshold 7
namespace Go.Proofs.Ytfolpdmbpbbimaa
open Go Go.Wit

/-- A dealer's parts. -/
structure Dl where
  ac : Int
  i : Bool
  x : Nat
  y : Nat
  lb : ByteArray
  hd : Int
  ps : Bool
  ns : Nat
  S : Nat → Nat → Int
  nc : Nat
  I : Nat → Bool
  X : Nat → Nat
  Y : Nat → Nat
  bd : Bool
  st : Bool
  j : Bool
  u : Nat
  v : Nat
def dlL (d : Dl) (sl co : AV) : List AV := [.int .i64 d.ac, .bool d.i, .int .u64 (lim d.x 0), .int .u64 (lim d.x 1), .int .u64 (lim d.x 2), .int .u64 (lim d.x 3), .int .u64 (lim d.y 0), .int .u64 (lim d.y 1), .int .u64 (lim d.y 2), .int .u64 (lim d.y 3),
  .str d.lb, .int .i64 d.hd, .bool d.ps, sl, co, .bool d.bd, .bool d.st, .bool d.j, .int .u64 (lim d.u 0), .int .u64 (lim d.u 1), .int .u64 (lim d.u 2), .int .u64 (lim d.u 3), .int .u64 (lim d.v 0), .int .u64 (lim d.v 1), .int .u64 (lim d.v 2), .int .u64 (lim d.v 3)]
def dlG (D : Nat → Dl) (c1 c2 : Nat → Nat) : Nat → Nat → AV := fun k j => (dlL (D k) (.vsl 32 (D k).ns (c1 k) (sealG (D k).S)) (.vsl 9 (D k).nc (c2 k) (rawsG (D k).I (D k).X (D k).Y))).getD j .un
theorem flat_dlL {nv : Bool} {d : Dl} {sl co : AV} (h1 : Flat nv sl) (h2 : Flat nv co) (j : Nat) : Flat nv ((dlL d sl co).getD j .un) := by
  by_cases hj : j < 26
  · have : j = 0 ∨ j = 1 ∨ j = 2 ∨ j = 3 ∨ j = 4 ∨ j = 5 ∨ j = 6 ∨ j = 7 ∨ j = 8 ∨ j = 9 ∨ j = 10 ∨ j = 11 ∨ j = 12 ∨ j = 13 ∨ j = 14 ∨ j = 15 ∨ j = 16 ∨ j = 17 ∨ j = 18 ∨ j = 19 ∨ j = 20 ∨ j = 21 ∨ j = 22 ∨ j = 23 ∨ j = 24 ∨ j = 25 := by omega
    rcases this with rfl | rfl | rfl | rfl | rfl | rfl | rfl | rfl | rfl | rfl | rfl | rfl | rfl | rfl | rfl | rfl | rfl | rfl | rfl | rfl | rfl | rfl | rfl | rfl | rfl | rfl
    all_goals first
      | exact h1
      | exact h2
      | exact .int _ _
      | exact .bool _
      | exact .str _
  · rw [List.getD_eq_getElem?_getD, List.getElem?_eq_none (by show 26 ≤ j; omega)]; exact .un
theorem flat_dlG {D : Nat → Dl} {c1 c2 : Nat → Nat} {k j : Nat} : Flat false (dlG D c1 c2 k j) := flat_dlL flat_seals flat_raws j
theorem flat_dls {n cap : Nat} {D : Nat → Dl} {c1 c2 : Nat → Nat} : Flat false (.vsl 26 n cap (dlG D c1 c2)) := .vsl _ _ _ _ rfl fun _ _ _ _ => flat_dlG
/-- What stands in slot x shows the n dealers D. -/
def ShowsD (m : Mem) (x : AV) (n : Nat) (D : Nat → Dl) : Prop := ∃ cap c1 c2, Lend (fun _ => none) (List.range m.length) m x (.vsl 26 n cap (dlG D c1 c2))
theorem ShowsD.vsl {m : Mem} {n cap : Nat} {D : Nat → Dl} {c1 c2 : Nat → Nat} : ShowsD m (.vsl 26 n cap (dlG D c1 c2)) n D := ⟨cap, c1, c2, lend_flat flat_dls⟩
theorem ShowsD.nils {m : Mem} {D : Nat → Dl} : ShowsD m .nils 0 D := ⟨0, fun _ => 0, fun _ => 0, .nils _ _⟩
theorem S_dnum {m : Mem} {x : AV} {K : AV → Mem → Prop} {n : Nat} {D : Nat → Dl} {i : Int} (hx : ShowsD m x n D) (h : ∀ b, b = (decide (1 ≤ i) && decide (i ≤ (n : Int))) → K (.bool b) m) : ACall Pg F_deal_number [x, .int .i64 i] m K := by
  have h0 : ∀ cap c1 c2, ACall Pg F_deal_number [.vsl 26 n cap (dlG D c1 c2), .int .i64 i] [] (fun v _ => v = .bool (decide (1 ≤ i) && decide (i ≤ (n : Int))) ∧ Flat true v) := fun cap c1 c2 => by
    refine B_deal_number ⟨rfl, ?_⟩
    conv => whnf
    repeat (refine ⟨⟨_, rfl⟩, ?_⟩; conv => whnf)
    refine condB_mk (fun h1 => ?_) (fun h1 => ?_)
    · have h1 := of_eqt h1
      conv => whnf
      repeat (refine ⟨⟨_, rfl⟩, ?_⟩; conv => whnf)
      exact ⟨by rw [decide_eq_true (p := 1 ≤ i) h1]; rfl, .bool _⟩
    · have h1 := of_neqt h1
      conv => whnf
      repeat (refine ⟨⟨_, rfl⟩, ?_⟩; conv => whnf)
      exact ⟨by rw [decide_eq_false (p := 1 ≤ i) h1]; rfl, .bool _⟩
  obtain ⟨cap, c1, c2, hl⟩ := hx
  refine lift_flat (h0 cap c1 c2) (.cons _ _ _ _ hl (.cons _ _ _ _ lend_int .nil)) ?_
  rintro v rfl
  exact h _ rfl
theorem S_place {m : Mem} {K : AV → Mem → Prop} {i : Nat} (hi : i < 1000000) (h : K (numA i) m) : ACall Pg F_deal_place [.int .i64 (i : Int)] m K := by
  have h0 : ACall Pg F_deal_place [.int .i64 (i : Int)] [] (fun v _ => v = numA i ∧ Flat true v) := by
    refine B_deal_place ⟨rfl, ?_⟩
    conv => whnf
    repeat (refine ⟨⟨_, rfl⟩, ?_⟩; conv => whnf)
    have e : IntKind.u64.wrap (i : Int) = ((i : Nat) : Int) := by rw [wu64]; omega
    have g : AV.agg [.int .u64 (IntKind.u64.wrap (i : Int)), .int .u64 0, .int .u64 0, .int .u64 0] = numA i := by
      rw [e]
      have := numA_comb (a := i) (b := 0) (c := 0) (d := 0) (by omega) (by decide) (by decide) (by decide)
      rw [show comb i 0 0 0 = i by unfold comb; omega] at this
      rw [this]; rfl
    refine ⟨g, ?_⟩
    exact Eq.mpr (congrArg (Flat true) g) flat_numA
  refine lift_flat h0 (.cons _ _ _ _ lend_int .nil) ?_
  rintro v rfl
  exact h
def selN (me k : Nat) : Nat := if k < me then k else k - 1
def othN (me q : Nat) : Nat := if q + 1 < me then q + 1 else q + 2
theorem selN_0 {me : Nat} : selN me 0 = 0 := by unfold selN; split <;> rfl
/-- The point that a value stands for. -/
noncomputable def ptOf (d : Dl) : Pt Fp := by
  classical
  exact if h : ∃ P, On P ∧ rawA d.i d.x d.y = ptA P then h.choose else .inf
theorem ptOf_eq {d : Dl} {P : Pt Fp} (oP : On P) (h : rawA d.i d.x d.y = ptA P) : ptOf d = P := by
  classical
  have hh : ∃ P, On P ∧ rawA d.i d.x d.y = ptA P := ⟨P, oP, h⟩
  unfold ptOf
  rw [dif_pos hh]
  exact ptA_inj (hh.choose_spec.2.symm.trans h)
/-- The seal for the other dealer at place q. -/
noncomputable def sealN (n : Nat) (f : Nat → Int) (t : Nat) (D : Nat → Dl) (me q : Nat) : Nat → Int := tnF (nmul (secN n f) (ptOf (D (othN me q - 1)))) me (othN me q) (byteZ (sumN (coN n f) (othN me q) (t + 1) % nN))
theorem S_CheckD {m : Mem} {K : AV → Mem → Prop} {v : AV} {i : Bool} {x y : Nat} (hv : v = rawA i x y) (hx : x < w256) (hy : y < w256) (h1 : ∀ P, On P → rawA i x y = ptA P → K (.int .i64 0) m) (h2 : Bad i x y → K (.int .i64 3) m) : ACall Pg F_curve_Check [v] m K := by
  subst hv; exact S_Check hx hy h1 h2
abbrev actZ : List AV := [.int .i64 0, .bool false, .int .u64 0, .int .u64 0, .int .u64 0, .int .u64 0, .int .u64 0, .int .u64 0, .int .u64 0, .int .u64 0, .str nB, .nils, .nils, .int .i64 0, .int .u64 0, .int .u64 0, .int .u64 0, .int .u64 0, .int .u64 0, .int .u64 0, .int .u64 0, .int .u64 0]
theorem flat_get {nv : Bool} : ∀ {l : List AV} {n : Nat}, Flats nv l → Flat nv (l.getD n .un)
  | [], n, _ => by simp; exact .un
  | a :: r, 0, h => by cases h with | cons _ _ h1 _ => simpa using h1
  | a :: r, n + 1, h => by cases h with | cons _ _ _ h2 => simpa using flat_get (n := n) h2
theorem flat_actZ {nv : Bool} : Flats nv actZ := by
  repeat (first | exact .nil | refine .cons _ _ (.int _ _) ?_ | refine .cons _ _ (.bool _) ?_ | refine .cons _ _ (.str _) ?_ | refine .cons _ _ .nils ?_)
theorem act_blk {nv : Bool} {σ : Nat → Option Nat} {i j : Nat} {A : AV} (hi : i < 1) (hj : j < 22) (hA : A = lstG 22 actZ i j) : RV nv σ A (lstG 22 actZ i j) :=
  RV.of hA (flat_get flat_actZ)
theorem act_blk0 {nv : Bool} {σ : Nat → Option Nat} {i j : Nat} {A : AV} (hi : i < 1) (hA : A = actZ.getD j .un) : RV nv σ A (lstG 22 actZ i j) := by
  obtain rfl : i = 0 := by omega
  refine RV.of ?_ (flat_get flat_actZ)
  rw [hA]; show _ = actZ.getD (0 * 22 + j) .un
  rw [Nat.zero_mul, Nat.zero_add]
theorem num_blk {nv : Bool} {σ : Nat → Option Nat} {s i j : Nat} {A : AV} (hi : i < 4) (hj : j < 1) (hA : A = lstG 1 (numL s) i j) : RV nv σ A (lstG 1 (numL s) i j) :=
  RV.of hA (by unfold lstG; exact flat_numG)
theorem S_KeyE {m : Mem} {K : AV → Mem → Prop} {v w : AV} {n : Nat} {P : Pt Fp} (hv : v = numA n) (hw : w = ptA P) (hn : n < w256) (oP : On P) (h : ∀ Q, On Q → Q = nmul n P → K (.tup [ptA Q, .int .i64 0]) m) : ACall Pg F_pair_Key [v, w] m K := by
  subst hv hw
  have h0 : ACall Pg F_pair_Key [numA n, ptA P] [] (fun v _ => v = .tup [ptA (nmul n P), .int .i64 0] ∧ Flat true v) := by
    refine B_pair_Key ⟨rfl, ?_⟩
    conv => whnf
    repeat (refine ⟨⟨_, rfl⟩, ?_⟩; conv => whnf)
    refine T_Times (n := n) (P := P) hn oP (fun Q oQ hQ => ?_)
    rw [← hQ]
    conv => whnf
    repeat (refine ⟨⟨_, rfl⟩, ?_⟩; conv => whnf)
    exact ⟨rfl, .tup _ (.cons _ _ flat_ptA (.cons _ _ (.int _ _) .nil))⟩
  refine lift_flat h0 (.cons _ _ _ _ lend_numA (.cons _ _ _ _ (lend_flat flat_ptA) .nil)) ?_
  rintro v rfl
  exact h _ (oP.nmul crvP n) rfl
theorem isD_nat {i : Nat} (h1 : 1 ≤ i) (h2 : i ≤ 8) : isD (i : Int) = true := by
  unfold isD; rw [decide_eq_true (by omega), decide_eq_true (by omega)]; rfl
theorem S_SealE {m : Mem} {K : AV → Mem → Prop} {v w : AV} {P : Pt Fp} {n : Nat} {a b : Int} (hv : v = ptA P) (hw : w = numA n) (oP : On P) (ha : isD a = true) (hb : isD b = true) (h : ∀ s, s = tnF P a b (byteZ n) → (∀ i, 0 ≤ s i ∧ s i ≤ 255) → K (.tup [.agg (rowL s), .int .i64 0]) m) : ACall Pg F_pair_Seal [v, .int .i64 a, .int .i64 b, w] m K := by
  subst hv hw
  refine S_Seal (i := isI P) (x := xN P) (y := yN P) (n := n) (xN_w P) (yN_w P) (fun h => by rw [ha, hb] at h; cases h) (fun _ _ h => absurd rfl (h P oP)) (fun _ _ P2 s oP2 eP2 hs hbs => ?_)
  obtain rfl : P = P2 := ptA_inj eP2
  exact h s hs hbs
theorem all32 {p : Nat → Prop} (h : p 0 ∧ p 1 ∧ p 2 ∧ p 3 ∧ p 4 ∧ p 5 ∧ p 6 ∧ p 7 ∧ p 8 ∧ p 9 ∧ p 10 ∧ p 11 ∧ p 12 ∧ p 13 ∧ p 14 ∧ p 15 ∧ p 16 ∧ p 17 ∧ p 18 ∧ p 19 ∧ p 20 ∧ p 21 ∧ p 22 ∧ p 23 ∧ p 24 ∧ p 25 ∧ p 26 ∧ p 27 ∧ p 28 ∧ p 29 ∧ p 30 ∧ p 31) : ∀ j, j < 32 → p j := fun j hj => by
  have : j = 0 ∨ j = 1 ∨ j = 2 ∨ j = 3 ∨ j = 4 ∨ j = 5 ∨ j = 6 ∨ j = 7 ∨ j = 8 ∨ j = 9 ∨ j = 10 ∨ j = 11 ∨ j = 12 ∨ j = 13 ∨ j = 14 ∨ j = 15 ∨ j = 16 ∨ j = 17 ∨ j = 18 ∨ j = 19 ∨ j = 20 ∨ j = 21 ∨ j = 22 ∨ j = 23 ∨ j = 24 ∨ j = 25 ∨ j = 26 ∨ j = 27 ∨ j = 28 ∨ j = 29 ∨ j = 30 ∨ j = 31 := by omega
  rcases this with rfl | rfl | rfl | rfl | rfl | rfl | rfl | rfl | rfl | rfl | rfl | rfl | rfl | rfl | rfl | rfl | rfl | rfl | rfl | rfl | rfl | rfl | rfl | rfl | rfl | rfl | rfl | rfl | rfl | rfl | rfl | rfl
  all_goals simp [h]
theorem seal_row {nv : Bool} {σ : Nat → Option Nat} {A : AV} {S : Nat → Nat → Int} {k i j : Nat} {s : Nat → Int} {g : Nat → Nat → AV} (hi : i < k + 1) (hj : j < 32) (hs : ∀ j, j < 32 → s j = S k j) (hA : A = catG k (sealG S) g i j) (hg : ∀ j, j < 32 → g 0 j = .int .u8 (s j)) : RV nv σ A (sealG S i j) := by
  refine RV.of (hA.trans ?_) flat_sealG
  by_cases h : i < k
  · rw [catG_lt h]
  · have h : i = k := by omega
    subst h
    rw [catG_ge (Nat.le_refl _), Nat.sub_self, hg j hj, hs j hj]; rfl
theorem S_Post0 (n cap t : Nat) (f : Nat → Int) (r c1 : Nat) (d1 d2 : Nat → Nat) (D : Nat → Dl) (me : Nat) (hn : n ≤ 16384) (ht : t < 64) (hf : ∀ i, i < n → 0 ≤ f i ∧ f i ≤ 255) (hr : r ≤ 8) (hm : 1 ≤ me ∧ me ≤ r) (hD : ∀ k, k < r → On (ptOf (D k)) ∧ rawA (D k).i (D k).x (D k).y = ptA (ptOf (D k)) ∧ (D k).x < w256 ∧ (D k).y < w256) :
    ACall Pg F_deal_Post [.vsl 1 n cap (bytesG f), .int .i64 t, .vsl 26 r c1 (dlG D d1 d2), .int .i64 me] []
      (fun v m' => ∃ sl co, v = .tup [actA 2 false 0 0 nB sl co 0 0 0, .int .i64 0] ∧ RetG 32 (r - 1) (fun q j => .int .u8 (sealN n f t D me q j)) sl m' ∧ RetG 9 (t + 1) (ptsG fun i => nmul (coN n f i) gG) co m') := by
  obtain ⟨S, hS⟩ : ∃ S : Nat → Nat → Int, S = sealN n f t D me := ⟨_, rfl⟩
  have hSq : ∀ q, S q = tnF (nmul (secN n f) (ptOf (D (othN me q - 1)))) me (othN me q) (byteZ (sumN (coN n f) (othN me q) (t + 1) % nN)) := fun q => by rw [hS]; rfl
  rw [← hS]
  clear hS
  obtain ⟨xs, hxs⟩ : ∃ s, s = secN n f := ⟨_, rfl⟩
  obtain ⟨c, hc⟩ : ∃ c, c = coN n f := ⟨_, rfl⟩
  rw [← hc]
  rw [← hc, ← hxs] at hSq
  refine B_deal_Post ⟨rfl, ?_⟩
  conv => whnf
  repeat (refine ⟨⟨_, rfl⟩, ?_⟩; conv => whnf)
  refine S_Poly (n := n) (t := t) (f := f) Shows.vsl hn ht hf (fun c' cc hc' hcN _ => ?_)
  obtain rfl : c = c' := hc.trans hc'.symm
  clear hc hc'
  conv => whnf
  repeat (refine ⟨⟨_, rfl⟩, ?_⟩; conv => whnf)
  refine S_dnum (n := r) (D := D) (i := me) ShowsD.vsl (fun b hb => ?_)
  have hb : b = true := by rw [hb, decide_eq_true (by omega), decide_eq_true (by omega)]; rfl
  subst hb
  conv => whnf
  repeat (refine ⟨⟨_, rfl⟩, ?_⟩; conv => whnf)
  refine condB_no (by simp; omega) ?_
  conv => whnf
  repeat (refine ⟨⟨_, rfl⟩, ?_⟩; conv => whnf)
  refine loop_wk mixed (I := fun q l m => ∃ (k : Nat), l = [(0, .vsl 1 n cap (bytesG f)), (2, .vsl 26 r c1 (dlG D d1 d2)), (3, .int .i64 me), (8, .ptr 0 0 0), (10, .sl 1 0 (t + 1) cc), (44, .vsl 26 r c1 (dlG D d1 d2)), (45, .int .i64 r), (46, .int .i64 k)] ∧ m = [some ⟨22, 1, lstG 22 actZ⟩, some ⟨4, t + 1, numsG c⟩] ∧ q + k = r) r
    (l0 := [(0, .vsl 1 n cap (bytesG f)), (2, .vsl 26 r c1 (dlG D d1 d2)), (3, .int .i64 me), (8, .ptr 0 0 0), (10, .sl 1 0 (t + 1) cc), (44, .vsl 26 r c1 (dlG D d1 d2)), (45, .int .i64 r), (46, .int .i64 (0 : Nat))]) (m0 := [some ⟨22, 1, lstG 22 actZ⟩, some ⟨4, t + 1, numsG c⟩]) [some 0, some 1] ⟨0, rfl, rfl, rfl⟩ ?_ ?_
  · exact .mk0 ⟨.eq _ _ rfl flat_bytesV, .eq _ _ rfl flat_dls, Flat.i rfl, .ptr _ _ _ _ rfl, .sl _ _ _ _ _ rfl, .eq _ _ rfl flat_dls, Flat.i rfl, Flat.i rfl, trivial⟩ ⟨.old 0 0 _ _ rfl rfl ⟨rfl, Nat.le_refl _, fun i j hi hj => act_blk0 hi rfl⟩, .old 1 1 _ _ rfl rfl ⟨rfl, Nat.le_refl _, fun i j hi hj => RV.of rfl flat_numsG⟩, trivial⟩ rfl rfl
  · rintro q l m ⟨k, rfl, rfl, hq⟩
    conv => whnf
    repeat (refine ⟨⟨_, rfl⟩, ?_⟩; conv => whnf)
    refine condB_mk (fun hb => ?_) (fun hb => ?_)
    · have hb : k < r := by simp at hb; omega
      conv => whnf
      repeat (refine ⟨⟨_, rfl⟩, ?_⟩; conv => whnf)
      refine condB_ok (by simp; omega) ?_
      conv => whnf
      repeat (refine ⟨⟨_, rfl⟩, ?_⟩; conv => whnf)
      refine S_CheckD (i := (D k).i) (x := (D k).x) (y := (D k).y) rfl (hD k hb).2.2.1 (hD k hb).2.2.2 (fun P oP eP => ?_) (fun hbad => absurd (hD k hb).2.1 (hbad _ (hD k hb).1))
      conv => whnf
      repeat (refine ⟨⟨_, rfl⟩, ?_⟩; conv => whnf)
      have e5 : IntKind.i64.wrap ((k : Int) + 1) = ((k + 1 : Nat) : Int) := by rw [w64 (by omega) (by omega)]; omega
      refine ⟨q - 1, [(0, .vsl 1 n cap (bytesG f)), (2, .vsl 26 r c1 (dlG D d1 d2)), (3, .int .i64 me), (8, .ptr 0 0 0), (10, .sl 1 0 (t + 1) cc), (44, .vsl 26 r c1 (dlG D d1 d2)), (45, .int .i64 r), (46, .int .i64 ((k + 1 : Nat) : Int))], [some ⟨22, 1, lstG 22 actZ⟩, some ⟨4, t + 1, numsG c⟩], [some 0, some 1], by omega, ⟨k + 1, rfl, rfl, by omega⟩, ?_⟩
      exact .mk0 ⟨.eq _ _ rfl flat_bytesV, .eq _ _ rfl flat_dls, Flat.i rfl, .ptr _ _ _ _ rfl, .sl _ _ _ _ _ rfl, .eq _ _ rfl flat_dls, Flat.i rfl, Flat.i e5, trivial⟩ ⟨.old 0 0 _ _ rfl rfl ⟨rfl, Nat.le_refl _, fun i j hi hj => act_blk hi hj rfl⟩, .old 1 1 _ _ rfl rfl ⟨rfl, Nat.le_refl _, fun i j hi hj => RV.of rfl flat_numsG⟩, trivial⟩ rfl rfl
    · have hb : k = r := by simp at hb; omega
      subst hb
      conv => whnf
      repeat (refine ⟨⟨_, rfl⟩, ?_⟩; conv => whnf)
      refine S_Secret (n := n) (f := f) Shows.vsl (by omega) hf (fun _ xs' hxs' hxs1 _ => ?_) (fun h => absurd h (by omega))
      obtain rfl : xs = xs' := hxs.trans hxs'.symm
      clear hxs hxs'
      conv => whnf
      repeat (refine ⟨⟨_, rfl⟩, ?_⟩; conv => whnf)
      refine loop_wk mixed (I := fun q l m => ∃ (w ca : Nat), l = [(3, .int .i64 me), (8, .ptr 0 0 0), (10, .sl 1 0 (t + 1) cc), (14, .ptr 2 0 0), (15, .ptr 3 0 0), (66, .vsl 26 k c1 (dlG D d1 d2)), (67, .int .i64 k), (68, .int .i64 w)] ∧ m = [some ⟨22, 1, lstG 22 actZ⟩, some ⟨4, t + 1, numsG c⟩, some ⟨1, 4, lstG 1 (numL xs)⟩, some ⟨22, 1, lstG 22 (actL 2 false 0 0 nB (.sl 4 0 (selN me w) ca) .nils 0 0 0)⟩, some ⟨32, selN me w, sealG S⟩] ∧ q + w = k) k
        (l0 := [(3, .int .i64 me), (8, .ptr 0 0 0), (10, .sl 1 0 (t + 1) cc), (14, .ptr 2 0 0), (15, .ptr 3 0 0), (66, .vsl 26 k c1 (dlG D d1 d2)), (67, .int .i64 k), (68, .int .i64 (0 : Nat))]) (m0 := [some ⟨22, 1, lstG 22 actZ⟩, some ⟨4, t + 1, numsG c⟩, some ⟨1, 4, lstG 1 (numL xs)⟩, some ⟨22, 1, lstG 22 (actL 2 false 0 0 nB (.sl 4 0 0 0) .nils 0 0 0)⟩, some ⟨32, 0, sealG S⟩]) [some 0, some 1, some 2, some 3, none] ⟨0, 0, rfl, by rw [selN_0], rfl⟩ ?_ ?_
      · refine .mk0 ⟨Flat.i rfl, .ptr _ _ _ _ rfl, .sl _ _ _ _ _ rfl, .ptr _ _ _ _ rfl, .ptr _ _ _ _ rfl, .eq _ _ rfl flat_dls, Flat.i rfl, Flat.i rfl, trivial⟩ ⟨.old 0 0 _ _ rfl rfl ⟨rfl, Nat.le_refl _, fun i j hi hj => act_blk hi hj rfl⟩, .old 1 1 _ _ rfl rfl ⟨rfl, Nat.le_refl _, fun i j hi hj => RV.of rfl flat_numsG⟩, .old 2 2 _ _ rfl rfl ⟨rfl, Nat.le_refl _, fun i j hi hj => num_blk hi hj rfl⟩, .old 3 3 _ _ rfl rfl ⟨rfl, Nat.le_refl _, fun i j hi hj => ?_⟩, .ph _ _ _ rfl, trivial⟩ rfl rfl
        have hi : i < 1 := hi
        have hj : j < 22 := hj
        obtain rfl : i = 0 := by omega
        have : j = 0 ∨ j = 1 ∨ j = 2 ∨ j = 3 ∨ j = 4 ∨ j = 5 ∨ j = 6 ∨ j = 7 ∨ j = 8 ∨ j = 9 ∨ j = 10 ∨ j = 11 ∨ j = 12 ∨ j = 13 ∨ j = 14 ∨ j = 15 ∨ j = 16 ∨ j = 17 ∨ j = 18 ∨ j = 19 ∨ j = 20 ∨ j = 21 := by omega
        rcases this with rfl | rfl | rfl | rfl | rfl | rfl | rfl | rfl | rfl | rfl | rfl | rfl | rfl | rfl | rfl | rfl | rfl | rfl | rfl | rfl | rfl | rfl
        all_goals first
          | exact .eq _ _ rfl (.int _ _)
          | exact .eq _ _ rfl (.bool _)
          | exact .eq _ _ rfl (.str _)
          | exact .nils _ _
          | exact .eq _ _ rfl .nils
          | exact .sl _ _ _ _ _ rfl
      · rintro q l m ⟨w, ca, rfl, rfl, hq⟩
        conv => whnf
        repeat (refine ⟨⟨_, rfl⟩, ?_⟩; conv => whnf)
        refine condB_mk (fun hb => ?_) (fun hb => ?_)
        · have hb : w < k := by simp at hb; omega
          have e5 : IntKind.i64.wrap ((w : Int) + 1) = ((w + 1 : Nat) : Int) := by rw [w64 (by omega) (by omega)]; omega
          conv => whnf
          repeat (refine ⟨⟨_, rfl⟩, ?_⟩; conv => whnf)
          refine condB_ok (by simp; omega) ?_
          conv => whnf
          repeat (refine ⟨⟨_, rfl⟩, ?_⟩; conv => whnf)
          rw [e5]
          refine condB_mk (fun hj => ?_) (fun hj => ?_)
          · have hj : w + 1 = me := by simp at hj; omega
            conv => whnf
            repeat (refine ⟨⟨_, rfl⟩, ?_⟩; conv => whnf)
            have es : selN me (w + 1) = selN me w := by unfold selN; rw [if_neg (by omega), if_pos (by omega)]; omega
            refine ⟨q - 1, [(3, .int .i64 me), (8, .ptr 0 0 0), (10, .sl 1 0 (t + 1) cc), (14, .ptr 2 0 0), (15, .ptr 3 0 0), (66, .vsl 26 k c1 (dlG D d1 d2)), (67, .int .i64 k), (68, .int .i64 ((w + 1 : Nat) : Int))], [some ⟨22, 1, lstG 22 actZ⟩, some ⟨4, t + 1, numsG c⟩, some ⟨1, 4, lstG 1 (numL xs)⟩, some ⟨22, 1, lstG 22 (actL 2 false 0 0 nB (.sl 4 0 (selN me w) ca) .nils 0 0 0)⟩, some ⟨32, selN me w, sealG S⟩], [some 0, some 1, some 2, some 3, some 4], by omega, ⟨w + 1, ca, rfl, by rw [es], by omega⟩, ?_⟩
            refine .mk0 ⟨Flat.i rfl, .ptr _ _ _ _ rfl, .sl _ _ _ _ _ rfl, .ptr _ _ _ _ rfl, .ptr _ _ _ _ rfl, .eq _ _ rfl flat_dls, Flat.i rfl, Flat.i e5, trivial⟩ ⟨.old 0 0 _ _ rfl rfl ⟨rfl, Nat.le_refl _, fun i j hi hj => act_blk hi hj rfl⟩, .old 1 1 _ _ rfl rfl ⟨rfl, Nat.le_refl _, fun i j hi hj => RV.of rfl flat_numsG⟩, .old 2 2 _ _ rfl rfl ⟨rfl, Nat.le_refl _, fun i j hi hj => num_blk hi hj rfl⟩, .old 3 3 _ _ rfl rfl ⟨rfl, Nat.le_refl _, fun i j hi hj => ?_⟩, .old 4 4 _ _ rfl rfl ⟨rfl, Nat.le_refl _, fun i j hi hj => ?_⟩, trivial⟩ rfl rfl
            · have hi : i < 1 := hi
              have hj : j < 22 := hj
              obtain rfl : i = 0 := by omega
              have : j = 0 ∨ j = 1 ∨ j = 2 ∨ j = 3 ∨ j = 4 ∨ j = 5 ∨ j = 6 ∨ j = 7 ∨ j = 8 ∨ j = 9 ∨ j = 10 ∨ j = 11 ∨ j = 12 ∨ j = 13 ∨ j = 14 ∨ j = 15 ∨ j = 16 ∨ j = 17 ∨ j = 18 ∨ j = 19 ∨ j = 20 ∨ j = 21 := by omega
              rcases this with rfl | rfl | rfl | rfl | rfl | rfl | rfl | rfl | rfl | rfl | rfl | rfl | rfl | rfl | rfl | rfl | rfl | rfl | rfl | rfl | rfl | rfl
              all_goals first
                | exact .eq _ _ rfl (.int _ _)
                | exact .eq _ _ rfl (.bool _)
                | exact .eq _ _ rfl (.str _)
                | exact .nils _ _
                | exact .eq _ _ rfl .nils
                | exact .sl _ _ _ _ _ rfl
            · exact RV.of rfl flat_sealG
          · have hj : ¬ w + 1 = me := by simp at hj; omega
            have es : selN me (w + 1) = selN me w + 1 := by unfold selN; split <;> split <;> omega
            have eo : othN me (selN me w) = w + 1 := by unfold othN selN; split <;> split <;> omega
            conv => whnf
            repeat (refine ⟨⟨_, rfl⟩, ?_⟩; conv => whnf)
            refine S_KeyE (n := xs) (P := ptOf (D w)) rfl (Eq.trans (b := rawA (D w).i (D w).x (D w).y) rfl (hD w hb).2.1) (Nat.lt_trans hxs1 (by decide)) (hD w hb).1 (fun Q oQ hQ => ?_)
            conv => whnf
            repeat (refine ⟨⟨_, rfl⟩, ?_⟩; conv => whnf)
            refine S_place (i := w + 1) (by omega) ?_
            conv => whnf
            repeat (refine ⟨⟨_, rfl⟩, ?_⟩; conv => whnf)
            refine S_Eval (n := t + 1) (x := w + 1) (c := c) (ShowsG.sl rfl (by omega) (fun i j _ _ => ⟨by rw [Nat.zero_add], flat_numsG⟩)) (Nat.lt_of_le_of_lt (m := 8) (by omega) (by decide)) (fun i _ => Nat.lt_trans (hcN i) (by decide)) (by omega) (fun z hz hz1 => ?_)
            conv => whnf
            repeat (refine ⟨⟨_, rfl⟩, ?_⟩; conv => whnf)
            refine S_SealE (P := Q) (n := z) rfl rfl oQ (isD_nat (by omega) (by omega)) (isD_nat (by omega) (by omega)) (fun s hs hs1 => ?_)
            have hsS : ∀ j, s j = S (selN me w) j := fun j => by
              rw [hSq, eo, show w + 1 - 1 = w by omega, ← hQ, ← hz, hs]
            clear hs
            rw [rowL]
            conv => whnf
            repeat (refine ⟨⟨_, rfl⟩, ?_⟩; conv => whnf)
            refine condB_ok (app_ok (by first | rfl | simp) rfl rfl (by unfold selN; split <;> omega) (by unfold selN; split <;> omega)) (fun cap' hcap => ?_)
            conv => whnf
            repeat (refine ⟨⟨_, rfl⟩, ?_⟩; conv => whnf)
            refine ⟨q - 1, [(3, .int .i64 me), (8, .ptr 0 0 0), (10, .sl 1 0 (t + 1) cc), (14, .ptr 2 0 0), (15, .ptr 3 0 0), (66, .vsl 26 k c1 (dlG D d1 d2)), (67, .int .i64 k), (68, .int .i64 ((w + 1 : Nat) : Int))], [some ⟨22, 1, lstG 22 actZ⟩, some ⟨4, t + 1, numsG c⟩, some ⟨1, 4, lstG 1 (numL xs)⟩, some ⟨22, 1, lstG 22 (actL 2 false 0 0 nB (.sl 4 0 (selN me w + 1) cap') .nils 0 0 0)⟩, some ⟨32, selN me w + 1, sealG S⟩], [some 0, some 1, some 2, some 3, some 9], by omega, ⟨w + 1, cap', rfl, by rw [es], by omega⟩, ?_⟩
            refine .mk0 ⟨Flat.i rfl, .ptr _ _ _ _ rfl, .sl _ _ _ _ _ rfl, .ptr _ _ _ _ rfl, .ptr _ _ _ _ rfl, .eq _ _ rfl flat_dls, Flat.i rfl, Flat.i e5, trivial⟩ ⟨.old 0 0 _ _ rfl rfl ⟨rfl, Nat.le_refl _, fun i j hi hj => act_blk hi hj rfl⟩, .old 1 1 _ _ rfl rfl ⟨rfl, Nat.le_refl _, fun i j hi hj => RV.of rfl flat_numsG⟩, .old 2 2 _ _ rfl rfl ⟨rfl, Nat.le_refl _, fun i j hi hj => num_blk hi hj rfl⟩, .old 3 3 _ _ rfl rfl ⟨rfl, Nat.le_refl _, fun i j hi hj => ?_⟩, .old 4 9 _ _ rfl rfl ⟨rfl, Nat.le_refl _, fun i j hi hj => ?_⟩, trivial⟩ rfl rfl
            · have hi : i < 1 := hi
              have hj : j < 22 := hj
              obtain rfl : i = 0 := by omega
              have : j = 0 ∨ j = 1 ∨ j = 2 ∨ j = 3 ∨ j = 4 ∨ j = 5 ∨ j = 6 ∨ j = 7 ∨ j = 8 ∨ j = 9 ∨ j = 10 ∨ j = 11 ∨ j = 12 ∨ j = 13 ∨ j = 14 ∨ j = 15 ∨ j = 16 ∨ j = 17 ∨ j = 18 ∨ j = 19 ∨ j = 20 ∨ j = 21 := by omega
              rcases this with rfl | rfl | rfl | rfl | rfl | rfl | rfl | rfl | rfl | rfl | rfl | rfl | rfl | rfl | rfl | rfl | rfl | rfl | rfl | rfl | rfl | rfl
              all_goals first
                | exact .eq _ _ rfl (.int _ _)
                | exact .eq _ _ rfl (.bool _)
                | exact .eq _ _ rfl (.str _)
                | exact .nils _ _
                | exact .eq _ _ rfl .nils
                | exact .sl _ _ _ _ _ rfl
            · dsimp only at hi hj ⊢
              refine seal_row hi hj (fun j _ => hsS j) rfl ?_
              exact all32 ⟨rfl, rfl, rfl, rfl, rfl, rfl, rfl, rfl, rfl, rfl, rfl, rfl, rfl, rfl, rfl, rfl, rfl, rfl, rfl, rfl, rfl, rfl, rfl, rfl, rfl, rfl, rfl, rfl, rfl, rfl, rfl, rfl⟩
        · have hb : w = k := by simp at hb; omega
          subst hb
          conv => whnf
          repeat (refine ⟨⟨_, rfl⟩, ?_⟩; conv => whnf)
          refine S_Commit (n := t + 1) (c := c) (ShowsG.sl rfl (by omega) (fun i j _ _ => ⟨by rw [Nat.zero_add], flat_numsG⟩)) (fun i _ => Nat.lt_trans (hcN i) (by decide)) (fun _ P cp hP => ?_) (fun h => absurd h (by omega))
          rw [← hP]
          conv => whnf
          repeat (refine ⟨⟨_, rfl⟩, ?_⟩; conv => whnf)
          have hsel : selN me w = w - 1 := by unfold selN; rw [if_neg (by omega)]
          exact ⟨.sl 4 0 (selN me w) ca, .sl _ 0 (t + 1) cp, rfl, .inr ⟨4, ca, selN me w, _, by rw [hsel], rfl, by omega, fun _ _ _ _ => rfl⟩, .inr ⟨_, cp, t + 1, _, rfl, rfl, Nat.le_refl _, fun _ _ _ _ => rfl⟩⟩
end Go.Proofs.Ytfolpdmbpbbimaa
end

section
/- What a dealer posts, in any memory; no condition. -/
set_option linter.unusedVariables false
set_option linter.unusedSimpArgs false
set_option maxRecDepth 100000
set_option pp.maxSteps 3000
set_option pp.deepTerms false
set_option pp.deepTerms.threshold 7
namespace Go.Proofs.Ytfolpdmbpbbimaa
open Go Go.Wit

theorem rv_act {nv : Bool} {σ : Nat → Option Nat} {k : Int} {i : Bool} {x y : Nat} {s : ByteArray} {sl co sl' co' : AV} {ag : Int} {c r : Nat} (h1 : RV nv σ sl sl') (h2 : RV nv σ co co') :
    RV nv σ (actA k i x y s sl co ag c r) (actA k i x y s sl' co' ag c r) := by
  refine .agg _ _ ?_
  unfold actL
  refine .cons _ _ _ _ (.eq _ _ rfl (.int _ _)) (.cons _ _ _ _ (.eq _ _ rfl (.bool _)) ?_)
  iterate 8 refine .cons _ _ _ _ (.eq _ _ rfl (.int _ _)) ?_
  refine .cons _ _ _ _ (.eq _ _ rfl (.str _)) (.cons _ _ _ _ h1 (.cons _ _ _ _ h2 (.cons _ _ _ _ (.eq _ _ rfl (.int _ _)) ?_)))
  iterate 8 refine .cons _ _ _ _ (.eq _ _ rfl (.int _ _)) ?_
  exact .nil
theorem lift_act {P : Program} {fn : FuncId} {args args0 : List AV} {m : Mem} {K : AV → Mem → Prop} {k : Int} {i : Bool} {x y : Nat} {s : ByteArray} {ag : Int} {c r : Nat} {n1 n2 : Nat} {G1 G2 : Nat → Nat → AV} {e : Int}
    (h : ACall P fn args0 [] (fun v m' => ∃ sl co, v = .tup [actA k i x y s sl co ag c r, .int .i64 e] ∧ RetG 32 n1 G1 sl m' ∧ RetG 9 n2 G2 co m'))
    (hf1 : ∀ i j, i < n1 → j < 32 → Flat true (G1 i j)) (hf2 : ∀ i j, i < n2 → j < 9 → Flat true (G2 i j)) (ha : Lends (fun _ => none) (List.range m.length) m args args0)
    (hK : ∀ c1 c2, K (.tup [actA k i x y s (.sl m.length 0 n1 c1) (.sl (m.length + 1) 0 n2 c2) ag c r, .int .i64 e]) (m ++ [some ⟨32, n1, G1⟩, some ⟨9, n2, G2⟩])) : ACall P fn args m K := by
  refine h.frame0 true (List.range m.length) (fun h => by cases h) ha (fun v m' hv => ?_)
  obtain ⟨sl, co, rfl, h1, h2⟩ := hv
  obtain ⟨c1, q1, r1, b1, d1⟩ : ∃ c1 q1, RV true (shiftT m.length [q1, none]) sl (.sl m.length 0 n1 c1) ∧ (∀ q2, RV true (shiftT m.length [q1, q2]) sl (.sl m.length 0 n1 c1)) ∧ ((q1 = none ∧ n1 = 0) ∨ ∃ l N g, q1 = some l ∧ m'[l]? = some (some ⟨32, N, g⟩) ∧ n1 ≤ N ∧ ∀ i j, i < n1 → j < 32 → g i j = G1 i j) := by
    rcases h1 with ⟨rfl, rfl⟩ | ⟨l, cap, N, g, rfl, g1, g2, g3⟩
    · exact ⟨0, none, .nils _ _, fun _ => .nils _ _, .inl ⟨rfl, rfl⟩⟩
    · exact ⟨cap, some l, .sl _ _ _ _ _ (by simp [shiftT]), fun _ => .sl _ _ _ _ _ (by simp [shiftT]), .inr ⟨l, N, g, rfl, g1, g2, g3⟩⟩
  obtain ⟨c2, q2, r2, d2⟩ : ∃ c2 q2, RV true (shiftT m.length [q1, q2]) co (.sl (m.length + 1) 0 n2 c2) ∧ ((q2 = none ∧ n2 = 0) ∨ ∃ l N g, q2 = some l ∧ m'[l]? = some (some ⟨9, N, g⟩) ∧ n2 ≤ N ∧ ∀ i j, i < n2 → j < 9 → g i j = G2 i j) := by
    rcases h2 with ⟨rfl, rfl⟩ | ⟨l, cap, N, g, rfl, g1, g2, g3⟩
    · exact ⟨0, none, .nils _ _, .inl ⟨rfl, rfl⟩⟩
    · exact ⟨cap, some l, .sl _ _ _ _ _ (by simp [shiftT]), .inr ⟨l, N, g, rfl, g1, g2, g3⟩⟩
  refine ⟨.tup [actA k i x y s (.sl m.length 0 n1 c1) (.sl (m.length + 1) 0 n2 c2) ag c r, .int .i64 e], [some ⟨32, n1, G1⟩, some ⟨9, n2, G2⟩], [q1, q2], Nat.le_refl _, fun i j q hi hj => ?_, .tup _ _ (.cons _ _ _ _ (rv_act (b1 q2) r2) (.cons _ _ _ _ (.eq _ _ rfl (.int _ _)) .nil)), ⟨?_, ?_, trivial⟩, hK c1 c2⟩
  · have key : q1 = some q → q2 = some q → False := fun e1 e2 => by
      rcases d1 with ⟨rfl, _⟩ | ⟨l, N, g, rfl, g1, _⟩
      · cases e1
      rcases d2 with ⟨rfl, _⟩ | ⟨l', N', g', rfl, g1', _⟩
      · cases e2
      obtain rfl := Option.some.inj e1
      obtain rfl := Option.some.inj e2
      rw [g1] at g1'
      have := congrArg (fun o : Option (Option Blk) => match o with | some (some b) => b.es | _ => 0) g1'
      simp at this
    match i, j, hi, hj with
    | 0, 0, _, _ => rfl
    | 1, 1, _, _ => rfl
    | 0, 1, hi, hj => exact absurd (key (by simpa using hi) (by simpa using hj)) id
    | 1, 0, hi, hj => exact absurd (key (by simpa using hj) (by simpa using hi)) id
    | i + 2, _, hi, _ => simp at hi
    | _, j + 2, _, hj => simp at hj
  · rcases d1 with ⟨rfl, rfl⟩ | ⟨l, N, g, rfl, g1, g2, g3⟩
    · exact .ph _ _ _ (by simp [shiftT])
    · exact .old _ l _ _ (by simp [shiftT]) g1 ⟨rfl, g2, fun i j hi hj => .eq _ _ (g3 i j hi hj) (by rw [show (Blk.mk 32 N g).get i j = g i j from rfl, g3 i j hi hj]; exact hf1 i j hi hj)⟩
  · rcases d2 with ⟨rfl, rfl⟩ | ⟨l, N, g, rfl, g1, g2, g3⟩
    · exact .ph _ _ _ (by simp [shiftT])
    · exact .old _ l _ _ (by simp [shiftT]) g1 ⟨rfl, g2, fun i j hi hj => .eq _ _ (g3 i j hi hj) (by rw [show (Blk.mk 9 N g).get i j = g i j from rfl, g3 i j hi hj]; exact hf2 i j hi hj)⟩
theorem S_Post {m : Mem} {x z : AV} {K : AV → Mem → Prop} {n t : Nat} {f : Nat → Int} {r : Nat} {D : Nat → Dl} {me : Nat} (hx : Shows m x n f) (hz : ShowsD m z r D) (hn : n ≤ 16384) (ht : t < 64) (hf : ∀ i, i < n → 0 ≤ f i ∧ f i ≤ 255) (hr : r ≤ 8) (hm : 1 ≤ me ∧ me ≤ r) (hD : ∀ k, k < r → On (ptOf (D k)) ∧ rawA (D k).i (D k).x (D k).y = ptA (ptOf (D k)) ∧ (D k).x < w256 ∧ (D k).y < w256)
    (h : ∀ S P c1 c2, S = sealN n f t D me → P = (fun i => nmul (coN n f i) gG) → memK (m ++ [some ⟨32, r - 1, sealG S⟩, some ⟨9, t + 1, ptsG P⟩]) (K (.tup [actA 2 false 0 0 nB (.sl m.length 0 (r - 1) c1) (.sl (m.length + 1) 0 (t + 1) c2) 0 0 0, .int .i64 0]))) : ACall Pg F_deal_Post [x, .int .i64 t, z, .int .i64 me] m K := by
  simp only [memK_eq] at h
  obtain ⟨cap, hl⟩ := hx
  obtain ⟨c1, d1, d2, hl2⟩ := hz
  exact lift_act (S_Post0 n cap t f r c1 d1 d2 D me hn ht hf hr hm hD) (fun i j _ _ => .int _ _) (fun i j _ _ => flat_ptsG) (.cons _ _ _ _ hl (.cons _ _ _ _ lend_int (.cons _ _ _ _ hl2 (.cons _ _ _ _ lend_int .nil)))) (fun k1 k2 => h _ _ k1 k2 rfl rfl)
/-- A seed that is too long is no seed. -/
theorem S_Post_long {m : Mem} {x z : AV} {K : AV → Mem → Prop} {n : Nat} {f : Nat → Int} {r : Nat} {D : Nat → Dl} {t me : Int} (hx : Shows m x n f) (hz : ShowsD m z r D) (hn : 16384 < n) (h : K (.tup [act0, .int .i64 4]) m) : ACall Pg F_deal_Post [x, .int .i64 t, z, .int .i64 me] m K := by
  have h0 : ∀ cap c1 d1 d2, ACall Pg F_deal_Post [.vsl 1 n cap (bytesG f), .int .i64 t, .vsl 26 r c1 (dlG D d1 d2), .int .i64 me] [] (fun v _ => v = .tup [act0, .int .i64 4] ∧ Flat true v) := fun cap c1 d1 d2 => by
    refine B_deal_Post ⟨rfl, ?_⟩
    conv => whnf
    repeat (refine ⟨⟨_, rfl⟩, ?_⟩; conv => whnf)
    refine S_Poly_long (n := n) (f := f) Shows.vsl hn (fun cap g => ?_)
    conv => whnf
    repeat (refine ⟨⟨_, rfl⟩, ?_⟩; conv => whnf)
    refine ⟨rfl, ?_⟩
    show Flat true (.tup [act0, .int .i64 4])
    exact flat_acte
  obtain ⟨cap, hl⟩ := hx
  obtain ⟨c1, d1, d2, hl2⟩ := hz
  refine lift_flat (h0 cap c1 d1 d2) (.cons _ _ _ _ hl (.cons _ _ _ _ lend_int (.cons _ _ _ _ hl2 (.cons _ _ _ _ lend_int .nil)))) ?_
  rintro v rfl
  exact h
end Go.Proofs.Ytfolpdmbpbbimaa
end

