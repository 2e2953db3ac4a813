/- The keyed sum of the program; no condition. -/
import Derived.Test.YtdobchoiiihfiaaD16
set_option linter.unusedVariables false
set_option linter.unusedSimpArgs false
set_option maxRecDepth 100000
set_option pp.maxSteps 300
namespace Go.Proofs.Ytdobchoiiihfiaa
open Go Go.Wit

def xorB (a b : Int) : Int := bitsV .xor .u8 a b
def keyN (n : Nat) : Nat := if 64 < n then 32 else n
def keyG (n : Nat) (f : Nat → Int) (i : Nat) : Int := if 64 < n then sumB n f i else f i
def keyP (n : Nat) (f : Nat → Int) (i : Nat) : Int := if i < keyN n then keyG n f i else 0
def inF (P g : Nat → Int) (i : Nat) : Int := if i < 64 then xorB (P i) 54 else g (i - 64)
def outF (P s : Nat → Int) (i : Nat) : Int := if i < 64 then xorB (P i) 92 else s (i - 64)
def macB (n : Nat) (f : Nat → Int) (k : Nat) (g : Nat → Int) : Nat → Int := sumB 96 (outF (keyP n f) (sumB (64 + k) (inF (keyP n f) g)))

theorem xorB_lt (a b : Int) : 0 ≤ xorB a b ∧ xorB a b ≤ 255 := by
  show 0 ≤ IntKind.u8.wrap _ ∧ IntKind.u8.wrap _ ≤ 255
  rw [IntKind.wrap_u8]; omega

theorem blt_t {a b : Nat} (h : a < b) : Nat.blt a b = true := by rw [Nat.blt_eq]; exact h
theorem blt_f {a b : Nat} (h : ¬ a < b) : Nat.blt a b = false := by
  cases hb : Nat.blt a b with
  | false => rfl
  | true => rw [Nat.blt_eq] at hb; omega

theorem pickN {n i : Nat} {x y : AV} (hn : n ≤ 64) : pickA (Nat.ble 0 i && Nat.blt i (0 + minN n 64)) x y = if i < n then x else y := by
  have e : minN n 64 = n := by rw [minN_eq]; omega
  have e0 : Nat.ble 0 i = true := by simp
  rw [e, pickA_eq, e0]
  by_cases hi : i < n
  · rw [Nat.zero_add, blt_t hi, if_pos hi]; rfl
  · rw [Nat.zero_add, blt_f hi, if_neg hi]; rfl

theorem keyW1 {nv : Bool} {σ : Nat → Option Nat} {P f a : Nat → Int} {n i j : Nat} {A : AV} (hj : j < 1) (hn : n ≤ 64) (hP : P i = if i < n then f i else 0) (hA : A = pickA (Nat.ble 0 i && Nat.blt i (0 + minN n 64)) (bytesG f (i - 0) 0) (.int .u8 0)) : RV nv σ A (bytesG (fun i => if i < 0 then a i else P i) i j) := by
  have : A = .int .u8 (P i) := by
    rw [hA, pickN hn, hP]
    by_cases hi : i < n
    · rw [if_pos hi, if_pos hi]; rfl
    · rw [if_neg hi, if_neg hi]
  subst this
  exact zeroB (j := j) (a := a) (z := P) rfl

theorem keyW2 {nv : Bool} {σ : Nat → Option Nat} {P s a : Nat → Int} {g : Nat → Nat → AV} {i j : Nat} {A : AV} (hj : j < 1) (hP : P i = if i < 32 then s i else 0) (hA : A = pickA (Nat.ble 0 i && Nat.blt i (0 + minN 32 64)) (updG ⟨1, 32, g⟩ 0 0 32 ((List.range 32).map fun i => .int .u8 (s i)) (0 + (i - 0)) 0) (.int .u8 0)) : RV nv σ A (bytesG (fun i => if i < 0 then a i else P i) i j) := by
  have : A = .int .u8 (P i) := by
    rw [hA, pickN (by omega), hP]
    by_cases hi : i < 32
    · rw [if_pos hi, if_pos hi, show 0 + (i - 0) = i by omega, updG_all (by omega) hi, List.getD_eq_getElem?_getD, List.getElem?_map, List.getElem?_range hi]
      rfl
    · rw [if_neg hi, if_neg hi]
  subst this
  exact zeroB (j := j) (a := a) (z := P) rfl

theorem catP {a r s : Nat → Int} {x : Nat → Int} {h : Nat → Nat → AV} {k i : Nat} (h1 : ∀ i, i < 64 → x i = a i) (h2 : ∀ i, i < k → x (64 + i) = s i) (hh : ∀ i, i < k → h i 0 = .int .u8 (s i)) (hi : i < 64 + k) : catG 64 (bytesG (fun i => if i < 64 then a i else r i)) h (0 + i) 0 = .int .u8 (x i) := by
  rw [Nat.zero_add]
  by_cases hl : i < 64
  · rw [catG_lt hl, h1 i hl]; simp only [bytesG, if_pos hl]
  · rw [catG_ge (by omega), hh _ (by omega), ← h2 _ (by omega), show 64 + (i - 64) = i by omega]

theorem rowAt {s : Nat → Int} {g : Nat → Nat → AV} {i : Nat} {A : AV} (hi : i < 32) (hA : A = updG ⟨1, 32, g⟩ 0 0 32 ((List.range 32).map fun i => .int .u8 (s i)) (0 + 0 + i) 0) : A = .int .u8 (s i) := by
  subst hA
  rw [show 0 + 0 + i = i by omega, updG_all (by omega) hi, List.getD_eq_getElem?_getD, List.getElem?_map, List.getElem?_range hi]
  rfl

theorem flat_rowL {s : Nat → Int} : Flats true (rowL s) := by
  have := flats_ints (nv := true) (k := .u8) ((List.range 32).map s)
  rw [List.map_map] at this
  exact this

theorem outRow2 {s : Nat → Int} {g : Nat → Nat → AV} {l : List AV} (hl : l = List.map (cellG ⟨1, 32, updG ⟨1, 32, g⟩ 0 0 32 ((List.range 32).map fun i => .int .u8 (s i))⟩ 0 0) (List.range 32)) : AV.agg l = .agg (rowL s) ∧ Flat true (.agg l) := by
  have e : l = rowL s := by
    subst hl
    refine List.map_congr_left fun i hi => ?_
    have hi : i < 32 := List.mem_range.mp hi
    rw [cellG_one, Nat.zero_add, updG_all (by omega) hi, List.getD_eq_getElem?_getD, List.getElem?_map, List.getElem?_range hi]
    rfl
  subst e
  exact ⟨rfl, .agg _ flat_rowL⟩

set_option maxHeartbeats 1000000 in
theorem S_Mac0 (n c1 : Nat) (f : Nat → Int) (k c2 : Nat) (g : Nat → Int) (hn : n ≤ 900000) (hk : k ≤ 900000) (hf : ∀ i, i < n → 0 ≤ f i ∧ f i ≤ 255) (hg : ∀ i, i < k → 0 ≤ g i ∧ g i ≤ 255) :
    ACall Pg F_sha_Mac [.vsl 1 n c1 (bytesG f), .vsl 1 k c2 (bytesG g)] [] (fun v _ => v = .agg (rowL (macB n f k g)) ∧ Flat true v) := by
  have hP : ∀ i, 64 < n → keyP n f i = if i < 32 then sumB n f i else 0 := fun i h => by simp only [keyP, keyN, keyG, if_pos h]
  have hP' : ∀ i, ¬ 64 < n → keyP n f i = if i < n then f i else 0 := fun i h => by simp only [keyP, keyN, keyG, if_neg h]
  have hM : macB n f k g = sumB 96 (outF (keyP n f) (sumB (64 + k) (inF (keyP n f) g))) := rfl
  generalize keyP n f = P at *
  generalize hM2 : macB n f k g = M at *
  refine B_sha_Mac ⟨rfl, ?_⟩
  conv => whnf
  refine condB_mk (fun hc => ?_) (fun hc => ?_)
  · have hc : 64 < n := by simp at hc; omega
    conv => whnf
    refine S_SumR (f := f) Shows.vsl (by omega) hf (fun s hs hsb => ?_)
    rw [rowL]
    conv => whnf
    refine loop_wk mixed (I := fun q l m => ∃ (j : Nat), l = [(1, .vsl 1 k c2 (bytesG g)), (4, .ptr 0 0 0), (6, .sl 1 0 64 64), (7, .sl 2 0 64 64), (25, .int .i64 (64 : Nat)), (26, .int .i64 j)] ∧
        m = [some ⟨1, 32, fun _ _ => .int .u8 0⟩, some ⟨1, 64, bytesG (fun i => if i < j then xorB (P i) 54 else P i)⟩, some ⟨1, 64, bytesG (fun i => if i < j then xorB (P i) 92 else P i)⟩] ∧ q + j = 64) 64
      (l0 := [(1, .vsl 1 k c2 (bytesG g)), (4, .ptr 0 0 0), (6, .sl 1 0 64 64), (7, .sl 2 0 64 64), (25, .int .i64 (64 : Nat)), (26, .int .i64 (0 : Nat))]) (m0 := [some ⟨1, 32, fun _ _ => .int .u8 0⟩, some ⟨1, 64, bytesG (fun i => if i < 0 then xorB (P i) 54 else P i)⟩, some ⟨1, 64, bytesG (fun i => if i < 0 then xorB (P i) 92 else P i)⟩]) [some 0, some 2, some 3] ⟨0, rfl, rfl, rfl⟩ ?_ ?_
    · refine .mk0 ⟨.eq _ _ rfl (.vsl _ _ _ _ rfl (fun _ _ _ _ => .int _ _)), .ptr _ _ _ _ rfl, .sl _ _ _ _ _ rfl, .sl _ _ _ _ _ rfl, Flat.i rfl, Flat.i rfl, trivial⟩ ⟨.old 0 0 _ _ rfl rfl ⟨rfl, Nat.le_refl _, fun i j hi hj => oneU0 hj rfl⟩, .old 1 2 _ _ rfl rfl ⟨rfl, Nat.le_refl _, fun i j hi hj => ?_⟩, .old 2 3 _ _ rfl rfl ⟨rfl, Nat.le_refl _, fun i j hi hj => ?_⟩, trivial⟩ rfl rfl
      · have hj : j < 1 := hj
        obtain rfl : j = 0 := by omega
        exact keyW2 (P := P) (s := s) (a := fun i => xorB (P i) 54) hj (by rw [hP i hc, hs]) rfl
      · have hj : j < 1 := hj
        obtain rfl : j = 0 := by omega
        exact keyW2 (P := P) (s := s) (a := fun i => xorB (P i) 92) hj (by rw [hP i hc, hs]) rfl
    · rintro q l m ⟨j, rfl, rfl, hq⟩
      conv => whnf
      refine condB_mk (fun hb => ?_) (fun hb => ?_)
      · have hb : j < 64 := by simp at hb; omega
        conv => whnf
        refine condB_ok (by simp; omega) ?_
        conv => whnf
        simp only [Int.toNat_natCast, Nat.zero_add]
        refine condB_ok (by simp [roomG, Nat.ble_eq]; omega) ?_
        conv => whnf
        refine condB_ok (by simp; omega) ?_
        conv => whnf
        simp only [Int.toNat_natCast, Nat.zero_add]
        refine condB_ok (by simp [roomG, Nat.ble_eq]; omega) ?_
        conv => whnf
        refine condB_ok (by simp; omega) ?_
        conv => whnf
        simp only [Int.toNat_natCast, Nat.zero_add]
        refine condB_ok (by simp [roomG, Nat.ble_eq]; omega) ?_
        conv => whnf
        refine condB_ok (by simp; omega) ?_
        conv => whnf
        simp only [Int.toNat_natCast, Nat.zero_add]
        refine condB_ok (by simp [roomG, Nat.ble_eq]; omega) ?_
        conv => whnf
        have e5 : IntKind.i64.wrap ((j : Int) + 1) = ((j + 1 : Nat) : Int) := by rw [w64 (by omega) (by omega)]; omega
        have e6 : ∀ x, bitsV .xor .u8 (if j < j then x else P j) 54 = xorB (P j) 54 := fun x => by rw [if_neg (Nat.lt_irrefl _)]; rfl
        have e7 : ∀ x, bitsV .xor .u8 (if j < j then x else P j) 92 = xorB (P j) 92 := fun x => by rw [if_neg (Nat.lt_irrefl _)]; rfl
        refine ⟨q - 1, [(1, .vsl 1 k c2 (bytesG g)), (4, .ptr 0 0 0), (6, .sl 1 0 64 64), (7, .sl 2 0 64 64), (25, .int .i64 (64 : Nat)), (26, .int .i64 ((j + 1 : Nat) : Int))], [some ⟨1, 32, fun _ _ => .int .u8 0⟩, some ⟨1, 64, bytesG (fun i => if i < j + 1 then xorB (P i) 54 else P i)⟩, some ⟨1, 64, bytesG (fun i => if i < j + 1 then xorB (P i) 92 else P i)⟩], [some 0, some 1, some 2], by omega, ⟨j + 1, rfl, rfl, by omega⟩, ?_⟩
        refine .mk0 ⟨.eq _ _ rfl (.vsl _ _ _ _ rfl (fun _ _ _ _ => .int _ _)), .ptr _ _ _ _ rfl, .sl _ _ _ _ _ rfl, .sl _ _ _ _ _ rfl, Flat.i rfl, Flat.i e5, trivial⟩ ⟨.old 0 0 _ _ rfl rfl ⟨rfl, Nat.le_refl _, fun i j hi hj => .eq _ _ rfl (.int _ _)⟩, .old 1 1 _ _ rfl rfl ⟨rfl, Nat.le_refl _, fun a b ha hb => ?_⟩, .old 2 2 _ _ rfl rfl ⟨rfl, Nat.le_refl _, fun a b ha hb => ?_⟩, trivial⟩ rfl rfl
        · exact updB (a := fun i => xorB (P i) 54) (z := P) hb (e6 _) rfl
        · exact updB (a := fun i => xorB (P i) 92) (z := P) hb (e7 _) rfl
      · have hb : j = 64 := by simp at hb; omega
        subst hb
        conv => whnf
        refine condB_ok (app_ok (by simp) rfl rfl (by omega) (by omega)) (fun cap1 hcap1 => ?_)
        conv => whnf
        refine S_SumR (n := 64 + k) (f := inF P g) (Shows.any rfl (by simp) (fun i hi => ?_)) (by omega) (fun i hi => ?_) (fun s1 hs1 hsb1 => ?_)
        · exact catP (fun i h => by simp only [inF, if_pos h]) (fun i h => by simp only [inF]; rw [if_neg (by omega), show 64 + i - 64 = i by omega]) (k := k) (fun i h => rfl) hi
        · by_cases h : i < 64
          · simp only [inF, if_pos h]; exact xorB_lt _ _
          · simp only [inF, if_neg h]; exact hg _ (by omega)
        rw [rowL]
        conv => whnf
        intro cap2 hcap2
        conv => whnf
        refine S_SumR (n := 96) (f := outF P s1) (Shows.any rfl (by simp) (fun i hi => ?_)) (by omega) (fun i hi => ?_) (fun s2 hs2 hsb2 => ?_)
        · exact catP (fun i h => by simp only [outF, if_pos h]) (fun i h => by simp only [outF]; rw [if_neg (by omega), show 64 + i - 64 = i by omega]) (k := 32) (fun i h => rowAt h rfl) hi
        · by_cases h : i < 64
          · simp only [outF, if_pos h]; exact xorB_lt _ _
          · simp only [outF, if_neg h]; exact hsb1 _
        rw [rowL]
        conv => whnf
        have e9 : s2 = M := by rw [hs2, hM, hs1]
        subst e9
        exact outRow2 rfl
  · have hc : ¬ 64 < n := by simp at hc; omega
    conv => whnf
    refine loop_wk mixed (I := fun q l m => ∃ (j : Nat), l = [(1, .vsl 1 k c2 (bytesG g)), (4, .ptr 0 0 0), (6, .sl 1 0 64 64), (7, .sl 2 0 64 64), (25, .int .i64 (64 : Nat)), (26, .int .i64 j)] ∧
        m = [some ⟨1, 32, fun _ _ => .int .u8 0⟩, some ⟨1, 64, bytesG (fun i => if i < j then xorB (P i) 54 else P i)⟩, some ⟨1, 64, bytesG (fun i => if i < j then xorB (P i) 92 else P i)⟩] ∧ q + j = 64) 64
      (l0 := [(1, .vsl 1 k c2 (bytesG g)), (4, .ptr 0 0 0), (6, .sl 1 0 64 64), (7, .sl 2 0 64 64), (25, .int .i64 (64 : Nat)), (26, .int .i64 (0 : Nat))]) (m0 := [some ⟨1, 32, fun _ _ => .int .u8 0⟩, some ⟨1, 64, bytesG (fun i => if i < 0 then xorB (P i) 54 else P i)⟩, some ⟨1, 64, bytesG (fun i => if i < 0 then xorB (P i) 92 else P i)⟩]) [some 0, some 1, some 2] ⟨0, rfl, rfl, rfl⟩ ?_ ?_
    · refine .mk0 ⟨.eq _ _ rfl (.vsl _ _ _ _ rfl (fun _ _ _ _ => .int _ _)), .ptr _ _ _ _ rfl, .sl _ _ _ _ _ rfl, .sl _ _ _ _ _ rfl, Flat.i rfl, Flat.i rfl, trivial⟩ ⟨.old 0 0 _ _ rfl rfl ⟨rfl, Nat.le_refl _, fun i j hi hj => oneU0 hj rfl⟩, .old 1 1 _ _ rfl rfl ⟨rfl, Nat.le_refl _, fun i j hi hj => ?_⟩, .old 2 2 _ _ rfl rfl ⟨rfl, Nat.le_refl _, fun i j hi hj => ?_⟩, trivial⟩ rfl rfl
      · have hj : j < 1 := hj
        obtain rfl : j = 0 := by omega
        exact keyW1 (P := P) (f := f) (n := n) (a := fun i => xorB (P i) 54) hj (by omega) (hP' i hc) rfl
      · have hj : j < 1 := hj
        obtain rfl : j = 0 := by omega
        exact keyW1 (P := P) (f := f) (n := n) (a := fun i => xorB (P i) 92) hj (by omega) (hP' i hc) rfl
    · rintro q l m ⟨j, rfl, rfl, hq⟩
      conv => whnf
      refine condB_mk (fun hb => ?_) (fun hb => ?_)
      · have hb : j < 64 := by simp at hb; omega
        conv => whnf
        refine condB_ok (by simp; omega) ?_
        conv => whnf
        simp only [Int.toNat_natCast, Nat.zero_add]
        refine condB_ok (by simp [roomG, Nat.ble_eq]; omega) ?_
        conv => whnf
        refine condB_ok (by simp; omega) ?_
        conv => whnf
        simp only [Int.toNat_natCast, Nat.zero_add]
        refine condB_ok (by simp [roomG, Nat.ble_eq]; omega) ?_
        conv => whnf
        refine condB_ok (by simp; omega) ?_
        conv => whnf
        simp only [Int.toNat_natCast, Nat.zero_add]
        refine condB_ok (by simp [roomG, Nat.ble_eq]; omega) ?_
        conv => whnf
        refine condB_ok (by simp; omega) ?_
        conv => whnf
        simp only [Int.toNat_natCast, Nat.zero_add]
        refine condB_ok (by simp [roomG, Nat.ble_eq]; omega) ?_
        conv => whnf
        have e5 : IntKind.i64.wrap ((j : Int) + 1) = ((j + 1 : Nat) : Int) := by rw [w64 (by omega) (by omega)]; omega
        have e6 : ∀ x, bitsV .xor .u8 (if j < j then x else P j) 54 = xorB (P j) 54 := fun x => by rw [if_neg (Nat.lt_irrefl _)]; rfl
        have e7 : ∀ x, bitsV .xor .u8 (if j < j then x else P j) 92 = xorB (P j) 92 := fun x => by rw [if_neg (Nat.lt_irrefl _)]; rfl
        refine ⟨q - 1, [(1, .vsl 1 k c2 (bytesG g)), (4, .ptr 0 0 0), (6, .sl 1 0 64 64), (7, .sl 2 0 64 64), (25, .int .i64 (64 : Nat)), (26, .int .i64 ((j + 1 : Nat) : Int))], [some ⟨1, 32, fun _ _ => .int .u8 0⟩, some ⟨1, 64, bytesG (fun i => if i < j + 1 then xorB (P i) 54 else P i)⟩, some ⟨1, 64, bytesG (fun i => if i < j + 1 then xorB (P i) 92 else P i)⟩], [some 0, some 1, some 2], by omega, ⟨j + 1, rfl, rfl, by omega⟩, ?_⟩
        refine .mk0 ⟨.eq _ _ rfl (.vsl _ _ _ _ rfl (fun _ _ _ _ => .int _ _)), .ptr _ _ _ _ rfl, .sl _ _ _ _ _ rfl, .sl _ _ _ _ _ rfl, Flat.i rfl, Flat.i e5, trivial⟩ ⟨.old 0 0 _ _ rfl rfl ⟨rfl, Nat.le_refl _, fun i j hi hj => .eq _ _ rfl (.int _ _)⟩, .old 1 1 _ _ rfl rfl ⟨rfl, Nat.le_refl _, fun a b ha hb => ?_⟩, .old 2 2 _ _ rfl rfl ⟨rfl, Nat.le_refl _, fun a b ha hb => ?_⟩, trivial⟩ rfl rfl
        · exact updB (a := fun i => xorB (P i) 54) (z := P) hb (e6 _) rfl
        · exact updB (a := fun i => xorB (P i) 92) (z := P) hb (e7 _) rfl
      · have hb : j = 64 := by simp at hb; omega
        subst hb
        conv => whnf
        refine condB_ok (app_ok (by simp) rfl rfl (by omega) (by omega)) (fun cap1 hcap1 => ?_)
        conv => whnf
        refine S_SumR (n := 64 + k) (f := inF P g) (Shows.any rfl (by simp) (fun i hi => ?_)) (by omega) (fun i hi => ?_) (fun s1 hs1 hsb1 => ?_)
        · exact catP (fun i h => by simp only [inF, if_pos h]) (fun i h => by simp only [inF]; rw [if_neg (by omega), show 64 + i - 64 = i by omega]) (k := k) (fun i h => rfl) hi
        · by_cases h : i < 64
          · simp only [inF, if_pos h]; exact xorB_lt _ _
          · simp only [inF, if_neg h]; exact hg _ (by omega)
        rw [rowL]
        conv => whnf
        intro cap2 hcap2
        conv => whnf
        refine S_SumR (n := 96) (f := outF P s1) (Shows.any rfl (by simp) (fun i hi => ?_)) (by omega) (fun i hi => ?_) (fun s2 hs2 hsb2 => ?_)
        · exact catP (fun i h => by simp only [outF, if_pos h]) (fun i h => by simp only [outF]; rw [if_neg (by omega), show 64 + i - 64 = i by omega]) (k := 32) (fun i h => rowAt h rfl) hi
        · by_cases h : i < 64
          · simp only [outF, if_pos h]; exact xorB_lt _ _
          · simp only [outF, if_neg h]; exact hsb1 _
        rw [rowL]
        conv => whnf
        have e9 : s2 = M := by rw [hs2, hM, hs1]
        subst e9
        exact outRow2 rfl

theorem S_Mac {m : Mem} {x y : AV} {n k : Nat} {f g : Nat → Int} {K : AV → Mem → Prop} (hx : Shows m x n f) (hy : Shows m y k g) (hn : n ≤ 900000) (hk : k ≤ 900000) (hf : ∀ i, i < n → 0 ≤ f i ∧ f i ≤ 255) (hg : ∀ i, i < k → 0 ≤ g i ∧ g i ≤ 255)
    (h : ∀ s, s = macB n f k g → (∀ i, 0 ≤ s i ∧ s i ≤ 255) → K (.agg (rowL s)) m) : ACall Pg F_sha_Mac [x, y] m K := by
  obtain ⟨c1, hl⟩ := hx
  obtain ⟨c2, hl2⟩ := hy
  refine lift_flat (S_Mac0 n c1 f k c2 g hn hk hf hg) (.cons _ _ _ _ hl (.cons _ _ _ _ hl2 .nil)) ?_
  rintro v rfl
  exact h _ rfl (sumB_lt _ _)

end Go.Proofs.Ytdobchoiiihfiaa
