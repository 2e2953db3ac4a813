/- The reference sum; no condition. -/
import Derived.Test.YtdobchoiiihfiaaD19
set_option linter.unusedVariables false
set_option linter.unusedSimpArgs false
set_option maxRecDepth 100000
set_option pp.maxSteps 300
namespace Go.Proofs.Ytdobchoiiihfiaa
open Go Go.Wit

theorem updU {nv : Bool} {σ : Nat → Option Nat} {w w' : Nat → Int} {N k x y : Nat} {v : Int} {A : AV} (hy : y < 1) (hA : A = updG ⟨1, N, u32G w⟩ k 0 1 [.int .u32 v] x y) (h1 : v = w' k) (h2 : ∀ i, i ≠ k → w' i = w i) : RV nv σ A (u32G w' x y) := by
  subst hA
  obtain rfl : y = 0 := by omega
  have : updG ⟨1, N, u32G w⟩ k 0 1 [.int .u32 v] x 0 = u32G w' x 0 := by
    rw [updG_one]
    by_cases h : x = k
    · rw [if_pos h, h, h1]; rfl
    · rw [if_neg h]; simp only [u32G, h2 x h]
  rw [this]; exact .eq _ _ rfl (.int _ _)

theorem addSwap (a c s t : Int) : addU (addU (addU a c) s) t = addU (addU (addU a s) c) t := by
  simp only [addU, wu32]
  omega

theorem or_byte32 {a b : Int} (ha : 0 ≤ a ∧ a < 16777216) (hb : 0 ≤ b ∧ b ≤ 255) : bitsV .or .u32 (a * 256) b = a * 256 + b := by
  obtain ⟨A, rfl⟩ : ∃ A : Nat, a = A := ⟨a.toNat, by omega⟩
  obtain ⟨B, rfl⟩ : ∃ B : Nat, b = B := ⟨b.toNat, by omega⟩
  have h1 : BitVec.ofInt 32 ((A : Int) * 256) = BitVec.ofNat 32 (256 * A) := by
    rw [show ((A : Int) * 256) = ((256 * A : Nat) : Int) by omega, BitVec.ofInt_natCast]
  have h2 : BitVec.ofInt 32 (B : Int) = BitVec.ofNat 32 B := BitVec.ofInt_natCast _ _
  show IntKind.u32.wrap ((BitVec.ofInt 32 ((A : Int) * 256) ||| BitVec.ofInt 32 (B : Int)).toNat) = _
  rw [h1, h2, BitVec.toNat_or, BitVec.toNat_ofNat, BitVec.toNat_ofNat, Nat.mod_eq_of_lt (by omega), Nat.mod_eq_of_lt (by omega)]
  have h3 := Nat.two_pow_add_eq_or_of_lt (i := 8) (b := B) (by omega) A
  rw [show (256 : Nat) = 2 ^ 8 from rfl, ← h3, wu32]
  omega

theorem gatherV {B : Nat → Int} {p i : Nat} (hB : ∀ i, 0 ≤ B i ∧ B i ≤ 255) (hi : i < 4) : bitsV .or .u32 (IntKind.u32.wrap (getV B p i * 2 ^ 8)) (IntKind.u32.wrap (B (p + i))) = getV B p (i + 1) := by
  obtain ⟨g1, g2⟩ := getV_lt (f := B) (p := p) (k := i) (fun i _ => hB _)
  have g3 : (256 : Int) ^ i ≤ 256 ^ 3 := by
    have : 256 ^ i ≤ 256 ^ 3 := Nat.pow_le_pow_right (by omega) (by omega)
    exact_mod_cast this
  have g4 := hB (p + i)
  rw [show IntKind.u32.wrap (B (p + i)) = B (p + i) by rw [wu32]; omega, show IntKind.u32.wrap (getV B p i * 2 ^ 8) = getV B p i * 256 by rw [wu32]; omega, or_byte32 (by omega) g4, getV]

set_option maxHeartbeats 4000000 in
theorem S_Sum2560 (n cap : Nat) (f : Nat → Int) (hn : n ≤ 1000000) (hf : ∀ i, i < n → 0 ≤ f i ∧ f i ≤ 255) : ACall Pg F_witanref04_Sum256 [.vsl 1 n cap (bytesG f)] [] (fun v _ => v = .agg (sumL n f) ∧ Flat true v) := by
  obtain ⟨p1, p2, p3⟩ := padN_ge n
  refine B_witanref04_Sum256 ⟨rfl, ?_⟩
  conv => whnf
  refine S_k256R ?_
  generalize hkt : kTab = kt
  conv => whnf
  refine S_refPaddedC (f := f) Shows.vsl hn (fun capp hcapp => ?_)
  conv => whnf
  have hb := padF_lt hf
  generalize hB : padF n f = b at *
  refine loop_wk mixed (I := fun q l m => ∃ (j : Nat), l = [(2, .ptr 0 0 0), (3, .ptr 1 0 0), (4, .ptr 2 0 0), (5, .sl 3 0 (padN n) (capp + 1)), (6, .int .i64 ((64 * j : Nat) : Int))] ∧ m = [some ⟨1, 32, fun _ _ => .int .u8 0⟩, some ⟨1, 64, u32G kt⟩, some ⟨1, 8, u32G (Hn b j)⟩, some ⟨1, padN n, bytesG b⟩] ∧ q + j = padN n / 64) (padN n / 64)
    (l0 := [(2, .ptr 0 0 0), (3, .ptr 1 0 0), (4, .ptr 2 0 0), (5, .sl 3 0 (padN n) (capp + 1)), (6, .int .i64 ((64 * 0 : Nat) : Int))]) (m0 := [some ⟨1, 32, fun _ _ => .int .u8 0⟩, some ⟨1, 64, u32G kt⟩, some ⟨1, 8, u32G hTab⟩, some ⟨1, padN n, bytesG b⟩]) [some 0, some 1, some 2, some 3] ⟨0, rfl, rfl, by omega⟩ ?_ ?_
  · refine .mk0 ⟨.ptr _ _ _ _ rfl, .ptr _ _ _ _ rfl, .ptr _ _ _ _ rfl, .sl _ _ _ _ _ rfl, Flat.i rfl, trivial⟩ ⟨.old 0 0 _ _ rfl rfl ⟨rfl, Nat.le_refl _, fun i j hi hj => oneU0 hj rfl⟩, .old 1 1 _ _ rfl rfl ⟨rfl, Nat.le_refl _, fun i j hi hj => kRow hi hj rfl⟩,
      .old 2 2 _ _ rfl rfl ⟨rfl, Nat.le_refl _, fun i j hi hj => ?_⟩, .old 3 3 _ _ rfl rfl ⟨rfl, Nat.le_refl _, fun i j hi hj => .eq _ _ rfl (.int _ _)⟩, trivial⟩ rfl rfl
    exact eight hi hj rfl rfl rfl rfl rfl rfl rfl rfl
  · rintro q l m ⟨j, rfl, rfl, hq⟩
    conv => whnf
    refine condB_mk (fun hc => ?_) (fun hc => ?_)
    · have hc : 64 * j < padN n := by simp at hc; omega
      conv => whnf
      have hj : j < padN n / 64 := by omega
      generalize hH : Hn b j = h
      refine loop_wk mixed (I := fun q' l m => ∃ (k : Nat), l = [(2, .ptr 0 0 0), (3, .ptr 1 0 0), (4, .ptr 2 0 0), (5, .sl 3 0 (padN n) (capp + 1)), (6, .int .i64 ((64 * j : Nat) : Int)), (7, .ptr 4 0 0), (8, .int .i64 k)] ∧
          m = [some ⟨1, 32, fun _ _ => .int .u8 0⟩, some ⟨1, 64, u32G kt⟩, some ⟨1, 8, u32G h⟩, some ⟨1, padN n, bytesG b⟩, some ⟨1, 64, u32G (Wn (blkB b j) k)⟩] ∧ q' + k = 64) 64
        (l0 := [(2, .ptr 0 0 0), (3, .ptr 1 0 0), (4, .ptr 2 0 0), (5, .sl 3 0 (padN n) (capp + 1)), (6, .int .i64 ((64 * j : Nat) : Int)), (7, .ptr 4 0 0), (8, .int .i64 (0 : Nat))])
        (m0 := [some ⟨1, 32, fun _ _ => .int .u8 0⟩, some ⟨1, 64, u32G kt⟩, some ⟨1, 8, u32G h⟩, some ⟨1, padN n, bytesG b⟩, some ⟨1, 64, u32G (Wn (blkB b j) 0)⟩]) [some 0, some 1, some 2, some 3, some 4] ⟨0, rfl, rfl, rfl⟩ ?_ ?_
      · refine .mk0 ⟨.ptr _ _ _ _ rfl, .ptr _ _ _ _ rfl, .ptr _ _ _ _ rfl, .sl _ _ _ _ _ rfl, Flat.i rfl, .ptr _ _ _ _ rfl, Flat.i rfl, trivial⟩ ⟨.old 0 0 _ _ rfl rfl ⟨rfl, Nat.le_refl _, fun i j hi hj => .eq _ _ rfl (.int _ _)⟩, .old 1 1 _ _ rfl rfl ⟨rfl, Nat.le_refl _, fun i j hi hj => .eq _ _ rfl (.int _ _)⟩, .old 2 2 _ _ rfl rfl ⟨rfl, Nat.le_refl _, fun i j hi hj => .eq _ _ rfl (.int _ _)⟩, .old 3 3 _ _ rfl rfl ⟨rfl, Nat.le_refl _, fun i j hi hj => .eq _ _ rfl (.int _ _)⟩, .old 4 4 _ _ rfl rfl ⟨rfl, Nat.le_refl _, fun i j hi hj => ?_⟩, trivial⟩ rfl rfl
        have hj : j < 1 := hj
        obtain rfl : j = 0 := by omega
        exact .eq _ _ rfl (.int _ _)
      · rintro q' l m ⟨k, rfl, rfl, hk⟩
        conv => whnf
        refine condB_mk (fun hc => ?_) (fun hc => ?_)
        · have hc : k < 64 := by simp at hc; omega
          conv => whnf
          refine condB_mk (fun hd => ?_) (fun hd => ?_)
          · have hd : k < 16 := by simp at hd; omega
            conv => whnf
            refine loop_wk mixed (I := fun q2 l m => ∃ (i : Nat), l = [(2, .ptr 0 0 0), (3, .ptr 1 0 0), (4, .ptr 2 0 0), (5, .sl 3 0 (padN n) (capp + 1)), (6, .int .i64 ((64 * j : Nat) : Int)), (7, .ptr 4 0 0), (8, .int .i64 k), (9, .int .i64 i)] ∧
                m = [some ⟨1, 32, fun _ _ => .int .u8 0⟩, some ⟨1, 64, u32G kt⟩, some ⟨1, 8, u32G h⟩, some ⟨1, padN n, bytesG b⟩, some ⟨1, 64, u32G (fun x => if x = k then getV (blkB b j) (4 * k) i else Wn (blkB b j) k x)⟩] ∧ q2 + i = 4) 4
              (l0 := [(2, .ptr 0 0 0), (3, .ptr 1 0 0), (4, .ptr 2 0 0), (5, .sl 3 0 (padN n) (capp + 1)), (6, .int .i64 ((64 * j : Nat) : Int)), (7, .ptr 4 0 0), (8, .int .i64 k), (9, .int .i64 (0 : Nat))])
              (m0 := [some ⟨1, 32, fun _ _ => .int .u8 0⟩, some ⟨1, 64, u32G kt⟩, some ⟨1, 8, u32G h⟩, some ⟨1, padN n, bytesG b⟩, some ⟨1, 64, u32G (fun x => if x = k then getV (blkB b j) (4 * k) 0 else Wn (blkB b j) k x)⟩]) [some 0, some 1, some 2, some 3, some 4] ⟨0, rfl, rfl, rfl⟩ ?_ ?_
            · refine .mk0 ⟨.ptr _ _ _ _ rfl, .ptr _ _ _ _ rfl, .ptr _ _ _ _ rfl, .sl _ _ _ _ _ rfl, Flat.i rfl, .ptr _ _ _ _ rfl, Flat.i rfl, Flat.i rfl, trivial⟩ ⟨.old 0 0 _ _ rfl rfl ⟨rfl, Nat.le_refl _, fun i j hi hj => .eq _ _ rfl (.int _ _)⟩, .old 1 1 _ _ rfl rfl ⟨rfl, Nat.le_refl _, fun i j hi hj => .eq _ _ rfl (.int _ _)⟩, .old 2 2 _ _ rfl rfl ⟨rfl, Nat.le_refl _, fun i j hi hj => .eq _ _ rfl (.int _ _)⟩, .old 3 3 _ _ rfl rfl ⟨rfl, Nat.le_refl _, fun i j hi hj => .eq _ _ rfl (.int _ _)⟩, .old 4 4 _ _ rfl rfl ⟨rfl, Nat.le_refl _, fun x y hx hy => ?_⟩, trivial⟩ rfl rfl
              have e : Wn (blkB b j) k k = 0 := Wn_ge _ k k (Nat.le_refl _)
              refine .eq _ _ ?_ (.int _ _)
              simp only [u32G]
              by_cases hx : x = k
              · rw [if_pos hx, hx, e]; rfl
              · rw [if_neg hx]
            · rintro q2 l m ⟨i, rfl, rfl, hi⟩
              conv => whnf
              refine condB_mk (fun he => ?_) (fun he => ?_)
              · have he : i < 4 := by simp at he; omega
                conv => whnf
                have e1 : IntKind.i64.wrap (4 * (k : Int)) = ((4 * k : Nat) : Int) := by rw [w64 (by omega) (by omega)]; omega
                have e2 : IntKind.i64.wrap (((64 * j : Nat) : Int) + ((4 * k : Nat) : Int)) = ((64 * j + 4 * k : Nat) : Int) := by rw [w64 (by omega) (by omega)]; omega
                have e3 : IntKind.i64.wrap (((64 * j + 4 * k : Nat) : Int) + (i : Int)) = ((64 * j + 4 * k + i : Nat) : Int) := by rw [w64 (by omega) (by omega)]; omega
                refine condB_ok (by simp; omega) ?_
                conv => whnf
                simp only [Int.toNat_natCast, Nat.zero_add]
                refine condB_ok (by simp [roomG, Nat.ble_eq]; omega) ?_
                conv => whnf
                simp only [e1, e2, e3]
                refine condB_ok (by simp; omega) ?_
                conv => whnf
                simp only [Int.toNat_natCast, Nat.zero_add]
                refine condB_ok (by simp [roomG, Nat.ble_eq]; omega) ?_
                conv => whnf
                refine condB_ok (by simp; omega) ?_
                conv => whnf
                simp only [Int.toNat_natCast, Nat.zero_add]
                refine condB_ok (by simp [roomG, Nat.ble_eq]; omega) ?_
                conv => whnf
                have e5 : IntKind.i64.wrap ((i : Int) + 1) = ((i + 1 : Nat) : Int) := by rw [w64 (by omega) (by omega)]; omega
                refine ⟨q2 - 1, [(2, .ptr 0 0 0), (3, .ptr 1 0 0), (4, .ptr 2 0 0), (5, .sl 3 0 (padN n) (capp + 1)), (6, .int .i64 ((64 * j : Nat) : Int)), (7, .ptr 4 0 0), (8, .int .i64 k), (9, .int .i64 ((i + 1 : Nat) : Int))],
                  [some ⟨1, 32, fun _ _ => .int .u8 0⟩, some ⟨1, 64, u32G kt⟩, some ⟨1, 8, u32G h⟩, some ⟨1, padN n, bytesG b⟩, some ⟨1, 64, u32G (fun x => if x = k then getV (blkB b j) (4 * k) (i + 1) else Wn (blkB b j) k x)⟩], [some 0, some 1, some 2, some 3, some 4], by omega, ⟨i + 1, rfl, rfl, by omega⟩, ?_⟩
                refine .mk0 ⟨.ptr _ _ _ _ rfl, .ptr _ _ _ _ rfl, .ptr _ _ _ _ rfl, .sl _ _ _ _ _ rfl, Flat.i rfl, .ptr _ _ _ _ rfl, Flat.i rfl, Flat.i e5, trivial⟩ ⟨.old 0 0 _ _ rfl rfl ⟨rfl, Nat.le_refl _, fun i j hi hj => .eq _ _ rfl (.int _ _)⟩, .old 1 1 _ _ rfl rfl ⟨rfl, Nat.le_refl _, fun i j hi hj => .eq _ _ rfl (.int _ _)⟩, .old 2 2 _ _ rfl rfl ⟨rfl, Nat.le_refl _, fun i j hi hj => .eq _ _ rfl (.int _ _)⟩, .old 3 3 _ _ rfl rfl ⟨rfl, Nat.le_refl _, fun i j hi hj => .eq _ _ rfl (.int _ _)⟩, .old 4 4 _ _ rfl rfl ⟨rfl, Nat.le_refl _, fun x y hx hy => ?_⟩, trivial⟩ rfl rfl
                refine updU (w := fun x => if x = k then getV (blkB b j) (4 * k) i else Wn (blkB b j) k x) (w' := fun x => if x = k then getV (blkB b j) (4 * k) (i + 1) else Wn (blkB b j) k x) hy rfl ?_ (fun x hx => by simp only [if_neg hx])
                have := gatherV (B := blkB b j) (p := 4 * k) (i := i) (fun _ => hb _) he
                simp only [if_true]
                rw [← this]
                simp only [blkB, Nat.add_assoc]
                rfl
              · have he : i = 4 := by simp at he; omega
                subst he
                conv => whnf
                have e4 : IntKind.i64.wrap ((k : Int) + 1) = ((k + 1 : Nat) : Int) := by rw [w64 (by omega) (by omega)]; omega
                refine ⟨q' - 1, [(2, .ptr 0 0 0), (3, .ptr 1 0 0), (4, .ptr 2 0 0), (5, .sl 3 0 (padN n) (capp + 1)), (6, .int .i64 ((64 * j : Nat) : Int)), (7, .ptr 4 0 0), (8, .int .i64 ((k + 1 : Nat) : Int))],
                  [some ⟨1, 32, fun _ _ => .int .u8 0⟩, some ⟨1, 64, u32G kt⟩, some ⟨1, 8, u32G h⟩, some ⟨1, padN n, bytesG b⟩, some ⟨1, 64, u32G (Wn (blkB b j) (k + 1))⟩], [some 0, some 1, some 2, some 3, some 4], by omega, ⟨k + 1, rfl, rfl, by omega⟩, ?_⟩
                refine .mk0 ⟨.ptr _ _ _ _ rfl, .ptr _ _ _ _ rfl, .ptr _ _ _ _ rfl, .sl _ _ _ _ _ rfl, Flat.i rfl, .ptr _ _ _ _ rfl, Flat.i e4, trivial⟩ ⟨.old 0 0 _ _ rfl rfl ⟨rfl, Nat.le_refl _, fun i j hi hj => .eq _ _ rfl (.int _ _)⟩, .old 1 1 _ _ rfl rfl ⟨rfl, Nat.le_refl _, fun i j hi hj => .eq _ _ rfl (.int _ _)⟩, .old 2 2 _ _ rfl rfl ⟨rfl, Nat.le_refl _, fun i j hi hj => .eq _ _ rfl (.int _ _)⟩, .old 3 3 _ _ rfl rfl ⟨rfl, Nat.le_refl _, fun i j hi hj => .eq _ _ rfl (.int _ _)⟩, .old 4 4 _ _ rfl rfl ⟨rfl, Nat.le_refl _, fun x y hx hy => ?_⟩, trivial⟩ rfl rfl
                refine .eq _ _ ?_ (.int _ _)
                simp only [u32G]
                by_cases hx : x = k
                · rw [if_pos hx, show Wn (blkB b j) (k + 1) x = newW (blkB b j) k (Wn (blkB b j) k) from if_pos hx, newW, if_pos hd]
                · rw [if_neg hx, show Wn (blkB b j) (k + 1) x = Wn (blkB b j) k x from if_neg hx]
          · have hd : ¬ k < 16 := by simp at hd; omega
            conv => whnf
            have e1 : IntKind.i64.wrap ((k : Int) - 15) = ((k - 15 : Nat) : Int) := by rw [w64 (by omega) (by omega)]; omega
            have e2 : IntKind.i64.wrap ((k : Int) - 2) = ((k - 2 : Nat) : Int) := by rw [w64 (by omega) (by omega)]; omega
            have e3 : IntKind.i64.wrap ((k : Int) - 16) = ((k - 16 : Nat) : Int) := by rw [w64 (by omega) (by omega)]; omega
            have e4 : IntKind.i64.wrap ((k : Int) - 7) = ((k - 7 : Nat) : Int) := by rw [w64 (by omega) (by omega)]; omega
            simp only [e1]
            refine condB_ok (by simp; omega) ?_
            conv => whnf
            simp only [Int.toNat_natCast, Nat.zero_add]
            refine condB_ok (by simp [roomG, Nat.ble_eq]; omega) ?_
            conv => whnf
            simp only [e2]
            refine condB_ok (by simp; omega) ?_
            conv => whnf
            simp only [Int.toNat_natCast, Nat.zero_add]
            refine condB_ok (by simp [roomG, Nat.ble_eq]; omega) ?_
            conv => whnf
            simp only [e3]
            refine condB_ok (by simp; omega) ?_
            conv => whnf
            simp only [Int.toNat_natCast, Nat.zero_add]
            refine condB_ok (by simp [roomG, Nat.ble_eq]; omega) ?_
            conv => whnf
            simp only [e4]
            refine condB_ok (by simp; omega) ?_
            conv => whnf
            simp only [Int.toNat_natCast, Nat.zero_add]
            refine condB_ok (by simp [roomG, Nat.ble_eq]; omega) ?_
            conv => whnf
            refine S_rot32 _ _ ?_
            conv => whnf
            refine ⟨⟨[], rfl⟩, ?_⟩
            conv => whnf
            refine S_rot32 _ _ ?_
            conv => whnf
            refine ⟨⟨[], rfl⟩, ?_⟩
            conv => whnf
            refine S_rot32 _ _ ?_
            conv => whnf
            refine ⟨⟨[], rfl⟩, ?_⟩
            conv => whnf
            refine S_rot32 _ _ ?_
            conv => whnf
            refine ⟨⟨[], rfl⟩, ?_⟩
            conv => whnf
            refine condB_ok (by simp; omega) ?_
            conv => whnf
            simp only [Int.toNat_natCast, Nat.zero_add]
            refine condB_ok (by simp [roomG, Nat.ble_eq]; omega) ?_
            conv => whnf
            have e5 : IntKind.i64.wrap ((k : Int) + 1) = ((k + 1 : Nat) : Int) := by rw [w64 (by omega) (by omega)]; omega
            have eW : Wn (blkB b j) (k + 1) k = addU (addU (addU (Wn (blkB b j) k (k - 16)) (sigA (Wn (blkB b j) k (k - 15)))) (Wn (blkB b j) k (k - 7))) (sigB (Wn (blkB b j) k (k - 2))) := by
              rw [show Wn (blkB b j) (k + 1) k = newW (blkB b j) k (Wn (blkB b j) k) from if_pos rfl, newW, if_neg hd]
            refine ⟨q' - 1, [(2, .ptr 0 0 0), (3, .ptr 1 0 0), (4, .ptr 2 0 0), (5, .sl 3 0 (padN n) (capp + 1)), (6, .int .i64 ((64 * j : Nat) : Int)), (7, .ptr 4 0 0), (8, .int .i64 ((k + 1 : Nat) : Int))],
              [some ⟨1, 32, fun _ _ => .int .u8 0⟩, some ⟨1, 64, u32G kt⟩, some ⟨1, 8, u32G h⟩, some ⟨1, padN n, bytesG b⟩, some ⟨1, 64, u32G (Wn (blkB b j) (k + 1))⟩], [some 0, some 1, some 2, some 3, some 4], by omega, ⟨k + 1, rfl, rfl, by omega⟩, ?_⟩
            refine .mk0 ⟨.ptr _ _ _ _ rfl, .ptr _ _ _ _ rfl, .ptr _ _ _ _ rfl, .sl _ _ _ _ _ rfl, Flat.i rfl, .ptr _ _ _ _ rfl, Flat.i e5, trivial⟩ ⟨.old 0 0 _ _ rfl rfl ⟨rfl, Nat.le_refl _, fun i j hi hj => .eq _ _ rfl (.int _ _)⟩, .old 1 1 _ _ rfl rfl ⟨rfl, Nat.le_refl _, fun i j hi hj => .eq _ _ rfl (.int _ _)⟩, .old 2 2 _ _ rfl rfl ⟨rfl, Nat.le_refl _, fun i j hi hj => .eq _ _ rfl (.int _ _)⟩, .old 3 3 _ _ rfl rfl ⟨rfl, Nat.le_refl _, fun i j hi hj => .eq _ _ rfl (.int _ _)⟩, .old 4 4 _ _ rfl rfl ⟨rfl, Nat.le_refl _, fun x y hx hy => ?_⟩, trivial⟩ rfl rfl
            refine updU (w := Wn (blkB b j) k) (w' := Wn (blkB b j) (k + 1)) hy rfl ?_ (fun x hx => if_neg hx)
            rw [eW]
            exact addSwap (Wn (blkB b j) k (k - 16)) (Wn (blkB b j) k (k - 7)) (sigA (Wn (blkB b j) k (k - 15))) (sigB (Wn (blkB b j) k (k - 2)))
        · have hc : k = 64 := by simp at hc; omega
          subst hc
          conv => whnf
          generalize hW : Wn (blkB b j) 64 = w
          refine loop_wk mixed (I := fun q' l m => ∃ (k : Nat), l = [(2, .ptr 0 0 0), (3, .ptr 1 0 0), (4, .ptr 2 0 0), (5, .sl 3 0 (padN n) (capp + 1)), (6, .int .i64 ((64 * j : Nat) : Int)), (7, .ptr 4 0 0), (12, .ptr 5 0 0), (13, .int .i64 k)] ∧
              m = [some ⟨1, 32, fun _ _ => .int .u8 0⟩, some ⟨1, 64, u32G kt⟩, some ⟨1, 8, u32G h⟩, some ⟨1, padN n, bytesG b⟩, some ⟨1, 64, u32G w⟩, some ⟨1, 8, u32G (Rn h w k)⟩] ∧ q' + k = 64) 64
            (l0 := [(2, .ptr 0 0 0), (3, .ptr 1 0 0), (4, .ptr 2 0 0), (5, .sl 3 0 (padN n) (capp + 1)), (6, .int .i64 ((64 * j : Nat) : Int)), (7, .ptr 4 0 0), (12, .ptr 5 0 0), (13, .int .i64 (0 : Nat))])
            (m0 := [some ⟨1, 32, fun _ _ => .int .u8 0⟩, some ⟨1, 64, u32G kt⟩, some ⟨1, 8, u32G h⟩, some ⟨1, padN n, bytesG b⟩, some ⟨1, 64, u32G w⟩, some ⟨1, 8, u32G (Rn h w 0)⟩]) [some 0, some 1, some 2, some 3, some 4, some 5] ⟨0, rfl, rfl, rfl⟩ ?_ ?_
          · refine .mk0 ⟨.ptr _ _ _ _ rfl, .ptr _ _ _ _ rfl, .ptr _ _ _ _ rfl, .sl _ _ _ _ _ rfl, Flat.i rfl, .ptr _ _ _ _ rfl, .ptr _ _ _ _ rfl, Flat.i rfl, trivial⟩ ⟨.old 0 0 _ _ rfl rfl ⟨rfl, Nat.le_refl _, fun i j hi hj => .eq _ _ rfl (.int _ _)⟩, .old 1 1 _ _ rfl rfl ⟨rfl, Nat.le_refl _, fun i j hi hj => .eq _ _ rfl (.int _ _)⟩, .old 2 2 _ _ rfl rfl ⟨rfl, Nat.le_refl _, fun i j hi hj => .eq _ _ rfl (.int _ _)⟩, .old 3 3 _ _ rfl rfl ⟨rfl, Nat.le_refl _, fun i j hi hj => .eq _ _ rfl (.int _ _)⟩, .old 4 4 _ _ rfl rfl ⟨rfl, Nat.le_refl _, fun i j hi hj => .eq _ _ rfl (.int _ _)⟩, .old 5 5 _ _ rfl rfl ⟨rfl, Nat.le_refl _, fun i j hi hj => ?_⟩, trivial⟩ rfl rfl
            exact eightC hi hj rfl
          · rintro q' l m ⟨k, rfl, rfl, hk⟩
            conv => whnf
            refine condB_mk (fun hc => ?_) (fun hc => ?_)
            · have hc : k < 64 := by simp at hc; omega
              conv => whnf
              generalize hR : Rn h w k = r
              refine condB_ok (by simp; omega) ?_
              conv => whnf
              simp only [Int.toNat_natCast, Nat.zero_add]
              refine condB_ok (by simp [roomG, Nat.ble_eq]; omega) ?_
              conv => whnf
              refine condB_ok (by simp; omega) ?_
              conv => whnf
              simp only [Int.toNat_natCast, Nat.zero_add]
              refine condB_ok (by simp [roomG, Nat.ble_eq]; omega) ?_
              conv => whnf
              refine S_rot32 _ _ ?_
              conv => whnf
              refine ⟨⟨[], rfl⟩, ?_⟩
              conv => whnf
              refine S_rot32 _ _ ?_
              conv => whnf
              refine ⟨⟨[], rfl⟩, ?_⟩
              conv => whnf
              refine S_rot32 _ _ ?_
              conv => whnf
              refine ⟨⟨[], rfl⟩, ?_⟩
              conv => whnf
              refine S_rot32 _ _ ?_
              conv => whnf
              refine ⟨⟨[], rfl⟩, ?_⟩
              conv => whnf
              refine S_rot32 _ _ ?_
              conv => whnf
              refine ⟨⟨[], rfl⟩, ?_⟩
              conv => whnf
              refine S_rot32 _ _ ?_
              conv => whnf
              refine ⟨⟨[], rfl⟩, ?_⟩
              conv => whnf
              have e5 : IntKind.i64.wrap ((k : Int) + 1) = ((k + 1 : Nat) : Int) := by rw [w64 (by omega) (by omega)]; omega
              have eR : Rn h w (k + 1) = rnd r (kt k) (w k) := by rw [← hR, ← hkt]; rfl
              refine ⟨q' - 1, [(2, .ptr 0 0 0), (3, .ptr 1 0 0), (4, .ptr 2 0 0), (5, .sl 3 0 (padN n) (capp + 1)), (6, .int .i64 ((64 * j : Nat) : Int)), (7, .ptr 4 0 0), (12, .ptr 5 0 0), (13, .int .i64 ((k + 1 : Nat) : Int))],
                [some ⟨1, 32, fun _ _ => .int .u8 0⟩, some ⟨1, 64, u32G kt⟩, some ⟨1, 8, u32G h⟩, some ⟨1, padN n, bytesG b⟩, some ⟨1, 64, u32G w⟩, some ⟨1, 8, u32G (Rn h w (k + 1))⟩], [some 0, some 1, some 2, some 3, some 4, some 5], by omega, ⟨k + 1, rfl, rfl, by omega⟩, ?_⟩
              rw [eR]
              refine .mk0 ⟨.ptr _ _ _ _ rfl, .ptr _ _ _ _ rfl, .ptr _ _ _ _ rfl, .sl _ _ _ _ _ rfl, Flat.i rfl, .ptr _ _ _ _ rfl, .ptr _ _ _ _ rfl, Flat.i e5, trivial⟩ ⟨.old 0 0 _ _ rfl rfl ⟨rfl, Nat.le_refl _, fun i j hi hj => .eq _ _ rfl (.int _ _)⟩, .old 1 1 _ _ rfl rfl ⟨rfl, Nat.le_refl _, fun i j hi hj => .eq _ _ rfl (.int _ _)⟩, .old 2 2 _ _ rfl rfl ⟨rfl, Nat.le_refl _, fun i j hi hj => .eq _ _ rfl (.int _ _)⟩, .old 3 3 _ _ rfl rfl ⟨rfl, Nat.le_refl _, fun i j hi hj => .eq _ _ rfl (.int _ _)⟩, .old 4 4 _ _ rfl rfl ⟨rfl, Nat.le_refl _, fun i j hi hj => .eq _ _ rfl (.int _ _)⟩, .old 5 5 _ _ rfl rfl ⟨rfl, Nat.le_refl _, fun i j hi hj => ?_⟩, trivial⟩ rfl rfl
              exact eight hi hj rfl rfl rfl rfl rfl rfl rfl rfl
            · have hc : k = 64 := by simp at hc; omega
              subst hc
              conv => whnf
              generalize hR : Rn h w 64 = r
              have hNext : Hn b (j + 1) = fun i => addU (h i) (r i) := by
                rw [show Hn b (j + 1) = nextH (Hn b j) (Wn (blkB b j) 64) from rfl, hW, hH]
                funext i
                rw [nextH, hR]
              refine loop_wk mixed (I := fun q' l m => ∃ (k : Nat), l = [(2, .ptr 0 0 0), (3, .ptr 1 0 0), (4, .ptr 2 0 0), (5, .sl 3 0 (padN n) (capp + 1)), (6, .int .i64 ((64 * j : Nat) : Int)), (12, .ptr 5 0 0), (18, .int .i64 k)] ∧
                  m = [some ⟨1, 32, fun _ _ => .int .u8 0⟩, some ⟨1, 64, u32G kt⟩, some ⟨1, 8, u32G (fun i => if i < k then addU (h i) (r i) else h i)⟩, some ⟨1, padN n, bytesG b⟩, none, some ⟨1, 8, u32G r⟩] ∧ q' + k = 8) 8
                (l0 := [(2, .ptr 0 0 0), (3, .ptr 1 0 0), (4, .ptr 2 0 0), (5, .sl 3 0 (padN n) (capp + 1)), (6, .int .i64 ((64 * j : Nat) : Int)), (12, .ptr 5 0 0), (18, .int .i64 (0 : Nat))])
                (m0 := [some ⟨1, 32, fun _ _ => .int .u8 0⟩, some ⟨1, 64, u32G kt⟩, some ⟨1, 8, u32G (fun i => if i < 0 then addU (h i) (r i) else h i)⟩, some ⟨1, padN n, bytesG b⟩, none, some ⟨1, 8, u32G r⟩]) [some 0, some 1, some 2, some 3, none, some 5] ⟨0, rfl, rfl, rfl⟩ ?_ ?_
              · refine .mk0 ⟨.ptr _ _ _ _ rfl, .ptr _ _ _ _ rfl, .ptr _ _ _ _ rfl, .sl _ _ _ _ _ rfl, Flat.i rfl, .ptr _ _ _ _ rfl, Flat.i rfl, trivial⟩ ⟨.old 0 0 _ _ rfl rfl ⟨rfl, Nat.le_refl _, fun i j hi hj => .eq _ _ rfl (.int _ _)⟩, .old 1 1 _ _ rfl rfl ⟨rfl, Nat.le_refl _, fun i j hi hj => .eq _ _ rfl (.int _ _)⟩, .old 2 2 _ _ rfl rfl ⟨rfl, Nat.le_refl _, fun i j hi hj => ?_⟩, .old 3 3 _ _ rfl rfl ⟨rfl, Nat.le_refl _, fun i j hi hj => .eq _ _ rfl (.int _ _)⟩, .dead _, .old 5 5 _ _ rfl rfl ⟨rfl, Nat.le_refl _, fun i j hi hj => .eq _ _ rfl (.int _ _)⟩, trivial⟩ rfl rfl
                exact .eq _ _ (by simp only [u32G]; rw [if_neg (Nat.not_lt_zero _)]) (.int _ _)
              · rintro q' l m ⟨k, rfl, rfl, hk⟩
                conv => whnf
                refine condB_mk (fun hc => ?_) (fun hc => ?_)
                · have hc : k < 8 := by simp at hc; omega
                  conv => whnf
                  refine condB_ok (by simp; omega) ?_
                  conv => whnf
                  simp only [Int.toNat_natCast, Nat.zero_add]
                  refine condB_ok (by simp [roomG, Nat.ble_eq]; omega) ?_
                  conv => whnf
                  refine condB_ok (by simp; omega) ?_
                  conv => whnf
                  simp only [Int.toNat_natCast, Nat.zero_add]
                  refine condB_ok (by simp [roomG, Nat.ble_eq]; omega) ?_
                  conv => whnf
                  refine condB_ok (by simp; omega) ?_
                  conv => whnf
                  simp only [Int.toNat_natCast, Nat.zero_add]
                  refine condB_ok (by simp [roomG, Nat.ble_eq]; omega) ?_
                  conv => whnf
                  have e5 : IntKind.i64.wrap ((k : Int) + 1) = ((k + 1 : Nat) : Int) := by rw [w64 (by omega) (by omega)]; omega
                  refine ⟨q' - 1, [(2, .ptr 0 0 0), (3, .ptr 1 0 0), (4, .ptr 2 0 0), (5, .sl 3 0 (padN n) (capp + 1)), (6, .int .i64 ((64 * j : Nat) : Int)), (12, .ptr 5 0 0), (18, .int .i64 ((k + 1 : Nat) : Int))],
                    [some ⟨1, 32, fun _ _ => .int .u8 0⟩, some ⟨1, 64, u32G kt⟩, some ⟨1, 8, u32G (fun i => if i < k + 1 then addU (h i) (r i) else h i)⟩, some ⟨1, padN n, bytesG b⟩, none, some ⟨1, 8, u32G r⟩], [some 0, some 1, some 2, some 3, none, some 5], by omega, ⟨k + 1, rfl, rfl, by omega⟩, ?_⟩
                  refine .mk0 ⟨.ptr _ _ _ _ rfl, .ptr _ _ _ _ rfl, .ptr _ _ _ _ rfl, .sl _ _ _ _ _ rfl, Flat.i rfl, .ptr _ _ _ _ rfl, Flat.i e5, trivial⟩ ⟨.old 0 0 _ _ rfl rfl ⟨rfl, Nat.le_refl _, fun i j hi hj => .eq _ _ rfl (.int _ _)⟩, .old 1 1 _ _ rfl rfl ⟨rfl, Nat.le_refl _, fun i j hi hj => .eq _ _ rfl (.int _ _)⟩, .old 2 2 _ _ rfl rfl ⟨rfl, Nat.le_refl _, fun i j hi hj => ?_⟩, .old 3 3 _ _ rfl rfl ⟨rfl, Nat.le_refl _, fun i j hi hj => .eq _ _ rfl (.int _ _)⟩, .dead _, .old 5 5 _ _ rfl rfl ⟨rfl, Nat.le_refl _, fun i j hi hj => .eq _ _ rfl (.int _ _)⟩, trivial⟩ rfl rfl
                  exact updH hj rfl
                · have hc : k = 8 := by simp at hc; omega
                  subst hc
                  conv => whnf
                  have e6 : IntKind.i64.wrap (((64 * j : Nat) : Int) + 64) = ((64 * (j + 1) : Nat) : Int) := by rw [w64 (by omega) (by omega)]; omega
                  refine ⟨q - 1, [(2, .ptr 0 0 0), (3, .ptr 1 0 0), (4, .ptr 2 0 0), (5, .sl 3 0 (padN n) (capp + 1)), (6, .int .i64 ((64 * (j + 1) : Nat) : Int))],
                    [some ⟨1, 32, fun _ _ => .int .u8 0⟩, some ⟨1, 64, u32G kt⟩, some ⟨1, 8, u32G (Hn b (j + 1))⟩, some ⟨1, padN n, bytesG b⟩], [some 0, some 1, some 2, some 3], by omega, ⟨j + 1, rfl, rfl, by omega⟩, ?_⟩
                  rw [hNext]
                  refine .mk0 ⟨.ptr _ _ _ _ rfl, .ptr _ _ _ _ rfl, .ptr _ _ _ _ rfl, .sl _ _ _ _ _ rfl, Flat.i e6, trivial⟩ ⟨.old 0 0 _ _ rfl rfl ⟨rfl, Nat.le_refl _, fun i j hi hj => .eq _ _ rfl (.int _ _)⟩, .old 1 1 _ _ rfl rfl ⟨rfl, Nat.le_refl _, fun i j hi hj => .eq _ _ rfl (.int _ _)⟩, .old 2 2 _ _ rfl rfl ⟨rfl, Nat.le_refl _, fun i j hi hj => ?_⟩, .old 3 3 _ _ rfl rfl ⟨rfl, Nat.le_refl _, fun i j hi hj => .eq _ _ rfl (.int _ _)⟩, trivial⟩ rfl rfl
                  have hi : i < 8 := hi
                  exact .eq _ _ (by simp only [u32G]; rw [if_pos hi]) (.int _ _)
    · have hc : padN n ≤ 64 * j := by simp at hc; omega
      conv => whnf
      obtain rfl : j = padN n / 64 := by omega
      generalize hH : Hn b (padN n / 64) = h
      have hS : ∀ i, i < 32 → sumB n f i = IntKind.u8.wrap ((h (i / 4)).fdiv (2 ^ (24 - 8 * (i % 4)))) := fun i hi => by rw [sumB, hB, hH]
      refine loop_wk mixed (I := fun q' l m => ∃ (k : Nat), l = [(2, .ptr 0 0 0), (4, .ptr 1 0 0), (19, .ptr 2 0 0), (20, .int .i64 k)] ∧
          m = [some ⟨1, 32, fun _ _ => .int .u8 0⟩, some ⟨1, 8, u32G h⟩, some ⟨1, 32, bytesG (fun i => if i < k then sumB n f i else 0)⟩] ∧ q' + k = 32) 32
        (l0 := [(2, .ptr 0 0 0), (4, .ptr 1 0 0), (19, .ptr 2 0 0), (20, .int .i64 (0 : Nat))])
        (m0 := [some ⟨1, 32, fun _ _ => .int .u8 0⟩, some ⟨1, 8, u32G h⟩, some ⟨1, 32, bytesG (fun i => if i < 0 then sumB n f i else 0)⟩]) [some 0, some 2, some 4] ⟨0, rfl, rfl, rfl⟩ ?_ ?_
      · refine .mk0 ⟨.ptr _ _ _ _ rfl, .ptr _ _ _ _ rfl, .ptr _ _ _ _ rfl, Flat.i rfl, trivial⟩ ⟨.old 0 0 _ _ rfl rfl ⟨rfl, Nat.le_refl _, fun i j hi hj => .eq _ _ rfl (.int _ _)⟩, .old 1 2 _ _ rfl rfl ⟨rfl, Nat.le_refl _, fun i j hi hj => .eq _ _ rfl (.int _ _)⟩, .old 2 4 _ _ rfl rfl ⟨rfl, Nat.le_refl _, fun i j hi hj => ?_⟩, trivial⟩ rfl rfl
        have hj : j < 1 := hj
        obtain rfl : j = 0 := by omega
        exact .eq _ _ (by simp only [bytesG]; rw [if_neg (Nat.not_lt_zero _)]; rfl) (.int _ _)
      · rintro q' l m ⟨k, rfl, rfl, hk⟩
        conv => whnf
        refine condB_mk (fun hc => ?_) (fun hc => ?_)
        · have hc : k < 32 := by simp at hc; omega
          conv => whnf
          have e1 : IntKind.i64.wrap ((k : Int).tdiv 4) = ((k / 4 : Nat) : Int) := by
            rw [Int.tdiv_eq_ediv_of_nonneg (by omega), w64 (by omega) (by omega)]; omega
          have e2 : (k : Int).tmod 4 = ((k % 4 : Nat) : Int) := tmod_nat k 4
          have e3 : IntKind.i64.wrap (8 * ((k % 4 : Nat) : Int)) = ((8 * (k % 4) : Nat) : Int) := by rw [w64 (by omega) (by omega)]; omega
          have e4 : IntKind.i64.wrap (24 - ((8 * (k % 4) : Nat) : Int)) = ((24 - 8 * (k % 4) : Nat) : Int) := by rw [w64 (by omega) (by omega)]; omega
          have e4b : IntKind.u64.wrap ((24 - 8 * (k % 4) : Nat) : Int) = ((24 - 8 * (k % 4) : Nat) : Int) := by rw [wu64]; omega
          simp only [e1]
          refine condB_ok (by simp; omega) ?_
          conv => whnf
          simp only [Int.toNat_natCast, Nat.zero_add]
          refine condB_ok (by simp [roomG, Nat.ble_eq]; omega) ?_
          conv => whnf
          simp only [e2, e3, e4, e4b]
          conv => whnf
          refine condB_ok (by simp; omega) ?_
          conv => whnf
          simp only [Int.toNat_natCast, Nat.zero_add]
          refine condB_ok (by simp [roomG, Nat.ble_eq]; omega) ?_
          conv => whnf
          have e5 : IntKind.i64.wrap ((k : Int) + 1) = ((k + 1 : Nat) : Int) := by rw [w64 (by omega) (by omega)]; omega
          have e6 : min (24 - 8 * (k % 4)) IntKind.u32.bits = 24 - 8 * (k % 4) := by simp only [IntKind.bits]; omega
          refine ⟨q' - 1, [(2, .ptr 0 0 0), (4, .ptr 1 0 0), (19, .ptr 2 0 0), (20, .int .i64 ((k + 1 : Nat) : Int))],
            [some ⟨1, 32, fun _ _ => .int .u8 0⟩, some ⟨1, 8, u32G h⟩, some ⟨1, 32, bytesG (fun i => if i < k + 1 then sumB n f i else 0)⟩], [some 0, some 1, some 2], by omega, ⟨k + 1, rfl, rfl, by omega⟩, ?_⟩
          refine .mk0 ⟨.ptr _ _ _ _ rfl, .ptr _ _ _ _ rfl, .ptr _ _ _ _ rfl, Flat.i e5, trivial⟩ ⟨.old 0 0 _ _ rfl rfl ⟨rfl, Nat.le_refl _, fun i j hi hj => .eq _ _ rfl (.int _ _)⟩, .old 1 1 _ _ rfl rfl ⟨rfl, Nat.le_refl _, fun i j hi hj => .eq _ _ rfl (.int _ _)⟩, .old 2 2 _ _ rfl rfl ⟨rfl, Nat.le_refl _, fun i j hi hj => ?_⟩, trivial⟩ rfl rfl
          exact updO hj (hS k hc) e6 rfl
        · have hc : k = 32 := by simp at hc; omega
          subst hc
          conv => whnf
          exact outSum rfl

theorem S_Sum256R {m : Mem} {x : AV} {n : Nat} {f : Nat → Int} {K : AV → Mem → Prop} (hx : Shows m x n f) (hn : n ≤ 1000000) (hf : ∀ i, i < n → 0 ≤ f i ∧ f i ≤ 255) (h : ∀ s, s = sumB n f → (∀ i, 0 ≤ s i ∧ s i ≤ 255) → K (.agg (rowL s)) m) : ACall Pg F_witanref04_Sum256 [x] m K := by
  obtain ⟨cap, hl⟩ := hx
  refine lift_flat (S_Sum2560 n cap f hn hf) (.cons _ _ _ _ hl .nil) ?_
  rintro v rfl
  exact h _ rfl (sumB_lt n f)

end Go.Proofs.Ytdobchoiiihfiaa
