/- Texts of a proof, one behind the other; the last of these: Blocks as they are handed to a law; no condition. -/
import Derived.Test.YtjflfecdeicccaaZ5
section
/- The reference sum; no condition. -/
set_option linter.unusedVariables false
set_option linter.unusedSimpArgs false
set_option maxRecDepth 100000
set_option pp.maxSteps 300
namespace Go.Proofs.Ytjflfecdeicccaa
open Go Go.Wit

theorem updU {nv : Bool} {σ : Nat → Option Nat} {w w' : Nat → Int} {N k x y : Nat} {v : Int} {A : AV} (hy : y < 1) (hA : A = updG ⟨1, N, u32G w⟩ k 0 1 [.int .u32 v] x y) (h1 : v = w' k) (h2 : ∀ i, i ≠ k → w' i = w i) : RV nv σ A (u32G w' x y) := by
  subst hA
  obtain rfl : y = 0 := by omega
  have : updG ⟨1, N, u32G w⟩ k 0 1 [.int .u32 v] x 0 = u32G w' x 0 := by
    rw [updG_one]
    by_cases h : x = k
    · rw [if_pos h, h, h1]; rfl
    · rw [if_neg h]; simp only [u32G, h2 x h]
  rw [this]; exact .eq _ _ rfl (.int _ _)

theorem addSwap (a c s t : Int) : addU (addU (addU a c) s) t = addU (addU (addU a s) c) t := by
  simp only [addU, wu32]
  omega

theorem or_byte32 {a b : Int} (ha : 0 ≤ a ∧ a < 16777216) (hb : 0 ≤ b ∧ b ≤ 255) : bitsV .or .u32 (a * 256) b = a * 256 + b := by
  obtain ⟨A, rfl⟩ : ∃ A : Nat, a = A := ⟨a.toNat, by omega⟩
  obtain ⟨B, rfl⟩ : ∃ B : Nat, b = B := ⟨b.toNat, by omega⟩
  have h1 : BitVec.ofInt 32 ((A : Int) * 256) = BitVec.ofNat 32 (256 * A) := by
    rw [show ((A : Int) * 256) = ((256 * A : Nat) : Int) by omega, BitVec.ofInt_natCast]
  have h2 : BitVec.ofInt 32 (B : Int) = BitVec.ofNat 32 B := BitVec.ofInt_natCast _ _
  show IntKind.u32.wrap ((BitVec.ofInt 32 ((A : Int) * 256) ||| BitVec.ofInt 32 (B : Int)).toNat) = _
  rw [h1, h2, BitVec.toNat_or, BitVec.toNat_ofNat, BitVec.toNat_ofNat, Nat.mod_eq_of_lt (by omega), Nat.mod_eq_of_lt (by omega)]
  have h3 := Nat.two_pow_add_eq_or_of_lt (i := 8) (b := B) (by omega) A
  rw [show (256 : Nat) = 2 ^ 8 from rfl, ← h3, wu32]
  omega

theorem gatherV {B : Nat → Int} {p i : Nat} (hB : ∀ i, 0 ≤ B i ∧ B i ≤ 255) (hi : i < 4) : bitsV .or .u32 (IntKind.u32.wrap (getV B p i * 2 ^ 8)) (IntKind.u32.wrap (B (p + i))) = getV B p (i + 1) := by
  obtain ⟨g1, g2⟩ := getV_lt (f := B) (p := p) (k := i) (fun i _ => hB _)
  have g3 : (256 : Int) ^ i ≤ 256 ^ 3 := by
    have : 256 ^ i ≤ 256 ^ 3 := Nat.pow_le_pow_right (by omega) (by omega)
    exact_mod_cast this
  have g4 := hB (p + i)
  rw [show IntKind.u32.wrap (B (p + i)) = B (p + i) by rw [wu32]; omega, show IntKind.u32.wrap (getV B p i * 2 ^ 8) = getV B p i * 256 by rw [wu32]; omega, or_byte32 (by omega) g4, getV]

set_option maxHeartbeats 4000000 in
theorem S_Sum2560 (n cap : Nat) (f : Nat → Int) (hn : n ≤ 1000000) (hf : ∀ i, i < n → 0 ≤ f i ∧ f i ≤ 255) : ACall Pg F_witanref04_Sum256 [.vsl 1 n cap (bytesG f)] [] (fun v _ => v = .agg (sumL n f) ∧ Flat true v) := by
  obtain ⟨p1, p2, p3⟩ := padN_ge n
  refine B_witanref04_Sum256 ⟨rfl, ?_⟩
  conv => whnf
  refine S_k256R ?_
  generalize hkt : kTab = kt
  conv => whnf
  refine S_refPaddedC (f := f) Shows.vsl hn (fun capp hcapp => ?_)
  conv => whnf
  have hb := padF_lt hf
  generalize hB : padF n f = b at *
  refine loop_wk mixed (I := fun q l m => ∃ (j : Nat), l = [(2, .ptr 0 0 0), (3, .ptr 1 0 0), (4, .ptr 2 0 0), (5, .sl 3 0 (padN n) (capp + 1)), (6, .int .i64 ((64 * j : Nat) : Int))] ∧ m = [some ⟨1, 32, fun _ _ => .int .u8 0⟩, some ⟨1, 64, u32G kt⟩, some ⟨1, 8, u32G (Hn b j)⟩, some ⟨1, padN n, bytesG b⟩] ∧ q + j = padN n / 64) (padN n / 64)
    (l0 := [(2, .ptr 0 0 0), (3, .ptr 1 0 0), (4, .ptr 2 0 0), (5, .sl 3 0 (padN n) (capp + 1)), (6, .int .i64 ((64 * 0 : Nat) : Int))]) (m0 := [some ⟨1, 32, fun _ _ => .int .u8 0⟩, some ⟨1, 64, u32G kt⟩, some ⟨1, 8, u32G hTab⟩, some ⟨1, padN n, bytesG b⟩]) [some 0, some 1, some 2, some 3] ⟨0, rfl, rfl, by omega⟩ ?_ ?_
  · refine .mk0 ⟨.ptr _ _ _ _ rfl, .ptr _ _ _ _ rfl, .ptr _ _ _ _ rfl, .sl _ _ _ _ _ rfl, Flat.i rfl, trivial⟩ ⟨.old 0 0 _ _ rfl rfl ⟨rfl, Nat.le_refl _, fun i j hi hj => oneU0 hj rfl⟩, .old 1 1 _ _ rfl rfl ⟨rfl, Nat.le_refl _, fun i j hi hj => kRow hi hj rfl⟩,
      .old 2 2 _ _ rfl rfl ⟨rfl, Nat.le_refl _, fun i j hi hj => ?_⟩, .old 3 3 _ _ rfl rfl ⟨rfl, Nat.le_refl _, fun i j hi hj => .eq _ _ rfl (.int _ _)⟩, trivial⟩ rfl rfl
    exact eight hi hj rfl rfl rfl rfl rfl rfl rfl rfl
  · rintro q l m ⟨j, rfl, rfl, hq⟩
    conv => whnf
    refine condB_mk (fun hc => ?_) (fun hc => ?_)
    · have hc : 64 * j < padN n := by simp at hc; omega
      conv => whnf
      have hj : j < padN n / 64 := by omega
      generalize hH : Hn b j = h
      refine loop_wk mixed (I := fun q' l m => ∃ (k : Nat), l = [(2, .ptr 0 0 0), (3, .ptr 1 0 0), (4, .ptr 2 0 0), (5, .sl 3 0 (padN n) (capp + 1)), (6, .int .i64 ((64 * j : Nat) : Int)), (7, .ptr 4 0 0), (8, .int .i64 k)] ∧
          m = [some ⟨1, 32, fun _ _ => .int .u8 0⟩, some ⟨1, 64, u32G kt⟩, some ⟨1, 8, u32G h⟩, some ⟨1, padN n, bytesG b⟩, some ⟨1, 64, u32G (Wn (blkB b j) k)⟩] ∧ q' + k = 64) 64
        (l0 := [(2, .ptr 0 0 0), (3, .ptr 1 0 0), (4, .ptr 2 0 0), (5, .sl 3 0 (padN n) (capp + 1)), (6, .int .i64 ((64 * j : Nat) : Int)), (7, .ptr 4 0 0), (8, .int .i64 (0 : Nat))])
        (m0 := [some ⟨1, 32, fun _ _ => .int .u8 0⟩, some ⟨1, 64, u32G kt⟩, some ⟨1, 8, u32G h⟩, some ⟨1, padN n, bytesG b⟩, some ⟨1, 64, u32G (Wn (blkB b j) 0)⟩]) [some 0, some 1, some 2, some 3, some 4] ⟨0, rfl, rfl, rfl⟩ ?_ ?_
      · refine .mk0 ⟨.ptr _ _ _ _ rfl, .ptr _ _ _ _ rfl, .ptr _ _ _ _ rfl, .sl _ _ _ _ _ rfl, Flat.i rfl, .ptr _ _ _ _ rfl, Flat.i rfl, trivial⟩ ⟨.old 0 0 _ _ rfl rfl ⟨rfl, Nat.le_refl _, fun i j hi hj => .eq _ _ rfl (.int _ _)⟩, .old 1 1 _ _ rfl rfl ⟨rfl, Nat.le_refl _, fun i j hi hj => .eq _ _ rfl (.int _ _)⟩, .old 2 2 _ _ rfl rfl ⟨rfl, Nat.le_refl _, fun i j hi hj => .eq _ _ rfl (.int _ _)⟩, .old 3 3 _ _ rfl rfl ⟨rfl, Nat.le_refl _, fun i j hi hj => .eq _ _ rfl (.int _ _)⟩, .old 4 4 _ _ rfl rfl ⟨rfl, Nat.le_refl _, fun i j hi hj => ?_⟩, trivial⟩ rfl rfl
        have hj : j < 1 := hj
        obtain rfl : j = 0 := by omega
        exact .eq _ _ rfl (.int _ _)
      · rintro q' l m ⟨k, rfl, rfl, hk⟩
        conv => whnf
        refine condB_mk (fun hc => ?_) (fun hc => ?_)
        · have hc : k < 64 := by simp at hc; omega
          conv => whnf
          refine condB_mk (fun hd => ?_) (fun hd => ?_)
          · have hd : k < 16 := by simp at hd; omega
            conv => whnf
            refine loop_wk mixed (I := fun q2 l m => ∃ (i : Nat), l = [(2, .ptr 0 0 0), (3, .ptr 1 0 0), (4, .ptr 2 0 0), (5, .sl 3 0 (padN n) (capp + 1)), (6, .int .i64 ((64 * j : Nat) : Int)), (7, .ptr 4 0 0), (8, .int .i64 k), (9, .int .i64 i)] ∧
                m = [some ⟨1, 32, fun _ _ => .int .u8 0⟩, some ⟨1, 64, u32G kt⟩, some ⟨1, 8, u32G h⟩, some ⟨1, padN n, bytesG b⟩, some ⟨1, 64, u32G (fun x => if x = k then getV (blkB b j) (4 * k) i else Wn (blkB b j) k x)⟩] ∧ q2 + i = 4) 4
              (l0 := [(2, .ptr 0 0 0), (3, .ptr 1 0 0), (4, .ptr 2 0 0), (5, .sl 3 0 (padN n) (capp + 1)), (6, .int .i64 ((64 * j : Nat) : Int)), (7, .ptr 4 0 0), (8, .int .i64 k), (9, .int .i64 (0 : Nat))])
              (m0 := [some ⟨1, 32, fun _ _ => .int .u8 0⟩, some ⟨1, 64, u32G kt⟩, some ⟨1, 8, u32G h⟩, some ⟨1, padN n, bytesG b⟩, some ⟨1, 64, u32G (fun x => if x = k then getV (blkB b j) (4 * k) 0 else Wn (blkB b j) k x)⟩]) [some 0, some 1, some 2, some 3, some 4] ⟨0, rfl, rfl, rfl⟩ ?_ ?_
            · refine .mk0 ⟨.ptr _ _ _ _ rfl, .ptr _ _ _ _ rfl, .ptr _ _ _ _ rfl, .sl _ _ _ _ _ rfl, Flat.i rfl, .ptr _ _ _ _ rfl, Flat.i rfl, Flat.i rfl, trivial⟩ ⟨.old 0 0 _ _ rfl rfl ⟨rfl, Nat.le_refl _, fun i j hi hj => .eq _ _ rfl (.int _ _)⟩, .old 1 1 _ _ rfl rfl ⟨rfl, Nat.le_refl _, fun i j hi hj => .eq _ _ rfl (.int _ _)⟩, .old 2 2 _ _ rfl rfl ⟨rfl, Nat.le_refl _, fun i j hi hj => .eq _ _ rfl (.int _ _)⟩, .old 3 3 _ _ rfl rfl ⟨rfl, Nat.le_refl _, fun i j hi hj => .eq _ _ rfl (.int _ _)⟩, .old 4 4 _ _ rfl rfl ⟨rfl, Nat.le_refl _, fun x y hx hy => ?_⟩, trivial⟩ rfl rfl
              have e : Wn (blkB b j) k k = 0 := Wn_ge _ k k (Nat.le_refl _)
              refine .eq _ _ ?_ (.int _ _)
              simp only [u32G]
              by_cases hx : x = k
              · rw [if_pos hx, hx, e]; rfl
              · rw [if_neg hx]
            · rintro q2 l m ⟨i, rfl, rfl, hi⟩
              conv => whnf
              refine condB_mk (fun he => ?_) (fun he => ?_)
              · have he : i < 4 := by simp at he; omega
                conv => whnf
                have e1 : IntKind.i64.wrap (4 * (k : Int)) = ((4 * k : Nat) : Int) := by rw [w64 (by omega) (by omega)]; omega
                have e2 : IntKind.i64.wrap (((64 * j : Nat) : Int) + ((4 * k : Nat) : Int)) = ((64 * j + 4 * k : Nat) : Int) := by rw [w64 (by omega) (by omega)]; omega
                have e3 : IntKind.i64.wrap (((64 * j + 4 * k : Nat) : Int) + (i : Int)) = ((64 * j + 4 * k + i : Nat) : Int) := by rw [w64 (by omega) (by omega)]; omega
                refine condB_ok (by simp; omega) ?_
                conv => whnf
                simp only [Int.toNat_natCast, Nat.zero_add]
                refine condB_ok (by simp [roomG, Nat.ble_eq]; omega) ?_
                conv => whnf
                simp only [e1, e2, e3]
                refine condB_ok (by simp; omega) ?_
                conv => whnf
                simp only [Int.toNat_natCast, Nat.zero_add]
                refine condB_ok (by simp [roomG, Nat.ble_eq]; omega) ?_
                conv => whnf
                refine condB_ok (by simp; omega) ?_
                conv => whnf
                simp only [Int.toNat_natCast, Nat.zero_add]
                refine condB_ok (by simp [roomG, Nat.ble_eq]; omega) ?_
                conv => whnf
                have e5 : IntKind.i64.wrap ((i : Int) + 1) = ((i + 1 : Nat) : Int) := by rw [w64 (by omega) (by omega)]; omega
                refine ⟨q2 - 1, [(2, .ptr 0 0 0), (3, .ptr 1 0 0), (4, .ptr 2 0 0), (5, .sl 3 0 (padN n) (capp + 1)), (6, .int .i64 ((64 * j : Nat) : Int)), (7, .ptr 4 0 0), (8, .int .i64 k), (9, .int .i64 ((i + 1 : Nat) : Int))],
                  [some ⟨1, 32, fun _ _ => .int .u8 0⟩, some ⟨1, 64, u32G kt⟩, some ⟨1, 8, u32G h⟩, some ⟨1, padN n, bytesG b⟩, some ⟨1, 64, u32G (fun x => if x = k then getV (blkB b j) (4 * k) (i + 1) else Wn (blkB b j) k x)⟩], [some 0, some 1, some 2, some 3, some 4], by omega, ⟨i + 1, rfl, rfl, by omega⟩, ?_⟩
                refine .mk0 ⟨.ptr _ _ _ _ rfl, .ptr _ _ _ _ rfl, .ptr _ _ _ _ rfl, .sl _ _ _ _ _ rfl, Flat.i rfl, .ptr _ _ _ _ rfl, Flat.i rfl, Flat.i e5, trivial⟩ ⟨.old 0 0 _ _ rfl rfl ⟨rfl, Nat.le_refl _, fun i j hi hj => .eq _ _ rfl (.int _ _)⟩, .old 1 1 _ _ rfl rfl ⟨rfl, Nat.le_refl _, fun i j hi hj => .eq _ _ rfl (.int _ _)⟩, .old 2 2 _ _ rfl rfl ⟨rfl, Nat.le_refl _, fun i j hi hj => .eq _ _ rfl (.int _ _)⟩, .old 3 3 _ _ rfl rfl ⟨rfl, Nat.le_refl _, fun i j hi hj => .eq _ _ rfl (.int _ _)⟩, .old 4 4 _ _ rfl rfl ⟨rfl, Nat.le_refl _, fun x y hx hy => ?_⟩, trivial⟩ rfl rfl
                refine updU (w := fun x => if x = k then getV (blkB b j) (4 * k) i else Wn (blkB b j) k x) (w' := fun x => if x = k then getV (blkB b j) (4 * k) (i + 1) else Wn (blkB b j) k x) hy rfl ?_ (fun x hx => by simp only [if_neg hx])
                have := gatherV (B := blkB b j) (p := 4 * k) (i := i) (fun _ => hb _) he
                simp only [if_true]
                rw [← this]
                simp only [blkB, Nat.add_assoc]
                rfl
              · have he : i = 4 := by simp at he; omega
                subst he
                conv => whnf
                have e4 : IntKind.i64.wrap ((k : Int) + 1) = ((k + 1 : Nat) : Int) := by rw [w64 (by omega) (by omega)]; omega
                refine ⟨q' - 1, [(2, .ptr 0 0 0), (3, .ptr 1 0 0), (4, .ptr 2 0 0), (5, .sl 3 0 (padN n) (capp + 1)), (6, .int .i64 ((64 * j : Nat) : Int)), (7, .ptr 4 0 0), (8, .int .i64 ((k + 1 : Nat) : Int))],
                  [some ⟨1, 32, fun _ _ => .int .u8 0⟩, some ⟨1, 64, u32G kt⟩, some ⟨1, 8, u32G h⟩, some ⟨1, padN n, bytesG b⟩, some ⟨1, 64, u32G (Wn (blkB b j) (k + 1))⟩], [some 0, some 1, some 2, some 3, some 4], by omega, ⟨k + 1, rfl, rfl, by omega⟩, ?_⟩
                refine .mk0 ⟨.ptr _ _ _ _ rfl, .ptr _ _ _ _ rfl, .ptr _ _ _ _ rfl, .sl _ _ _ _ _ rfl, Flat.i rfl, .ptr _ _ _ _ rfl, Flat.i e4, trivial⟩ ⟨.old 0 0 _ _ rfl rfl ⟨rfl, Nat.le_refl _, fun i j hi hj => .eq _ _ rfl (.int _ _)⟩, .old 1 1 _ _ rfl rfl ⟨rfl, Nat.le_refl _, fun i j hi hj => .eq _ _ rfl (.int _ _)⟩, .old 2 2 _ _ rfl rfl ⟨rfl, Nat.le_refl _, fun i j hi hj => .eq _ _ rfl (.int _ _)⟩, .old 3 3 _ _ rfl rfl ⟨rfl, Nat.le_refl _, fun i j hi hj => .eq _ _ rfl (.int _ _)⟩, .old 4 4 _ _ rfl rfl ⟨rfl, Nat.le_refl _, fun x y hx hy => ?_⟩, trivial⟩ rfl rfl
                refine .eq _ _ ?_ (.int _ _)
                simp only [u32G]
                by_cases hx : x = k
                · rw [if_pos hx, show Wn (blkB b j) (k + 1) x = newW (blkB b j) k (Wn (blkB b j) k) from if_pos hx, newW, if_pos hd]
                · rw [if_neg hx, show Wn (blkB b j) (k + 1) x = Wn (blkB b j) k x from if_neg hx]
          · have hd : ¬ k < 16 := by simp at hd; omega
            conv => whnf
            have e1 : IntKind.i64.wrap ((k : Int) - 15) = ((k - 15 : Nat) : Int) := by rw [w64 (by omega) (by omega)]; omega
            have e2 : IntKind.i64.wrap ((k : Int) - 2) = ((k - 2 : Nat) : Int) := by rw [w64 (by omega) (by omega)]; omega
            have e3 : IntKind.i64.wrap ((k : Int) - 16) = ((k - 16 : Nat) : Int) := by rw [w64 (by omega) (by omega)]; omega
            have e4 : IntKind.i64.wrap ((k : Int) - 7) = ((k - 7 : Nat) : Int) := by rw [w64 (by omega) (by omega)]; omega
            simp only [e1]
            refine condB_ok (by simp; omega) ?_
            conv => whnf
            simp only [Int.toNat_natCast, Nat.zero_add]
            refine condB_ok (by simp [roomG, Nat.ble_eq]; omega) ?_
            conv => whnf
            simp only [e2]
            refine condB_ok (by simp; omega) ?_
            conv => whnf
            simp only [Int.toNat_natCast, Nat.zero_add]
            refine condB_ok (by simp [roomG, Nat.ble_eq]; omega) ?_
            conv => whnf
            simp only [e3]
            refine condB_ok (by simp; omega) ?_
            conv => whnf
            simp only [Int.toNat_natCast, Nat.zero_add]
            refine condB_ok (by simp [roomG, Nat.ble_eq]; omega) ?_
            conv => whnf
            simp only [e4]
            refine condB_ok (by simp; omega) ?_
            conv => whnf
            simp only [Int.toNat_natCast, Nat.zero_add]
            refine condB_ok (by simp [roomG, Nat.ble_eq]; omega) ?_
            conv => whnf
            refine S_rot32 _ _ ?_
            conv => whnf
            refine ⟨⟨[], rfl⟩, ?_⟩
            conv => whnf
            refine S_rot32 _ _ ?_
            conv => whnf
            refine ⟨⟨[], rfl⟩, ?_⟩
            conv => whnf
            refine S_rot32 _ _ ?_
            conv => whnf
            refine ⟨⟨[], rfl⟩, ?_⟩
            conv => whnf
            refine S_rot32 _ _ ?_
            conv => whnf
            refine ⟨⟨[], rfl⟩, ?_⟩
            conv => whnf
            refine condB_ok (by simp; omega) ?_
            conv => whnf
            simp only [Int.toNat_natCast, Nat.zero_add]
            refine condB_ok (by simp [roomG, Nat.ble_eq]; omega) ?_
            conv => whnf
            have e5 : IntKind.i64.wrap ((k : Int) + 1) = ((k + 1 : Nat) : Int) := by rw [w64 (by omega) (by omega)]; omega
            have eW : Wn (blkB b j) (k + 1) k = addU (addU (addU (Wn (blkB b j) k (k - 16)) (sigA (Wn (blkB b j) k (k - 15)))) (Wn (blkB b j) k (k - 7))) (sigB (Wn (blkB b j) k (k - 2))) := by
              rw [show Wn (blkB b j) (k + 1) k = newW (blkB b j) k (Wn (blkB b j) k) from if_pos rfl, newW, if_neg hd]
            refine ⟨q' - 1, [(2, .ptr 0 0 0), (3, .ptr 1 0 0), (4, .ptr 2 0 0), (5, .sl 3 0 (padN n) (capp + 1)), (6, .int .i64 ((64 * j : Nat) : Int)), (7, .ptr 4 0 0), (8, .int .i64 ((k + 1 : Nat) : Int))],
              [some ⟨1, 32, fun _ _ => .int .u8 0⟩, some ⟨1, 64, u32G kt⟩, some ⟨1, 8, u32G h⟩, some ⟨1, padN n, bytesG b⟩, some ⟨1, 64, u32G (Wn (blkB b j) (k + 1))⟩], [some 0, some 1, some 2, some 3, some 4], by omega, ⟨k + 1, rfl, rfl, by omega⟩, ?_⟩
            refine .mk0 ⟨.ptr _ _ _ _ rfl, .ptr _ _ _ _ rfl, .ptr _ _ _ _ rfl, .sl _ _ _ _ _ rfl, Flat.i rfl, .ptr _ _ _ _ rfl, Flat.i e5, trivial⟩ ⟨.old 0 0 _ _ rfl rfl ⟨rfl, Nat.le_refl _, fun i j hi hj => .eq _ _ rfl (.int _ _)⟩, .old 1 1 _ _ rfl rfl ⟨rfl, Nat.le_refl _, fun i j hi hj => .eq _ _ rfl (.int _ _)⟩, .old 2 2 _ _ rfl rfl ⟨rfl, Nat.le_refl _, fun i j hi hj => .eq _ _ rfl (.int _ _)⟩, .old 3 3 _ _ rfl rfl ⟨rfl, Nat.le_refl _, fun i j hi hj => .eq _ _ rfl (.int _ _)⟩, .old 4 4 _ _ rfl rfl ⟨rfl, Nat.le_refl _, fun x y hx hy => ?_⟩, trivial⟩ rfl rfl
            refine updU (w := Wn (blkB b j) k) (w' := Wn (blkB b j) (k + 1)) hy rfl ?_ (fun x hx => if_neg hx)
            rw [eW]
            exact addSwap (Wn (blkB b j) k (k - 16)) (Wn (blkB b j) k (k - 7)) (sigA (Wn (blkB b j) k (k - 15))) (sigB (Wn (blkB b j) k (k - 2)))
        · have hc : k = 64 := by simp at hc; omega
          subst hc
          conv => whnf
          generalize hW : Wn (blkB b j) 64 = w
          refine loop_wk mixed (I := fun q' l m => ∃ (k : Nat), l = [(2, .ptr 0 0 0), (3, .ptr 1 0 0), (4, .ptr 2 0 0), (5, .sl 3 0 (padN n) (capp + 1)), (6, .int .i64 ((64 * j : Nat) : Int)), (7, .ptr 4 0 0), (12, .ptr 5 0 0), (13, .int .i64 k)] ∧
              m = [some ⟨1, 32, fun _ _ => .int .u8 0⟩, some ⟨1, 64, u32G kt⟩, some ⟨1, 8, u32G h⟩, some ⟨1, padN n, bytesG b⟩, some ⟨1, 64, u32G w⟩, some ⟨1, 8, u32G (Rn h w k)⟩] ∧ q' + k = 64) 64
            (l0 := [(2, .ptr 0 0 0), (3, .ptr 1 0 0), (4, .ptr 2 0 0), (5, .sl 3 0 (padN n) (capp + 1)), (6, .int .i64 ((64 * j : Nat) : Int)), (7, .ptr 4 0 0), (12, .ptr 5 0 0), (13, .int .i64 (0 : Nat))])
            (m0 := [some ⟨1, 32, fun _ _ => .int .u8 0⟩, some ⟨1, 64, u32G kt⟩, some ⟨1, 8, u32G h⟩, some ⟨1, padN n, bytesG b⟩, some ⟨1, 64, u32G w⟩, some ⟨1, 8, u32G (Rn h w 0)⟩]) [some 0, some 1, some 2, some 3, some 4, some 5] ⟨0, rfl, rfl, rfl⟩ ?_ ?_
          · refine .mk0 ⟨.ptr _ _ _ _ rfl, .ptr _ _ _ _ rfl, .ptr _ _ _ _ rfl, .sl _ _ _ _ _ rfl, Flat.i rfl, .ptr _ _ _ _ rfl, .ptr _ _ _ _ rfl, Flat.i rfl, trivial⟩ ⟨.old 0 0 _ _ rfl rfl ⟨rfl, Nat.le_refl _, fun i j hi hj => .eq _ _ rfl (.int _ _)⟩, .old 1 1 _ _ rfl rfl ⟨rfl, Nat.le_refl _, fun i j hi hj => .eq _ _ rfl (.int _ _)⟩, .old 2 2 _ _ rfl rfl ⟨rfl, Nat.le_refl _, fun i j hi hj => .eq _ _ rfl (.int _ _)⟩, .old 3 3 _ _ rfl rfl ⟨rfl, Nat.le_refl _, fun i j hi hj => .eq _ _ rfl (.int _ _)⟩, .old 4 4 _ _ rfl rfl ⟨rfl, Nat.le_refl _, fun i j hi hj => .eq _ _ rfl (.int _ _)⟩, .old 5 5 _ _ rfl rfl ⟨rfl, Nat.le_refl _, fun i j hi hj => ?_⟩, trivial⟩ rfl rfl
            exact eightC hi hj rfl
          · rintro q' l m ⟨k, rfl, rfl, hk⟩
            conv => whnf
            refine condB_mk (fun hc => ?_) (fun hc => ?_)
            · have hc : k < 64 := by simp at hc; omega
              conv => whnf
              generalize hR : Rn h w k = r
              refine condB_ok (by simp; omega) ?_
              conv => whnf
              simp only [Int.toNat_natCast, Nat.zero_add]
              refine condB_ok (by simp [roomG, Nat.ble_eq]; omega) ?_
              conv => whnf
              refine condB_ok (by simp; omega) ?_
              conv => whnf
              simp only [Int.toNat_natCast, Nat.zero_add]
              refine condB_ok (by simp [roomG, Nat.ble_eq]; omega) ?_
              conv => whnf
              refine S_rot32 _ _ ?_
              conv => whnf
              refine ⟨⟨[], rfl⟩, ?_⟩
              conv => whnf
              refine S_rot32 _ _ ?_
              conv => whnf
              refine ⟨⟨[], rfl⟩, ?_⟩
              conv => whnf
              refine S_rot32 _ _ ?_
              conv => whnf
              refine ⟨⟨[], rfl⟩, ?_⟩
              conv => whnf
              refine S_rot32 _ _ ?_
              conv => whnf
              refine ⟨⟨[], rfl⟩, ?_⟩
              conv => whnf
              refine S_rot32 _ _ ?_
              conv => whnf
              refine ⟨⟨[], rfl⟩, ?_⟩
              conv => whnf
              refine S_rot32 _ _ ?_
              conv => whnf
              refine ⟨⟨[], rfl⟩, ?_⟩
              conv => whnf
              have e5 : IntKind.i64.wrap ((k : Int) + 1) = ((k + 1 : Nat) : Int) := by rw [w64 (by omega) (by omega)]; omega
              have eR : Rn h w (k + 1) = rnd r (kt k) (w k) := by rw [← hR, ← hkt]; rfl
              refine ⟨q' - 1, [(2, .ptr 0 0 0), (3, .ptr 1 0 0), (4, .ptr 2 0 0), (5, .sl 3 0 (padN n) (capp + 1)), (6, .int .i64 ((64 * j : Nat) : Int)), (7, .ptr 4 0 0), (12, .ptr 5 0 0), (13, .int .i64 ((k + 1 : Nat) : Int))],
                [some ⟨1, 32, fun _ _ => .int .u8 0⟩, some ⟨1, 64, u32G kt⟩, some ⟨1, 8, u32G h⟩, some ⟨1, padN n, bytesG b⟩, some ⟨1, 64, u32G w⟩, some ⟨1, 8, u32G (Rn h w (k + 1))⟩], [some 0, some 1, some 2, some 3, some 4, some 5], by omega, ⟨k + 1, rfl, rfl, by omega⟩, ?_⟩
              rw [eR]
              refine .mk0 ⟨.ptr _ _ _ _ rfl, .ptr _ _ _ _ rfl, .ptr _ _ _ _ rfl, .sl _ _ _ _ _ rfl, Flat.i rfl, .ptr _ _ _ _ rfl, .ptr _ _ _ _ rfl, Flat.i e5, trivial⟩ ⟨.old 0 0 _ _ rfl rfl ⟨rfl, Nat.le_refl _, fun i j hi hj => .eq _ _ rfl (.int _ _)⟩, .old 1 1 _ _ rfl rfl ⟨rfl, Nat.le_refl _, fun i j hi hj => .eq _ _ rfl (.int _ _)⟩, .old 2 2 _ _ rfl rfl ⟨rfl, Nat.le_refl _, fun i j hi hj => .eq _ _ rfl (.int _ _)⟩, .old 3 3 _ _ rfl rfl ⟨rfl, Nat.le_refl _, fun i j hi hj => .eq _ _ rfl (.int _ _)⟩, .old 4 4 _ _ rfl rfl ⟨rfl, Nat.le_refl _, fun i j hi hj => .eq _ _ rfl (.int _ _)⟩, .old 5 5 _ _ rfl rfl ⟨rfl, Nat.le_refl _, fun i j hi hj => ?_⟩, trivial⟩ rfl rfl
              exact eight hi hj rfl rfl rfl rfl rfl rfl rfl rfl
            · have hc : k = 64 := by simp at hc; omega
              subst hc
              conv => whnf
              generalize hR : Rn h w 64 = r
              have hNext : Hn b (j + 1) = fun i => addU (h i) (r i) := by
                rw [show Hn b (j + 1) = nextH (Hn b j) (Wn (blkB b j) 64) from rfl, hW, hH]
                funext i
                rw [nextH, hR]
              refine loop_wk mixed (I := fun q' l m => ∃ (k : Nat), l = [(2, .ptr 0 0 0), (3, .ptr 1 0 0), (4, .ptr 2 0 0), (5, .sl 3 0 (padN n) (capp + 1)), (6, .int .i64 ((64 * j : Nat) : Int)), (12, .ptr 5 0 0), (18, .int .i64 k)] ∧
                  m = [some ⟨1, 32, fun _ _ => .int .u8 0⟩, some ⟨1, 64, u32G kt⟩, some ⟨1, 8, u32G (fun i => if i < k then addU (h i) (r i) else h i)⟩, some ⟨1, padN n, bytesG b⟩, none, some ⟨1, 8, u32G r⟩] ∧ q' + k = 8) 8
                (l0 := [(2, .ptr 0 0 0), (3, .ptr 1 0 0), (4, .ptr 2 0 0), (5, .sl 3 0 (padN n) (capp + 1)), (6, .int .i64 ((64 * j : Nat) : Int)), (12, .ptr 5 0 0), (18, .int .i64 (0 : Nat))])
                (m0 := [some ⟨1, 32, fun _ _ => .int .u8 0⟩, some ⟨1, 64, u32G kt⟩, some ⟨1, 8, u32G (fun i => if i < 0 then addU (h i) (r i) else h i)⟩, some ⟨1, padN n, bytesG b⟩, none, some ⟨1, 8, u32G r⟩]) [some 0, some 1, some 2, some 3, none, some 5] ⟨0, rfl, rfl, rfl⟩ ?_ ?_
              · refine .mk0 ⟨.ptr _ _ _ _ rfl, .ptr _ _ _ _ rfl, .ptr _ _ _ _ rfl, .sl _ _ _ _ _ rfl, Flat.i rfl, .ptr _ _ _ _ rfl, Flat.i rfl, trivial⟩ ⟨.old 0 0 _ _ rfl rfl ⟨rfl, Nat.le_refl _, fun i j hi hj => .eq _ _ rfl (.int _ _)⟩, .old 1 1 _ _ rfl rfl ⟨rfl, Nat.le_refl _, fun i j hi hj => .eq _ _ rfl (.int _ _)⟩, .old 2 2 _ _ rfl rfl ⟨rfl, Nat.le_refl _, fun i j hi hj => ?_⟩, .old 3 3 _ _ rfl rfl ⟨rfl, Nat.le_refl _, fun i j hi hj => .eq _ _ rfl (.int _ _)⟩, .dead _, .old 5 5 _ _ rfl rfl ⟨rfl, Nat.le_refl _, fun i j hi hj => .eq _ _ rfl (.int _ _)⟩, trivial⟩ rfl rfl
                exact .eq _ _ (by simp only [u32G]; rw [if_neg (Nat.not_lt_zero _)]) (.int _ _)
              · rintro q' l m ⟨k, rfl, rfl, hk⟩
                conv => whnf
                refine condB_mk (fun hc => ?_) (fun hc => ?_)
                · have hc : k < 8 := by simp at hc; omega
                  conv => whnf
                  refine condB_ok (by simp; omega) ?_
                  conv => whnf
                  simp only [Int.toNat_natCast, Nat.zero_add]
                  refine condB_ok (by simp [roomG, Nat.ble_eq]; omega) ?_
                  conv => whnf
                  refine condB_ok (by simp; omega) ?_
                  conv => whnf
                  simp only [Int.toNat_natCast, Nat.zero_add]
                  refine condB_ok (by simp [roomG, Nat.ble_eq]; omega) ?_
                  conv => whnf
                  refine condB_ok (by simp; omega) ?_
                  conv => whnf
                  simp only [Int.toNat_natCast, Nat.zero_add]
                  refine condB_ok (by simp [roomG, Nat.ble_eq]; omega) ?_
                  conv => whnf
                  have e5 : IntKind.i64.wrap ((k : Int) + 1) = ((k + 1 : Nat) : Int) := by rw [w64 (by omega) (by omega)]; omega
                  refine ⟨q' - 1, [(2, .ptr 0 0 0), (3, .ptr 1 0 0), (4, .ptr 2 0 0), (5, .sl 3 0 (padN n) (capp + 1)), (6, .int .i64 ((64 * j : Nat) : Int)), (12, .ptr 5 0 0), (18, .int .i64 ((k + 1 : Nat) : Int))],
                    [some ⟨1, 32, fun _ _ => .int .u8 0⟩, some ⟨1, 64, u32G kt⟩, some ⟨1, 8, u32G (fun i => if i < k + 1 then addU (h i) (r i) else h i)⟩, some ⟨1, padN n, bytesG b⟩, none, some ⟨1, 8, u32G r⟩], [some 0, some 1, some 2, some 3, none, some 5], by omega, ⟨k + 1, rfl, rfl, by omega⟩, ?_⟩
                  refine .mk0 ⟨.ptr _ _ _ _ rfl, .ptr _ _ _ _ rfl, .ptr _ _ _ _ rfl, .sl _ _ _ _ _ rfl, Flat.i rfl, .ptr _ _ _ _ rfl, Flat.i e5, trivial⟩ ⟨.old 0 0 _ _ rfl rfl ⟨rfl, Nat.le_refl _, fun i j hi hj => .eq _ _ rfl (.int _ _)⟩, .old 1 1 _ _ rfl rfl ⟨rfl, Nat.le_refl _, fun i j hi hj => .eq _ _ rfl (.int _ _)⟩, .old 2 2 _ _ rfl rfl ⟨rfl, Nat.le_refl _, fun i j hi hj => ?_⟩, .old 3 3 _ _ rfl rfl ⟨rfl, Nat.le_refl _, fun i j hi hj => .eq _ _ rfl (.int _ _)⟩, .dead _, .old 5 5 _ _ rfl rfl ⟨rfl, Nat.le_refl _, fun i j hi hj => .eq _ _ rfl (.int _ _)⟩, trivial⟩ rfl rfl
                  exact updH hj rfl
                · have hc : k = 8 := by simp at hc; omega
                  subst hc
                  conv => whnf
                  have e6 : IntKind.i64.wrap (((64 * j : Nat) : Int) + 64) = ((64 * (j + 1) : Nat) : Int) := by rw [w64 (by omega) (by omega)]; omega
                  refine ⟨q - 1, [(2, .ptr 0 0 0), (3, .ptr 1 0 0), (4, .ptr 2 0 0), (5, .sl 3 0 (padN n) (capp + 1)), (6, .int .i64 ((64 * (j + 1) : Nat) : Int))],
                    [some ⟨1, 32, fun _ _ => .int .u8 0⟩, some ⟨1, 64, u32G kt⟩, some ⟨1, 8, u32G (Hn b (j + 1))⟩, some ⟨1, padN n, bytesG b⟩], [some 0, some 1, some 2, some 3], by omega, ⟨j + 1, rfl, rfl, by omega⟩, ?_⟩
                  rw [hNext]
                  refine .mk0 ⟨.ptr _ _ _ _ rfl, .ptr _ _ _ _ rfl, .ptr _ _ _ _ rfl, .sl _ _ _ _ _ rfl, Flat.i e6, trivial⟩ ⟨.old 0 0 _ _ rfl rfl ⟨rfl, Nat.le_refl _, fun i j hi hj => .eq _ _ rfl (.int _ _)⟩, .old 1 1 _ _ rfl rfl ⟨rfl, Nat.le_refl _, fun i j hi hj => .eq _ _ rfl (.int _ _)⟩, .old 2 2 _ _ rfl rfl ⟨rfl, Nat.le_refl _, fun i j hi hj => ?_⟩, .old 3 3 _ _ rfl rfl ⟨rfl, Nat.le_refl _, fun i j hi hj => .eq _ _ rfl (.int _ _)⟩, trivial⟩ rfl rfl
                  have hi : i < 8 := hi
                  exact .eq _ _ (by simp only [u32G]; rw [if_pos hi]) (.int _ _)
    · have hc : padN n ≤ 64 * j := by simp at hc; omega
      conv => whnf
      obtain rfl : j = padN n / 64 := by omega
      generalize hH : Hn b (padN n / 64) = h
      have hS : ∀ i, i < 32 → sumB n f i = IntKind.u8.wrap ((h (i / 4)).fdiv (2 ^ (24 - 8 * (i % 4)))) := fun i hi => by rw [sumB, hB, hH]
      refine loop_wk mixed (I := fun q' l m => ∃ (k : Nat), l = [(2, .ptr 0 0 0), (4, .ptr 1 0 0), (19, .ptr 2 0 0), (20, .int .i64 k)] ∧
          m = [some ⟨1, 32, fun _ _ => .int .u8 0⟩, some ⟨1, 8, u32G h⟩, some ⟨1, 32, bytesG (fun i => if i < k then sumB n f i else 0)⟩] ∧ q' + k = 32) 32
        (l0 := [(2, .ptr 0 0 0), (4, .ptr 1 0 0), (19, .ptr 2 0 0), (20, .int .i64 (0 : Nat))])
        (m0 := [some ⟨1, 32, fun _ _ => .int .u8 0⟩, some ⟨1, 8, u32G h⟩, some ⟨1, 32, bytesG (fun i => if i < 0 then sumB n f i else 0)⟩]) [some 0, some 2, some 4] ⟨0, rfl, rfl, rfl⟩ ?_ ?_
      · refine .mk0 ⟨.ptr _ _ _ _ rfl, .ptr _ _ _ _ rfl, .ptr _ _ _ _ rfl, Flat.i rfl, trivial⟩ ⟨.old 0 0 _ _ rfl rfl ⟨rfl, Nat.le_refl _, fun i j hi hj => .eq _ _ rfl (.int _ _)⟩, .old 1 2 _ _ rfl rfl ⟨rfl, Nat.le_refl _, fun i j hi hj => .eq _ _ rfl (.int _ _)⟩, .old 2 4 _ _ rfl rfl ⟨rfl, Nat.le_refl _, fun i j hi hj => ?_⟩, trivial⟩ rfl rfl
        have hj : j < 1 := hj
        obtain rfl : j = 0 := by omega
        exact .eq _ _ (by simp only [bytesG]; rw [if_neg (Nat.not_lt_zero _)]; rfl) (.int _ _)
      · rintro q' l m ⟨k, rfl, rfl, hk⟩
        conv => whnf
        refine condB_mk (fun hc => ?_) (fun hc => ?_)
        · have hc : k < 32 := by simp at hc; omega
          conv => whnf
          have e1 : IntKind.i64.wrap ((k : Int).tdiv 4) = ((k / 4 : Nat) : Int) := by
            rw [Int.tdiv_eq_ediv_of_nonneg (by omega), w64 (by omega) (by omega)]; omega
          have e2 : (k : Int).tmod 4 = ((k % 4 : Nat) : Int) := tmod_nat k 4
          have e3 : IntKind.i64.wrap (8 * ((k % 4 : Nat) : Int)) = ((8 * (k % 4) : Nat) : Int) := by rw [w64 (by omega) (by omega)]; omega
          have e4 : IntKind.i64.wrap (24 - ((8 * (k % 4) : Nat) : Int)) = ((24 - 8 * (k % 4) : Nat) : Int) := by rw [w64 (by omega) (by omega)]; omega
          have e4b : IntKind.u64.wrap ((24 - 8 * (k % 4) : Nat) : Int) = ((24 - 8 * (k % 4) : Nat) : Int) := by rw [wu64]; omega
          simp only [e1]
          refine condB_ok (by simp; omega) ?_
          conv => whnf
          simp only [Int.toNat_natCast, Nat.zero_add]
          refine condB_ok (by simp [roomG, Nat.ble_eq]; omega) ?_
          conv => whnf
          simp only [e2, e3, e4, e4b]
          conv => whnf
          refine condB_ok (by simp; omega) ?_
          conv => whnf
          simp only [Int.toNat_natCast, Nat.zero_add]
          refine condB_ok (by simp [roomG, Nat.ble_eq]; omega) ?_
          conv => whnf
          have e5 : IntKind.i64.wrap ((k : Int) + 1) = ((k + 1 : Nat) : Int) := by rw [w64 (by omega) (by omega)]; omega
          have e6 : min (24 - 8 * (k % 4)) IntKind.u32.bits = 24 - 8 * (k % 4) := by simp only [IntKind.bits]; omega
          refine ⟨q' - 1, [(2, .ptr 0 0 0), (4, .ptr 1 0 0), (19, .ptr 2 0 0), (20, .int .i64 ((k + 1 : Nat) : Int))],
            [some ⟨1, 32, fun _ _ => .int .u8 0⟩, some ⟨1, 8, u32G h⟩, some ⟨1, 32, bytesG (fun i => if i < k + 1 then sumB n f i else 0)⟩], [some 0, some 1, some 2], by omega, ⟨k + 1, rfl, rfl, by omega⟩, ?_⟩
          refine .mk0 ⟨.ptr _ _ _ _ rfl, .ptr _ _ _ _ rfl, .ptr _ _ _ _ rfl, Flat.i e5, trivial⟩ ⟨.old 0 0 _ _ rfl rfl ⟨rfl, Nat.le_refl _, fun i j hi hj => .eq _ _ rfl (.int _ _)⟩, .old 1 1 _ _ rfl rfl ⟨rfl, Nat.le_refl _, fun i j hi hj => .eq _ _ rfl (.int _ _)⟩, .old 2 2 _ _ rfl rfl ⟨rfl, Nat.le_refl _, fun i j hi hj => ?_⟩, trivial⟩ rfl rfl
          exact updO hj (hS k hc) e6 rfl
        · have hc : k = 32 := by simp at hc; omega
          subst hc
          conv => whnf
          exact outSum rfl

theorem S_Sum256R {m : Mem} {x : AV} {n : Nat} {f : Nat → Int} {K : AV → Mem → Prop} (hx : Shows m x n f) (hn : n ≤ 1000000) (hf : ∀ i, i < n → 0 ≤ f i ∧ f i ≤ 255) (h : ∀ s, s = sumB n f → (∀ i, 0 ≤ s i ∧ s i ≤ 255) → K (.agg (rowL s)) m) : ACall Pg F_witanref04_Sum256 [x] m K := by
  obtain ⟨cap, hl⟩ := hx
  refine lift_flat (S_Sum2560 n cap f hn hf) (.cons _ _ _ _ hl .nil) ?_
  rintro v rfl
  exact h _ rfl (sumB_lt n f)

end Go.Proofs.Ytjflfecdeicccaa
end

section
/- The bytes of numbers; bytes joined; no condition. -/
set_option linter.unusedVariables false
set_option linter.unusedSimpArgs false
set_option maxRecDepth 100000
set_option pp.maxSteps 3000
namespace Go.Proofs.Ytjflfecdeicccaa
open Go Go.Wit

theorem RV.of {nv : Bool} {σ : Nat → Option Nat} {v v' : AV} (h : v = v') (hf : Flat nv v') : RV nv σ v v' := by subst h; exact .eq _ _ rfl hf

theorem Shows.slG {m : Mem} {l off n cap N : Nat} {f : Nat → Int} {g : Nat → Nat → AV} (h : m[l]? = some (some ⟨1, N, g⟩)) (hn : off + n ≤ N) (hf : ∀ i, i < n → g (off + i) 0 = .int .u8 (f i)) : Shows m (.sl l off n cap) n f :=
  ⟨cap, .sl l off n cap ⟨1, N, g⟩ _ (List.mem_range.2 (lt_of_get h)) h hn (fun i j hi hj => by
    have hj : j < 1 := hj
    obtain rfl : j = 0 := by omega
    exact ⟨(hf i hi).symm, flat_bytesG⟩)⟩
theorem Shows.one {m : Mem} {l cap : Nat} {x : Int} {g : Nat → Nat → AV} (h : m[l]? = some (some ⟨1, 1, g⟩)) (hf : g 0 0 = .int .u8 x) : Shows m (.sl l 0 1 cap) 1 (fun _ => x) :=
  Shows.slG h (Nat.le_refl _) fun i hi => by
    obtain rfl : i = 0 := by omega
    exact hf
theorem flat_bytesV {n cap : Nat} {f : Nat → Int} : Flat false (.vsl 1 n cap (bytesG f)) := .vsl _ _ _ _ rfl fun _ _ _ _ => flat_bytesG
/-- Rows of bytes. -/
def rowsB (N C : Nat → Nat) (F : Nat → Nat → Int) : Nat → Nat → AV := fun k _ => .vsl 1 (N k) (C k) (bytesG (F k))
theorem flat_rowsBV {n cap : Nat} {N C : Nat → Nat} {F : Nat → Nat → Int} : Flat false (.vsl 1 n cap (rowsB N C F)) := .vsl _ _ _ _ rfl fun _ _ _ _ => flat_bytesV
/-- What stands in slot x shows r rows of bytes. -/
def ShowsB (m : Mem) (x : AV) (r : Nat) (N : Nat → Nat) (F : Nat → Nat → Int) : Prop := ∃ cap C, Lend (fun _ => none) (List.range m.length) m x (.vsl 1 r cap (rowsB N C F))
theorem ShowsB.vsl {m : Mem} {r cap : Nat} {N C : Nat → Nat} {F : Nat → Nat → Int} : ShowsB m (.vsl 1 r cap (rowsB N C F)) r N F := ⟨cap, C, .rv _ _ (.eq _ _ rfl flat_rowsBV)⟩
theorem ShowsB.nils {m : Mem} {N : Nat → Nat} {F : Nat → Nat → Int} : ShowsB m .nils 0 N F := ⟨0, fun _ => 0, .nils _ _⟩
theorem ShowsB.sl {m : Mem} {l off r cap M : Nat} {N : Nat → Nat} {F : Nat → Nat → Int} {g : Nat → Nat → AV} (h : m[l]? = some (some ⟨1, M, g⟩)) (hn : off + r ≤ M) (hG : ∀ i, i < r → Shows m (g (off + i) 0) (N i) (F i)) : ShowsB m (.sl l off r cap) r N F := by
  have hC : ∃ C : Nat → Nat, ∀ i, i < r → Lend (fun _ => none) (List.range m.length) m (g (off + i) 0) (.vsl 1 (N i) (C i) (bytesG (F i))) := by
    refine ⟨fun i => if h : i < r then Classical.choose (hG i h) else 0, fun i hi => ?_⟩
    dsimp only
    rw [dif_pos hi]
    exact Classical.choose_spec (hG i hi)
  obtain ⟨C, hC⟩ := hC
  refine ⟨cap, C, .slR l off r cap ⟨1, M, g⟩ _ (List.mem_range.2 (lt_of_get h)) h hn fun i j hi hj => ?_⟩
  have hj : j < 1 := hj
  obtain rfl : j = 0 := by omega
  exact hC i hi

end Go.Proofs.Ytjflfecdeicccaa
end

section
/- The bytes of a block, as the program and the page tell them, and its hash; no condition. -/
set_option linter.unusedVariables false
set_option linter.unusedSimpArgs false
set_option maxRecDepth 100000
set_option pp.maxSteps 3000
set_option pp.deepTerms false
set_option pp.deepTerms.threshold 7
namespace Go.Proofs.Ytjflfecdeicccaa
open Go Go.Wit

theorem acall_mono {P : Program} {f : FuncId} {args : List AV} {m : Mem} {K K2 : AV → Mem → Prop} (h : ACall P f args m K) (hk : ∀ v m', K v m' → K2 v m') : ACall P f args m K2 :=
  ⟨h.callable, fun C w L cargs h1 h2 => (h.run C w L cargs h1 h2).mono fun en w' ⟨v, m', r, L', g1, g2, g3⟩ => ⟨v, m', r, L', g1, hk _ _ g2, g3⟩⟩
theorem RetB.same {n M : Nat} {f G : Nat → Int} {x : AV} {m : Mem} (h : RetB n f x m) (hM : n = M) (hG : ∀ i, i < M → f i = G i) : RetB M G x m := by
  subst hM
  rcases h with h | ⟨l, cap, N, g, h1, h2, h3, h4⟩
  · exact .inl h
  · exact .inr ⟨l, cap, N, g, h1, h2, h3, fun i hi => by rw [h4 i hi, hG i hi]⟩
/-- Put, with the bytes told as one likes. -/
theorem S_PutN {m : Mem} {x : AV} {n : Nat} {f : Nat → Int} {K : AV → Mem → Prop} {v s : Int} (M : Nat) (G : Nat → Int) (hx : Shows m x n f) (hn : n ≤ 140737488355000) (hok : putOk v s = true) (hM : n + s.toNat = M) (hG : ∀ i, i < M → putB n f v s i = G i)
    (h : ∀ cap, memK (m ++ [some ⟨1, M, bytesG G⟩]) (K (.tup [.sl m.length 0 M cap, .int .i64 0]))) : ACall Pg F_bin_Put [x, .int .i64 v, .int .i64 s] m K := by
  simp only [memK_eq] at h
  obtain ⟨cap, hl⟩ := hx
  refine lift_tup (R := fun n' f' vs => n' = M ∧ f' = G ∧ vs = [.int .i64 0]) (acall_mono (S_Put0 n cap f v s hn) ?_) (.cons _ _ _ _ hl (.cons _ _ _ _ lend_int (.cons _ _ _ _ lend_int .nil))) ?_
  · rintro r m' ⟨n', f', x, vs, rfl, hR, h1, h2⟩
    rw [if_pos hok] at hR
    obtain ⟨rfl, rfl, rfl⟩ := hR
    exact ⟨M, G, x, _, rfl, ⟨rfl, rfl, rfl⟩, RetB.same h1 hM hG, h2⟩
  · rintro n' f' cap vs ⟨rfl, rfl, rfl⟩
    exact h cap
theorem S_refPutN {m : Mem} {x : AV} {n : Nat} {f : Nat → Int} {K : AV → Mem → Prop} {v s : Int} (M : Nat) (G : Nat → Int) (hx : Shows m x n f) (hn : n ≤ 140737488355000) (hok : putOk v s = true) (hv : -9223372036854775808 ≤ v ∧ v ≤ 9223372036854775807) (hM : n + s.toNat = M) (hG : ∀ i, i < M → putB n f v s i = G i)
    (h : ∀ cap, memK (m ++ [some ⟨1, M, bytesG G⟩]) (K (.tup [.sl m.length 0 M cap, .int .i64 0]))) : ACall Pg F_witanref10_Put [x, .int .i64 v, .int .i64 s] m K := by
  simp only [memK_eq] at h
  obtain ⟨cap, hl⟩ := hx
  refine lift_tup (R := fun n' f' vs => n' = M ∧ f' = G ∧ vs = [.int .i64 0]) (acall_mono (S_refPut0 n cap f v s hn hv) ?_) (.cons _ _ _ _ hl (.cons _ _ _ _ lend_int (.cons _ _ _ _ lend_int .nil))) ?_
  · rintro r m' ⟨n', f', x, vs, rfl, hR, h1, h2⟩
    rw [if_pos hok] at hR
    obtain ⟨rfl, rfl, rfl⟩ := hR
    exact ⟨M, G, x, _, rfl, ⟨rfl, rfl, rfl⟩, RetB.same h1 hM hG, h2⟩
  · rintro n' f' cap vs ⟨rfl, rfl, rfl⟩
    exact h cap
theorem S_PutPartN {m : Mem} {x y : AV} {n k : Nat} {f g : Nat → Int} {K : AV → Mem → Prop} (M : Nat) (G : Nat → Int) (hx : Shows m x n f) (hy : Shows m y k g) (hn : n ≤ 140737488300000) (hk : k ≤ 16384) (hM : n + 4 + k = M) (hG : ∀ i, i < M → catB (n + 4) (putB n f k 4) g i = G i)
    (h : ∀ cap, memK (m ++ [some ⟨1, M, bytesG G⟩]) (K (.tup [.sl m.length 0 M cap, .int .i64 0]))) : ACall Pg F_bin_PutPart [x, y] m K := by
  simp only [memK_eq] at h
  obtain ⟨c1, hl⟩ := hx
  obtain ⟨c2, hl2⟩ := hy
  refine lift_tup (R := fun n' f' vs => n' = M ∧ f' = G ∧ vs = [.int .i64 0]) (acall_mono (S_PutPart0 n c1 k c2 f g hn) ?_) (.cons _ _ _ _ hl (.cons _ _ _ _ hl2 .nil)) ?_
  · rintro r m' ⟨n', f', x, vs, rfl, hR, h1, h2⟩
    rw [if_pos hk] at hR
    obtain ⟨rfl, rfl, rfl⟩ := hR
    exact ⟨M, G, x, _, rfl, ⟨rfl, rfl, rfl⟩, RetB.same h1 hM hG, h2⟩
  · rintro n' f' cap vs ⟨rfl, rfl, rfl⟩
    exact h cap
theorem S_refPutPartN {m : Mem} {x y : AV} {n k : Nat} {f g : Nat → Int} {K : AV → Mem → Prop} (M : Nat) (G : Nat → Int) (hx : Shows m x n f) (hy : Shows m y k g) (hn : n ≤ 140737488300000) (hk : k ≤ 16384) (hM : n + 4 + k = M) (hG : ∀ i, i < M → catB (n + 4) (putB n f k 4) g i = G i)
    (h : ∀ cap, memK (m ++ [some ⟨1, M, bytesG G⟩]) (K (.tup [.sl m.length 0 M cap, .int .i64 0]))) : ACall Pg F_witanref10_PutPart [x, y] m K := by
  simp only [memK_eq] at h
  obtain ⟨c1, hl⟩ := hx
  obtain ⟨c2, hl2⟩ := hy
  refine lift_tup (R := fun n' f' vs => n' = M ∧ f' = G ∧ vs = [.int .i64 0]) (acall_mono (S_refPutPart0 n c1 k c2 f g hn) ?_) (.cons _ _ _ _ hl (.cons _ _ _ _ hl2 .nil)) ?_
  · rintro r m' ⟨n', f', x, vs, rfl, hR, h1, h2⟩
    rw [if_pos hk] at hR
    obtain ⟨rfl, rfl, rfl⟩ := hR
    exact ⟨M, G, x, _, rfl, ⟨rfl, rfl, rfl⟩, RetB.same h1 hM hG, h2⟩
  · rintro n' f' cap vs ⟨rfl, rfl, rfl⟩
    exact h cap
theorem putOk_of {v : Int} {s : Nat} (h0 : 0 ≤ v) (h1 : 1 ≤ s ∧ s ≤ 7) (h2 : v < 2 ^ (8 * s)) : putOk v s = true := by
  simp only [putOk, Bool.and_eq_true, decide_eq_true_eq]
  rw [show ((8 : Int) * (s : Int)).toNat = 8 * s by omega]
  exact ⟨by omega, by omega, h0, h2⟩
theorem bkA_at {p h s : Int} {x v : AV} (hv : v = .agg [.int .i64 p, .int .i64 h, .int .i64 s, x]) : v = bkA p h s x := hv
/-- The program's bytes of a block that may be. -/
theorem S_bBytes0 (b : Bk) (q : Nat → Int) (cap : Nat) (C : Nat → Nat) (ht : b.t ≤ 1000000000) :
    ACall Pg F_block_Bytes [.agg (rowL q), bkA b.p b.h b.s (.vsl 2 b.t cap (txG b.A b.N C b.F))] []
      (fun r m' => ∃ n' f' x vs, r = .tup (x :: vs) ∧ ((bkE b = 0 ∧ n' = bkLen b b.t ∧ f' = bkF b q b.t ∧ vs = [.int .i64 0]) ∨ (bkE b ≠ 0 ∧ n' = 0 ∧ vs = [.int .i64 (bkE b)])) ∧ RetB n' f' x m' ∧ Flats true vs) := by
  obtain ⟨E, hE⟩ : ∃ E, E = bkE b := ⟨_, rfl⟩
  rw [← hE]
  refine B_block_Bytes ⟨rfl, ?_⟩
  rw [rowL]
  conv => whnf
  repeat (refine ⟨⟨_, rfl⟩, ?_⟩; conv => whnf)
  refine S_bCheck (b := b) (x := .vsl 2 b.t cap (txG b.A b.N C b.F)) (bkA_at rfl) .vsl ht (fun e he => ?_)
  obtain rfl : e = E := he.trans hE.symm
  conv => whnf
  repeat (refine ⟨⟨_, rfl⟩, ?_⟩; conv => whnf)
  refine condB_mk (fun h0 => ?_) (fun h0 => ?_)
  · have h0 : e ≠ 0 := by simpa using h0
    conv => whnf
    repeat (refine ⟨⟨_, rfl⟩, ?_⟩; conv => whnf)
    exact ⟨0, fun _ => 0, .nils, _, rfl, .inr ⟨h0, rfl, rfl⟩, .inl ⟨rfl, rfl⟩, .cons _ _ (.int _ _) .nil⟩
  have h0 : e = 0 := by simpa using h0
  have hb := bk_ok (hE.symm.trans h0)
  obtain ⟨⟨hh1, hh2⟩, ⟨hs1, hs2⟩, htt, hA, hN⟩ := hb
  obtain ⟨p, h, s, t, A, N, F⟩ := b
  dsimp only at *
  conv => whnf
  repeat (refine ⟨⟨_, rfl⟩, ?_⟩; conv => whnf)
  refine S_PutN 4 (putB 0 (fun _ => 0) h 4) (f := fun _ => 0) Shows.nils (by decide) (putOk_of (s := 4) (by omega) (by decide) (by omega)) rfl (fun i hi => rfl) (fun cap1 => ?_)
  conv => whnf
  repeat (refine ⟨⟨_, rfl⟩, ?_⟩; conv => whnf)
  refine S_PutN 8 (putB 4 (putB 0 (fun _ => 0) h 4) s 4) (f := putB 0 (fun _ => 0) h 4) (Shows.sl rfl (Nat.le_refl _) fun i hi => by rw [Nat.zero_add]) (by decide) (putOk_of (s := 4) (by omega) (by decide) (by omega)) rfl (fun i hi => rfl) (fun cap2 => ?_)
  conv => whnf
  repeat (refine ⟨⟨_, rfl⟩, ?_⟩; conv => whnf)
  refine fun cap3 hcap3 => ?_
  conv => whnf
  repeat (refine ⟨⟨_, rfl⟩, ?_⟩; conv => whnf)
  refine S_PutN 41 (bkHead ⟨p, h, s, t, A, N, F⟩ q) (f := catB 8 (putB 4 (putB 0 (fun _ => 0) h 4) s 4) q) (Shows.slG rfl (Nat.le_of_eq (Nat.zero_add _)) fun i hi => ?_) (by decide) (putOk_of (s := 1) (by omega) (by decide) (by omega)) rfl (fun i hi => rfl) (fun cap4 => ?_)
  · rw [show 0 + i = i from Nat.zero_add i]
    unfold catB
    by_cases h8 : i < 8
    · rw [catG_lt h8, if_pos h8]; rfl
    · rw [catG_ge (by omega), if_neg h8]
      have hi : i < 40 := hi
      show (rowL q).getD ((0 + (i - 8)) * 1 + 0) .un = _
      rw [show (0 + (i - 8)) * 1 + 0 = i - 8 by omega]
      exact rowL_get (by omega)
  conv => whnf
  repeat (refine ⟨⟨_, rfl⟩, ?_⟩; conv => whnf)
  obtain ⟨b, hb⟩ : ∃ b, b = (⟨p, h, s, t, A, N, F⟩ : Bk) := ⟨_, rfl⟩
  rw [← hb] at hE ⊢
  have bA : ∀ k, b.A k = A k := fun k => by rw [hb]
  have bN : ∀ k, b.N k = N k := fun k => by rw [hb]
  have bF : ∀ k, b.F k = F k := fun k => by rw [hb]
  have bt : b.t = t := by rw [hb]
  have hok : BkOk b := bk_ok (hE.symm.trans h0)
  refine loop_wk mixed (I := fun w l m => ∃ (k cc : Nat), l = [(7, .sl 0 0 (bkLen b k) cc), (41, .vsl 2 t cap (txG A N C F)), (42, .int .i64 t), (43, .int .i64 k)] ∧ m = [some ⟨1, bkLen b k, bytesG (bkF b q k)⟩] ∧ w + k = t) t
    (l0 := [(7, .sl 0 0 41 cap4), (41, .vsl 2 t cap (txG A N C F)), (42, .int .i64 t), (43, .int .i64 (0 : Nat))]) (m0 := [some ⟨1, 41, bytesG (bkHead b q)⟩]) [some 5] ⟨0, cap4, rfl, rfl, rfl⟩ ?_ ?_
  · exact .mk0 ⟨.sl _ _ _ _ _ rfl, .eq _ _ rfl flat_txs, Flat.i rfl, Flat.i rfl, trivial⟩ ⟨.old 0 5 _ _ rfl rfl ⟨rfl, Nat.le_refl _, fun i j hi hj => .eq _ _ rfl (.int _ _)⟩, trivial⟩ rfl rfl
  · rintro w l m ⟨k, cc, rfl, rfl, hq⟩
    conv => whnf
    repeat (refine ⟨⟨_, rfl⟩, ?_⟩; conv => whnf)
    refine condB_mk (fun hk => ?_) (fun hk => ?_)
    · have hk : k < t := by simp at hk; omega
      have e5 : IntKind.i64.wrap ((k : Int) + 1) = ((k + 1 : Nat) : Int) := by rw [w64 (by omega) (by omega)]; omega
      have hle := bkLen_le hok (k := k) (by omega)
      have hAk := hA k hk
      conv => whnf
      repeat (refine ⟨⟨_, rfl⟩, ?_⟩; conv => whnf)
      refine condB_ok (by simp; omega) ?_
      conv => whnf
      repeat (refine ⟨⟨_, rfl⟩, ?_⟩; conv => whnf)
      refine S_PutN (bkLen b k + 1) (putB (bkLen b k) (bkF b q k) (A k) 1) (f := bkF b q k) (Shows.sl rfl (Nat.le_of_eq (Nat.zero_add _)) fun i hi => by rw [Nat.zero_add]) (by omega) (putOk_of (s := 1) hAk.1 (by decide) (by show A k < 2 ^ (8 * 1); omega)) rfl (fun i hi => rfl) (fun cap5 => ?_)
      conv => whnf
      repeat (refine ⟨⟨_, rfl⟩, ?_⟩; conv => whnf)
      refine S_PutPartN (bkLen b (k + 1)) (bkF b q (k + 1)) (f := putB (bkLen b k) (bkF b q k) (A k) 1) (g := F k) (k := N k) (Shows.sl rfl (Nat.le_of_eq (Nat.zero_add _)) fun i hi => by rw [Nat.zero_add]) Shows.vsl (by omega) (hN k hk) (by simp only [bkLen, bN]) (fun i hi => by simp only [bkF, bA, bN, bF]) (fun cap6 => ?_)
      conv => whnf
      repeat (refine ⟨⟨_, rfl⟩, ?_⟩; conv => whnf)
      refine ⟨w - 1, [(7, .sl 0 0 (bkLen b (k + 1)) cap6), (41, .vsl 2 t cap (txG A N C F)), (42, .int .i64 t), (43, .int .i64 ((k + 1 : Nat) : Int))], [some ⟨1, bkLen b (k + 1), bytesG (bkF b q (k + 1))⟩], [some 3], by omega, ⟨k + 1, cap6, rfl, rfl, by omega⟩, ?_⟩
      exact .mk0 ⟨.sl _ _ _ _ _ rfl, .eq _ _ rfl flat_txs, Flat.i rfl, Flat.i e5, trivial⟩ ⟨.old 0 3 _ _ rfl rfl ⟨rfl, Nat.le_refl _, fun i j hi hj => .eq _ _ rfl (.int _ _)⟩, trivial⟩ rfl rfl
    · have hk : k = t := by simp at hk; omega
      subst hk
      conv => whnf
      repeat (refine ⟨⟨_, rfl⟩, ?_⟩; conv => whnf)
      exact ⟨bkLen b k, bkF b q k, _, _, rfl, .inl ⟨h0, rfl, rfl, rfl⟩, .inr ⟨0, cc, bkLen b k, _, rfl, rfl, Nat.le_refl _, fun i hi => rfl⟩, .cons _ _ (.int _ _) .nil⟩
theorem S_bBytes {m : Mem} {K : AV → Mem → Prop} {u v x : AV} {b : Bk} {q : Nat → Int} (hu : u = .agg (rowL q)) (hv : v = bkA b.p b.h b.s x) (hx : ShowsT m x b.t b.A b.N b.F) (ht : b.t ≤ 1000000000)
    (h0 : bkE b = 0 → ∀ cap n f, n = bkLen b b.t → f = bkF b q b.t → memK (m ++ [some ⟨1, n, bytesG f⟩]) (K (.tup [.sl m.length 0 n cap, .int .i64 0])))
    (h1 : ∀ e, e = bkE b → e ≠ 0 → ∀ cap f, memK (m ++ [some ⟨1, 0, bytesG f⟩]) (K (.tup [.sl m.length 0 0 cap, .int .i64 e]))) : ACall Pg F_block_Bytes [u, v] m K := by
  subst hu hv
  simp only [memK_eq] at h0 h1
  obtain ⟨cap, C, hl⟩ := hx
  refine lift_tup (S_bBytes0 b q cap C ht) (.cons _ _ _ _ (lend_flat flat_rowA) (.cons _ _ _ _ (lend_bk hl) .nil)) ?_
  rintro n f cap vs (⟨h, rfl, rfl, rfl⟩ | ⟨h, rfl, rfl⟩)
  · exact h0 h cap _ _ rfl rfl
  · exact h1 _ rfl h cap f
/-- The page's bytes of a block that may be. -/
theorem S_rBytes0 (b : Bk) (q : Nat → Int) (cap : Nat) (C : Nat → Nat) (hE : bkE b = 0) :
    ACall Pg F_witanref16_Bytes [.agg (rowL q), bkA b.p b.h b.s (.vsl 2 b.t cap (txG b.A b.N C b.F))] []
      (fun r m' => ∃ n' f', (n' = bkLen b b.t ∧ f' = bkF b q b.t) ∧ RetB n' f' r m') := by
  have hok : BkOk b := bk_ok hE
  refine B_witanref16_Bytes ⟨rfl, ?_⟩
  rw [rowL]
  obtain ⟨⟨hh1, hh2⟩, ⟨hs1, hs2⟩, htt, hA, hN⟩ := bk_ok hE
  obtain ⟨p, h, s, t, A, N, F⟩ := b
  dsimp only at *
  conv => whnf
  repeat (refine ⟨⟨_, rfl⟩, ?_⟩; conv => whnf)
  refine S_refPutN 4 (putB 0 (fun _ => 0) h 4) (f := fun _ => 0) Shows.nils (by decide) (putOk_of (s := 4) (by omega) (by decide) (by omega)) (by omega) rfl (fun i hi => rfl) (fun cap1 => ?_)
  conv => whnf
  repeat (refine ⟨⟨_, rfl⟩, ?_⟩; conv => whnf)
  refine S_refPutN 8 (putB 4 (putB 0 (fun _ => 0) h 4) s 4) (f := putB 0 (fun _ => 0) h 4) (Shows.sl rfl (Nat.le_refl _) fun i hi => by rw [Nat.zero_add]) (by decide) (putOk_of (s := 4) (by omega) (by decide) (by omega)) (by omega) rfl (fun i hi => rfl) (fun cap2 => ?_)
  conv => whnf
  repeat (refine ⟨⟨_, rfl⟩, ?_⟩; conv => whnf)
  refine fun cap3 hcap3 => ?_
  conv => whnf
  repeat (refine ⟨⟨_, rfl⟩, ?_⟩; conv => whnf)
  refine fun cap4 hcap4 => ?_
  conv => whnf
  repeat (refine ⟨⟨_, rfl⟩, ?_⟩; conv => whnf)
  obtain ⟨b, hb⟩ : ∃ b, b = (⟨p, h, s, t, A, N, F⟩ : Bk) := ⟨_, rfl⟩
  rw [← hb] at hok
  rw [← hb]
  have bA : ∀ k, b.A k = A k := fun k => by rw [hb]
  have bN : ∀ k, b.N k = N k := fun k => by rw [hb]
  have bF : ∀ k, b.F k = F k := fun k => by rw [hb]
  have bt : b.t = t := by rw [hb]
  refine loop_wk mixed (I := fun w l m => ∃ (k cc : Nat), l = [(3, .ptr 0 0 0), (5, .sl 1 0 (bkLen b k) cc), (7, .int .i64 k)] ∧ m = [some ⟨4, 1, lstG 4 (bkL p h s (.vsl 2 t cap (txG A N C F)))⟩, some ⟨1, bkLen b k, bytesG (bkF b q k)⟩] ∧ w + k = t) t
    (l0 := [(3, .ptr 0 0 0), (5, .sl 1 0 41 cap4), (7, .int .i64 (0 : Nat))]) (m0 := [some ⟨4, 1, lstG 4 (bkL p h s (.vsl 2 t cap (txG A N C F)))⟩, some ⟨1, 41, bytesG (bkHead b q)⟩]) [some 1, some 6] ⟨0, cap4, rfl, rfl, rfl⟩ ?_ ?_
  · refine .mk0 ⟨.ptr _ _ _ _ rfl, .sl _ _ _ _ _ rfl, Flat.i rfl, trivial⟩ ⟨.old 0 1 _ _ rfl rfl ⟨rfl, Nat.le_refl _, fun i j hi hj => bk_blk flat_txs hi hj rfl⟩, .old 1 6 _ _ rfl rfl ⟨rfl, Nat.le_refl _, fun i j hi hj => RV.of ?_ (.int _ _)⟩, trivial⟩ rfl rfl
    have hj : j < 1 := hj
    have hi : i < 41 := hi
    obtain rfl : j = 0 := by omega
    dsimp only
    rw [hb]
    show _ = AV.int .u8 (putB 40 (catB 8 (putB 4 (putB 0 (fun _ => 0) h 4) s 4) q) t 1 i)
    unfold putB catB
    by_cases h40 : i < 40
    · rw [catG_lt (by omega), if_pos h40]
      by_cases h8 : i < 8
      · rw [catG_lt h8, if_pos h8]; rfl
      · rw [catG_ge (by omega), if_neg h8]
        show (rowL q).getD ((0 + (i - 8)) * 1 + 0) .un = _
        rw [show (0 + (i - 8)) * 1 + 0 = i - 8 by omega]
        exact rowL_get (by omega)
    · obtain rfl : i = 40 := by omega
      rw [catG_ge (by omega), if_neg h40]
      show AV.int .u8 (IntKind.u8.wrap (t : Int)) = _
      rw [IntKind.wrap_u8]
      simp
  · rintro w l m ⟨k, cc, rfl, rfl, hq⟩
    conv => whnf
    repeat (refine ⟨⟨_, rfl⟩, ?_⟩; conv => whnf)
    refine condB_mk (fun hk => ?_) (fun hk => ?_)
    · have hk : k < t := by simp at hk; omega
      have e5 : IntKind.i64.wrap ((k : Int) + 1) = ((k + 1 : Nat) : Int) := by rw [w64 (by omega) (by omega)]; omega
      have hle := bkLen_le hok (k := k) (by omega)
      have hAk := hA k hk
      conv => whnf
      repeat (refine ⟨⟨_, rfl⟩, ?_⟩; conv => whnf)
      refine condB_ok (by simp; omega) ?_
      conv => whnf
      repeat (refine ⟨⟨_, rfl⟩, ?_⟩; conv => whnf)
      refine condB_ok (app_ok (by first | rfl | simp) rfl rfl (by omega) (by omega)) (fun cap5 hcap5 => ?_)
      conv => whnf
      repeat (refine ⟨⟨_, rfl⟩, ?_⟩; conv => whnf)
      refine condB_ok (by simp; omega) ?_
      conv => whnf
      repeat (refine ⟨⟨_, rfl⟩, ?_⟩; conv => whnf)
      refine S_refPutPartN (bkLen b (k + 1)) (bkF b q (k + 1)) (n := bkLen b k + 1) (f := putB (bkLen b k) (bkF b q k) (A k) 1) (g := F k) (k := N k) (Shows.slG rfl (Nat.le_of_eq (Nat.zero_add _)) fun i hi => ?_) Shows.vsl (by omega) (hN k hk) (by simp only [bkLen, bN]) (fun i hi => by simp only [bkF, bA, bN, bF]) (fun cap6 => ?_)
      · rw [show 0 + i = i from Nat.zero_add i]
        unfold putB
        by_cases hi2 : i < bkLen b k
        · rw [catG_lt hi2, if_pos hi2]; rfl
        · obtain rfl : i = bkLen b k := by omega
          rw [catG_ge (Nat.le_refl _), if_neg hi2, Nat.sub_self]
          show AV.int .u8 (IntKind.u8.wrap (A k)) = _
          rw [IntKind.wrap_u8]
          simp
      conv => whnf
      repeat (refine ⟨⟨_, rfl⟩, ?_⟩; conv => whnf)
      refine ⟨w - 1, [(3, .ptr 0 0 0), (5, .sl 1 0 (bkLen b (k + 1)) cap6), (7, .int .i64 ((k + 1 : Nat) : Int))], [some ⟨4, 1, lstG 4 (bkL p h s (.vsl 2 t cap (txG A N C F)))⟩, some ⟨1, bkLen b (k + 1), bytesG (bkF b q (k + 1))⟩], [some 0, some 4], by omega, ⟨k + 1, cap6, rfl, rfl, by omega⟩, ?_⟩
      exact .mk0 ⟨.ptr _ _ _ _ rfl, .sl _ _ _ _ _ rfl, Flat.i e5, trivial⟩ ⟨.old 0 0 _ _ rfl rfl ⟨rfl, Nat.le_refl _, fun i j hi hj => bk_blk flat_txs hi hj rfl⟩, .old 1 4 _ _ rfl rfl ⟨rfl, Nat.le_refl _, fun i j hi hj => .eq _ _ rfl (.int _ _)⟩, trivial⟩ rfl rfl
    · have hk : k = t := by simp at hk; omega
      subst hk
      conv => whnf
      repeat (refine ⟨⟨_, rfl⟩, ?_⟩; conv => whnf)
      exact ⟨bkLen b k, bkF b q k, ⟨rfl, rfl⟩, .inr ⟨1, cc, bkLen b k, _, rfl, rfl, Nat.le_refl _, fun i hi => rfl⟩⟩
theorem S_rBytes {m : Mem} {K : AV → Mem → Prop} {u v x : AV} {b : Bk} {q : Nat → Int} (hu : u = .agg (rowL q)) (hv : v = bkA b.p b.h b.s x) (hx : ShowsT m x b.t b.A b.N b.F) (hE : bkE b = 0)
    (h0 : ∀ cap n f, n = bkLen b b.t → f = bkF b q b.t → memK (m ++ [some ⟨1, n, bytesG f⟩]) (K (.sl m.length 0 n cap))) : ACall Pg F_witanref16_Bytes [u, v] m K := by
  subst hu hv
  simp only [memK_eq] at h0
  obtain ⟨cap, C, hl⟩ := hx
  refine lift_bytes (S_rBytes0 b q cap C hE) (.cons _ _ _ _ (lend_flat flat_rowA) (.cons _ _ _ _ (lend_bk hl) .nil)) ?_
  rintro n f cap ⟨rfl, rfl⟩
  exact h0 cap _ _ rfl rfl
theorem of_eqv {v w : AV} {R : AV → Prop} (h : v = w) (h1 : R w) (h2 : Flat true w) : R v ∧ Flat true v := by subst h; exact ⟨h1, h2⟩
def hashR (b : Bk) (q : Nat → Int) (r : AV) : Prop := (bkE b = 0 ∧ r = .tup [.agg (rowL (sumB (bkLen b b.t) (bkF b q b.t))), .int .i64 0]) ∨ (bkE b ≠ 0 ∧ r = .tup [.agg (rowL fun _ => 0), .int .i64 (bkE b)])
theorem flat_hash {nv : Bool} {s : Nat → Int} {e : Int} : Flat nv (.tup [.agg (rowL s), .int .i64 e]) := .tup _ (.cons _ _ flat_rowA (.cons _ _ (.int _ _) .nil))
theorem S_bHash0 (b : Bk) (q : Nat → Int) (cap : Nat) (C : Nat → Nat) (ht : b.t ≤ 1000000000) (hq : ∀ i, i < 32 → 0 ≤ q i ∧ q i ≤ 255) (hF : ∀ k, k < b.t → ∀ j, j < b.N k → 0 ≤ b.F k j ∧ b.F k j ≤ 255) :
    ACall Pg F_block_Hash [.agg (rowL q), bkA b.p b.h b.s (.vsl 2 b.t cap (txG b.A b.N C b.F))] [] (fun r _ => hashR b q r ∧ Flat true r) := by
  refine B_block_Hash ⟨rfl, ?_⟩
  rw [rowL]
  conv => whnf
  repeat (refine ⟨⟨_, rfl⟩, ?_⟩; conv => whnf)
  refine S_bBytes (b := b) (q := q) (x := .vsl 2 b.t cap (txG b.A b.N C b.F)) rfl (bkA_at rfl) .vsl ht (fun hE cap n f hn hf => ?_) (fun e he he0 cap f => ?_)
  · conv => whnf
    repeat (refine ⟨⟨_, rfl⟩, ?_⟩; conv => whnf)
    refine S_SumR (n := n) (f := f) (Shows.sl rfl (Nat.le_of_eq (Nat.zero_add _)) fun i hi => by rw [Nat.zero_add]) ?_ ?_ (fun s hs hsb => ?_)
    · rw [hn]
      have := bkLen_le (bk_ok hE) (Nat.le_refl _)
      have := (bk_ok hE).t
      omega
    · intro i hi
      rw [hn] at hi
      rw [hf]
      exact bkF_byte hq hF i hi
    rw [rowL]
    conv => whnf
    repeat (refine ⟨⟨_, rfl⟩, ?_⟩; conv => whnf)
    refine of_eqv (R := hashR b q) (w := .tup [.agg (rowL s), .int .i64 0]) (congrArg (fun a => AV.tup [a, .int .i64 0]) (outRow2 (s := s) rfl).1) (.inl ⟨hE, by rw [hs, hn, hf]⟩) flat_hash
  · conv => whnf
    repeat (refine ⟨⟨_, rfl⟩, ?_⟩; conv => whnf)
    refine condB_yes (by simpa using he0) ?_
    conv => whnf
    repeat (refine ⟨⟨_, rfl⟩, ?_⟩; conv => whnf)
    refine of_eqv (R := hashR b q) (w := .tup [.agg (rowL fun _ => 0), .int .i64 e]) rfl (.inr ⟨by rw [← he]; exact he0, by rw [← he]⟩) flat_hash
theorem S_bHash {m : Mem} {K : AV → Mem → Prop} {u v x : AV} {b : Bk} {q : Nat → Int} (hu : u = .agg (rowL q)) (hv : v = bkA b.p b.h b.s x) (hx : ShowsT m x b.t b.A b.N b.F) (ht : b.t ≤ 1000000000) (hq : ∀ i, i < 32 → 0 ≤ q i ∧ q i ≤ 255) (hF : ∀ k, k < b.t → ∀ j, j < b.N k → 0 ≤ b.F k j ∧ b.F k j ≤ 255)
    (h0 : bkE b = 0 → ∀ s, s = sumB (bkLen b b.t) (bkF b q b.t) → K (.tup [.agg (rowL s), .int .i64 0]) m) (h1 : ∀ e, e = bkE b → e ≠ 0 → K (.tup [.agg (rowL fun _ => 0), .int .i64 e]) m) : ACall Pg F_block_Hash [u, v] m K := by
  subst hu hv
  obtain ⟨cap, C, hl⟩ := hx
  refine lift_flat (S_bHash0 b q cap C ht hq hF) (.cons _ _ _ _ (lend_flat flat_rowA) (.cons _ _ _ _ (lend_bk hl) .nil)) ?_
  rintro v (⟨h, rfl⟩ | ⟨h, rfl⟩)
  · exact h0 h _ rfl
  · exact h1 _ rfl h
theorem S_rHash {m : Mem} {K : AV → Mem → Prop} {u v x : AV} {b : Bk} {q : Nat → Int} (hu : u = .agg (rowL q)) (hv : v = bkA b.p b.h b.s x) (hx : ShowsT m x b.t b.A b.N b.F) (hE : bkE b = 0) (hq : ∀ i, i < 32 → 0 ≤ q i ∧ q i ≤ 255) (hF : ∀ k, k < b.t → ∀ j, j < b.N k → 0 ≤ b.F k j ∧ b.F k j ≤ 255)
    (h0 : ∀ s, s = sumB (bkLen b b.t) (bkF b q b.t) → K (.agg (rowL s)) m) : ACall Pg F_witanref16_Hash [u, v] m K := by
  subst hu hv
  obtain ⟨cap, C, hl⟩ := hx
  have h : ACall Pg F_witanref16_Hash [.agg (rowL q), bkA b.p b.h b.s (.vsl 2 b.t cap (txG b.A b.N C b.F))] [] (fun r _ => r = .agg (rowL (sumB (bkLen b b.t) (bkF b q b.t))) ∧ Flat true r) := by
    refine B_witanref16_Hash ⟨rfl, ?_⟩
    rw [rowL]
    conv => whnf
    repeat (refine ⟨⟨_, rfl⟩, ?_⟩; conv => whnf)
    refine S_rBytes (b := b) (q := q) (x := .vsl 2 b.t cap (txG b.A b.N C b.F)) rfl (bkA_at rfl) .vsl hE (fun cap n f hn hf => ?_)
    conv => whnf
    repeat (refine ⟨⟨_, rfl⟩, ?_⟩; conv => whnf)
    refine S_Sum256R (n := n) (f := f) (Shows.sl rfl (Nat.le_of_eq (Nat.zero_add _)) fun i hi => by rw [Nat.zero_add]) ?_ ?_ (fun s hs hsb => ?_)
    · rw [hn]
      have := bkLen_le (bk_ok hE) (Nat.le_refl _)
      have := (bk_ok hE).t
      omega
    · intro i hi
      rw [hn] at hi
      rw [hf]
      exact bkF_byte hq hF i hi
    rw [rowL]
    conv => whnf
    repeat (refine ⟨⟨_, rfl⟩, ?_⟩; conv => whnf)
    refine of_eqv (R := fun r => r = .agg (rowL (sumB (bkLen b b.t) (bkF b q b.t)))) (w := .agg (rowL s)) (outRow2 (s := s) rfl).1 (by rw [hs, hn, hf]) flat_rowA
  refine lift_flat h (.cons _ _ _ _ (lend_flat flat_rowA) (.cons _ _ _ _ (lend_bk hl) .nil)) ?_
  rintro v rfl
  exact h0 _ rfl
end Go.Proofs.Ytjflfecdeicccaa
end

section
/- The reader of a block's bytes; no condition. -/
set_option linter.unusedVariables false
set_option linter.unusedSimpArgs false
set_option maxRecDepth 100000
set_option pp.maxSteps 3000
set_option pp.deepTerms false
set_option pp.deepTerms.threshold 7
namespace Go.Proofs.Ytjflfecdeicccaa
open Go Go.Wit

def rdrL (lb n cap : Nat) (p : Int) (bd : Bool) : List AV := [.sl lb 0 n cap, .int .i64 p, .bool bd]
def rdrG (lb n cap : Nat) (p : Int) (bd : Bool) : Nat → Nat → AV := lstG 3 (rdrL lb n cap p bd)
/-- Two blocks of the caller are handed to a call: bytes, which it only reads, and a reader, which it moves. -/
theorem get2 {lb l i q : Nat} (h : [some lb, some l].getD i none = some q) : (i = 0 ∧ q = lb) ∨ (i = 1 ∧ q = l) := by
  match i, h with
  | 0, h => exact .inl ⟨rfl, by simpa using h.symm⟩
  | 1, h => exact .inr ⟨rfl, by simpa using h.symm⟩
  | i + 2, h => simp at h
theorem rdr_in {lb l n cap : Nat} {p : Int} {bd : Bool} {g : Nat → Nat → AV} (h0 : g 0 0 = .sl lb 0 n cap) (h1 : g 0 1 = .int .i64 p) (h2 : g 0 2 = .bool bd) : ∀ i j, i < 1 → j < 3 → RV false (fun i => [some lb, some l].getD i none) (g i j) (rdrG 0 n cap p bd i j) := by
  intro i j hi hj
  obtain rfl : i = 0 := by omega
  rcases (show j = 0 ∨ j = 1 ∨ j = 2 by omega) with rfl | rfl | rfl
  · rw [h0]; exact .sl _ _ _ _ _ rfl
  · rw [h1]; exact .eq _ _ rfl (.int _ _)
  · rw [h2]; exact .eq _ _ rfl (.bool _)
theorem rdr_out {lb n cap : Nat} {p : Int} {bd : Bool} {g : Nat → Nat → AV} {τ : Nat → Option Nat} (ht : τ lb = some 0) (h0 : g 0 0 = .sl 0 0 n cap) (h1 : g 0 1 = .int .i64 p) (h2 : g 0 2 = .bool bd) : ∀ i j, i < 1 → j < 3 → RV false τ (g i j) (rdrG lb n cap p bd i j) := by
  intro i j hi hj
  obtain rfl : i = 0 := by omega
  rcases (show j = 0 ∨ j = 1 ∨ j = 2 by omega) with rfl | rfl | rfl
  · rw [h0]; exact .sl _ _ _ _ _ ht
  · rw [h1]; exact .eq _ _ rfl (.int _ _)
  · rw [h2]; exact .eq _ _ rfl (.bool _)
def MutP (Nb : Nat) (f : Nat → Int) (n cap : Nat) (R : AV → Int → Bool → Prop) (v : AV) (m' : Mem) : Prop := ∃ (g : Nat → Nat → AV) (p' : Int) (bd' : Bool), m'[0]? = some (some ⟨1, Nb, bytesG f⟩) ∧ m'[1]? = some (some ⟨3, 1, g⟩) ∧ g 0 0 = .sl 0 0 n cap ∧ g 0 1 = .int .i64 p' ∧ g 0 2 = .bool bd' ∧ R v p' bd' ∧ Flat false v
theorem lift_mut {P : Program} {fn : FuncId} {lb l Nb n cap : Nat} {f : Nat → Int} {p : Int} {bd : Bool} {g : Nat → Nat → AV} {args : List AV} {m : Mem} {K : AV → Mem → Prop} {R : AV → Int → Bool → Prop} (h : ACall P fn (.ptr 1 0 0 :: args) [some ⟨1, Nb, bytesG f⟩, some ⟨3, 1, rdrG 0 n cap p bd⟩] (MutP Nb f n cap R))
    (hf : Flats false args) (hb : m[lb]? = some (some ⟨1, Nb, bytesG f⟩)) (hl : m[l]? = some (some ⟨3, 1, g⟩)) (h0 : g 0 0 = .sl lb 0 n cap) (h1 : g 0 1 = .int .i64 p) (h2 : g 0 2 = .bool bd) (hK : ∀ v p' bd', R v p' bd' → K v (m.set l (some ⟨3, 1, rdrG lb n cap p' bd'⟩))) : ACall P fn (.ptr l 0 0 :: args) m K := by
  have hne : lb ≠ l := by
    rintro rfl
    rw [hb] at hl
    cases (congrArg (fun o : Option (Option Blk) => match o with | some (some b) => b.es | _ => 0) hl)
  have hlt := lt_of_get hl
  have hltb := lt_of_get hb
  have hfs : ∀ {bs : List AV}, Flats false bs → Lends (fun i => [some lb, some l].getD i none) [] m bs bs := by
    intro bs ha
    induction bs with
    | nil => exact .nil
    | cons a r ih => cases ha with | cons _ _ g1 g2 => exact .cons _ _ _ _ (.rv _ _ (.eq _ _ rfl g1)) (ih g2)
  refine h.frame false [some lb, some l] [] (fun _ => rfl) (.cons _ _ _ _ (.rv _ _ (.ptr _ _ _ _ rfl)) (hfs hf)) ⟨.old 0 lb _ _ rfl hb ⟨rfl, Nat.le_refl _, fun i j hi hj => .eq _ _ rfl (.int _ _)⟩, .old 1 l _ _ rfl hl ⟨rfl, Nat.le_refl _, fun i j hi hj => rdr_in h0 h1 h2 i j hi hj⟩, trivial⟩ rfl (fun i j q g1 g2 => ?_) (fun q hq => by cases hq) ?_
  · rcases get2 g1 with ⟨rfl, rfl⟩ | ⟨rfl, rfl⟩ <;> rcases get2 g2 with ⟨rfl, e⟩ | ⟨rfl, e⟩
    · rfl
    · exact absurd e hne
    · exact absurd e.symm hne
    · rfl
  rintro v m' ⟨g', p', bd', k0, k1, e0, e1, e2, hR, hv⟩
  have ht : ∀ {q r : Nat}, (if q = lb then some 0 else if q = l then some 1 else none) = some r → (q = lb ∧ r = 0) ∨ (q = l ∧ r = 1) := by
    intro q r hq
    by_cases h : q = lb
    · rw [if_pos h] at hq; exact .inl ⟨h, (Option.some.inj hq).symm⟩
    · rw [if_neg h] at hq
      by_cases h' : q = l
      · rw [if_pos h'] at hq; exact .inr ⟨h', (Option.some.inj hq).symm⟩
      · rw [if_neg h'] at hq; cases hq
  refine ⟨v, m.set l (some ⟨3, 1, rdrG lb n cap p' bd'⟩), fun q => if q = lb then some 0 else if q = l then some 1 else none, ⟨by simp, fun q r hq => ?_, fun q q' r hq hq' => ?_, fun q r hlt' hq => ?_, fun q b hq => ?_⟩, .eq _ _ rfl hv, hK v p' bd' hR⟩
  · rw [List.length_set]
    rcases ht hq with ⟨rfl, _⟩ | ⟨rfl, _⟩
    · exact hltb
    · exact hlt
  · rcases ht hq with ⟨rfl, rfl⟩ | ⟨rfl, rfl⟩ <;> rcases ht hq' with ⟨rfl, e⟩ | ⟨rfl, e⟩
    · rfl
    · cases e
    · cases e
    · rfl
  · rcases ht hq with ⟨rfl, rfl⟩ | ⟨rfl, rfl⟩
    · exact ⟨by simp, rfl⟩
    · exact ⟨by simp, rfl⟩
  · by_cases hql : q = l
    · subst hql
      rw [List.getElem?_set_self hlt] at hq
      obtain rfl := Option.some.inj (Option.some.inj hq)
      exact .inr (.inl ⟨1, _, by rw [if_neg (Ne.symm hne), if_pos rfl], k1, rfl, Nat.le_refl _, fun i j hi hj => rdr_out (if_pos rfl) e0 e1 e2 i j hi hj⟩)
    · rw [List.getElem?_set_ne (Ne.symm hql)] at hq
      by_cases hqb : q = lb
      · subst hqb
        rw [hb] at hq
        obtain rfl := Option.some.inj (Option.some.inj hq)
        exact .inr (.inl ⟨0, _, if_pos rfl, k0, rfl, Nat.le_refl _, fun i j hi hj => .eq _ _ rfl (.int _ _)⟩)
      · refine .inl ⟨by rw [if_neg hqb, if_neg hql], hq, fun i hi => ?_⟩
        rcases get2 hi with ⟨_, e⟩ | ⟨_, e⟩
        · exact hqb e
        · exact hql e
def MutB (Nb : Nat) (f : Nat → Int) (n cap : Nat) (R : Nat → (Nat → Int) → Int → Bool → Prop) (v : AV) (m' : Mem) : Prop := ∃ (g : Nat → Nat → AV) (p' : Int) (bd' : Bool) (N : Nat) (F : Nat → Int), m'[0]? = some (some ⟨1, Nb, bytesG f⟩) ∧ m'[1]? = some (some ⟨3, 1, g⟩) ∧ g 0 0 = .sl 0 0 n cap ∧ g 0 1 = .int .i64 p' ∧ g 0 2 = .bool bd' ∧ R N F p' bd' ∧
  ((v = .nils ∧ N = 0) ∨ ∃ l c g, v = .sl l 0 N c ∧ 2 ≤ l ∧ m'[l]? = some (some ⟨1, N, g⟩) ∧ ∀ i, i < N → g i 0 = .int .u8 (F i))
/-- The same, and new bytes come back. -/
theorem lift_mutB {P : Program} {fn : FuncId} {lb l Nb n cap : Nat} {f : Nat → Int} {p : Int} {bd : Bool} {g : Nat → Nat → AV} {m : Mem} {K : AV → Mem → Prop} {R : Nat → (Nat → Int) → Int → Bool → Prop} (h : ACall P fn [.ptr 1 0 0] [some ⟨1, Nb, bytesG f⟩, some ⟨3, 1, rdrG 0 n cap p bd⟩] (MutB Nb f n cap R))
    (hb : m[lb]? = some (some ⟨1, Nb, bytesG f⟩)) (hl : m[l]? = some (some ⟨3, 1, g⟩)) (h0 : g 0 0 = .sl lb 0 n cap) (h1 : g 0 1 = .int .i64 p) (h2 : g 0 2 = .bool bd) (hK : ∀ N F p' bd' c, R N F p' bd' → K (.sl m.length 0 N c) (m.set l (some ⟨3, 1, rdrG lb n cap p' bd'⟩) ++ [some ⟨1, N, bytesG F⟩])) : ACall P fn [.ptr l 0 0] m K := by
  have hne : lb ≠ l := by
    rintro rfl
    rw [hb] at hl
    cases (congrArg (fun o : Option (Option Blk) => match o with | some (some b) => b.es | _ => 0) hl)
  have hlt := lt_of_get hl
  have hltb := lt_of_get hb
  refine h.frame false [some lb, some l] [] (fun _ => rfl) (.cons _ _ _ _ (.rv _ _ (.ptr _ _ _ _ rfl)) .nil) ⟨.old 0 lb _ _ rfl hb ⟨rfl, Nat.le_refl _, fun i j hi hj => .eq _ _ rfl (.int _ _)⟩, .old 1 l _ _ rfl hl ⟨rfl, Nat.le_refl _, fun i j hi hj => rdr_in h0 h1 h2 i j hi hj⟩, trivial⟩ rfl (fun i j q g1 g2 => ?_) (fun q hq => by cases hq) ?_
  · rcases get2 g1 with ⟨rfl, rfl⟩ | ⟨rfl, rfl⟩ <;> rcases get2 g2 with ⟨rfl, e⟩ | ⟨rfl, e⟩
    · rfl
    · exact absurd e hne
    · exact absurd e.symm hne
    · rfl
  rintro v m' ⟨g', p', bd', N, F, k0, k1, e0, e1, e2, hR, hv⟩
  obtain ⟨c, o, hrv, ho⟩ : ∃ c o, (∀ τ : Nat → Option Nat, τ m.length = o → RV false τ v (.sl m.length 0 N c)) ∧ (o = none ∧ N = 0 ∨ ∃ r g, o = some r ∧ 2 ≤ r ∧ m'[r]? = some (some ⟨1, N, g⟩) ∧ ∀ i, i < N → g i 0 = .int .u8 (F i)) := by
    rcases hv with ⟨rfl, rfl⟩ | ⟨r, c, g, rfl, g0, g1, g2⟩
    · exact ⟨0, none, fun _ _ => .nils _ _, .inl ⟨rfl, rfl⟩⟩
    · exact ⟨c, some r, fun τ ht => .sl _ _ _ _ _ ht, .inr ⟨r, g, rfl, g0, g1, g2⟩⟩
  have ho2 : ∀ r, o = some r → 2 ≤ r := fun r hr => by
    rcases ho with ⟨h, _⟩ | ⟨r', _, h, h', _⟩
    · rw [h] at hr; cases hr
    · rw [h] at hr; obtain rfl := Option.some.inj hr; exact h'
  have ht : ∀ {q r : Nat}, (if q = lb then some 0 else if q = l then some 1 else if q = m.length then o else none) = some r → (q = lb ∧ r = 0) ∨ (q = l ∧ r = 1) ∨ (q = m.length ∧ 2 ≤ r ∧ o = some r) := by
    intro q r hq
    by_cases h : q = lb
    · rw [if_pos h] at hq; exact .inl ⟨h, (Option.some.inj hq).symm⟩
    · rw [if_neg h] at hq
      by_cases h' : q = l
      · rw [if_pos h'] at hq; exact .inr (.inl ⟨h', (Option.some.inj hq).symm⟩)
      · rw [if_neg h'] at hq
        by_cases h'' : q = m.length
        · rw [if_pos h''] at hq; exact .inr (.inr ⟨h'', ho2 r hq, hq⟩)
        · rw [if_neg h''] at hq; cases hq
  refine ⟨.sl m.length 0 N c, m.set l (some ⟨3, 1, rdrG lb n cap p' bd'⟩) ++ [some ⟨1, N, bytesG F⟩], fun q => if q = lb then some 0 else if q = l then some 1 else if q = m.length then o else none, ⟨by simp, fun q r hq => ?_, fun q q' r hq hq' => ?_, fun q r hlt' hq => ?_, fun q b hq => ?_⟩, hrv _ (by rw [if_neg (by omega), if_neg (by omega), if_pos rfl]), hK N F p' bd' c hR⟩
  · rw [List.length_append, List.length_set]
    rcases ht hq with ⟨rfl, _⟩ | ⟨rfl, _⟩ | ⟨rfl, _⟩
    · omega
    · omega
    · simp
  · rcases ht hq with ⟨rfl, rfl⟩ | ⟨rfl, rfl⟩ | ⟨rfl, e, _⟩ <;> rcases ht hq' with ⟨rfl, e'⟩ | ⟨rfl, e'⟩ | ⟨rfl, e', _⟩
    all_goals first
      | rfl
      | (exfalso; omega)
  · rcases ht hq with ⟨rfl, rfl⟩ | ⟨rfl, rfl⟩ | ⟨rfl, e, _⟩
    · exact ⟨by simp, rfl⟩
    · exact ⟨by simp, rfl⟩
    · exact absurd hlt' (Nat.lt_irrefl _)
  · by_cases hql : q = l
    · subst hql
      rw [List.getElem?_append_left (by simpa using hlt), List.getElem?_set_self hlt] at hq
      obtain rfl := Option.some.inj (Option.some.inj hq)
      exact .inr (.inl ⟨1, _, by rw [if_neg (Ne.symm hne), if_pos rfl], k1, rfl, Nat.le_refl _, fun i j hi hj => rdr_out (if_pos rfl) e0 e1 e2 i j hi hj⟩)
    · by_cases hqm : q < m.length
      · rw [List.getElem?_append_left (by simpa using hqm), List.getElem?_set_ne (Ne.symm hql)] at hq
        by_cases hqb : q = lb
        · subst hqb
          rw [hb] at hq
          obtain rfl := Option.some.inj (Option.some.inj hq)
          exact .inr (.inl ⟨0, _, if_pos rfl, k0, rfl, Nat.le_refl _, fun i j hi hj => .eq _ _ rfl (.int _ _)⟩)
        · refine .inl ⟨by rw [if_neg hqb, if_neg hql, if_neg (by omega)], hq, fun i hi => ?_⟩
          rcases get2 hi with ⟨_, e⟩ | ⟨_, e⟩
          · exact hqb e
          · exact hql e
      · rw [List.getElem?_append_right (by simpa using hqm), List.length_set] at hq
        have hqe : q = m.length := by
          rcases Nat.lt_or_ge (q - m.length) 1 with g | g
          · omega
          · rw [List.getElem?_eq_none (by simpa using g)] at hq; cases hq
        subst hqe
        rw [Nat.sub_self] at hq
        obtain rfl := Option.some.inj (Option.some.inj hq)
        rcases ho with ⟨rfl, rfl⟩ | ⟨r, g, rfl, _, g1, g3⟩
        · exact .inr (.inr ⟨by rw [if_neg (by omega), if_neg hql, if_pos rfl], Nat.le_refl _, rfl⟩)
        · refine .inr (.inl ⟨r, _, by rw [if_neg (by omega), if_neg hql, if_pos rfl], g1, rfl, Nat.le_refl _, fun i j hi hj => ?_⟩)
          have hj : j < 1 := hj
          obtain rfl : j = 0 := by omega
          exact .eq _ _ (g3 i hi) (by rw [show (Blk.mk 1 N g).get i 0 = g i 0 from rfl, g3 i hi]; exact .int _ _)
def numR (n : Nat) (f : Nat → Int) (p : Int) (bd : Bool) (s : Int) (x p' : Int) (bd' : Bool) : Prop :=
  (bd' = true ∧ (bd = true ∨ getE n p s ≠ 0) ∧ p' = p ∧ x = 0) ∨ (bd' = false ∧ bd = false ∧ getE n p s = 0 ∧ p' = p + s ∧ x = getV f p.toNat s.toNat)
def numP (n : Nat) (f : Nat → Int) (p : Int) (bd : Bool) (s : Int) (v : AV) (p' : Int) (bd' : Bool) : Prop := ∃ x, numR n f p bd s x p' bd' ∧ v = .int .i64 x
theorem S_rnum0 (Nb n cap : Nat) (f : Nat → Int) (p s : Int) (bd : Bool) (hN : n ≤ Nb) (hn : n ≤ 140737488300000) (hf : ∀ i, i < n → 0 ≤ f i ∧ f i ≤ 255) :
    ACall Pg F_Pblock_reader_num [.ptr 1 0 0, .int .i64 s] [some ⟨1, Nb, bytesG f⟩, some ⟨3, 1, rdrG 0 n cap p bd⟩] (MutP Nb f n cap (numP n f p bd s)) := by
  have key : ∀ {x p' : Int} {bd' : Bool} {g : Nat → Nat → AV} {r : Mem}, numR n f p bd s x p' bd' → g 0 0 = .sl 0 0 n cap → g 0 1 = .int .i64 p' → g 0 2 = .bool bd' → MutP Nb f n cap (numP n f p bd s) (.int .i64 x) (some ⟨1, Nb, bytesG f⟩ :: some ⟨3, 1, g⟩ :: r) := fun hR h0 h1 h2 =>
    ⟨_, _, _, rfl, rfl, h0, h1, h2, ⟨_, hR, rfl⟩, .int _ _⟩
  refine B_Pblock_reader_num ⟨rfl, ?_⟩
  conv => whnf
  repeat (refine ⟨⟨_, rfl⟩, ?_⟩; conv => whnf)
  refine S_Get (n := n) (f := f) p s (Shows.sl rfl (by omega) fun i hi => by rw [Nat.zero_add]) (by omega) hf ?_
  by_cases he : getE n p s = 0
  · rw [getR, if_pos he]
    cases bd with
    | true =>
      conv => whnf
      repeat (refine ⟨⟨_, rfl⟩, ?_⟩; conv => whnf)
      exact key (.inl ⟨rfl, .inl rfl, rfl, rfl⟩) rfl rfl rfl
    | false =>
      conv => whnf
      repeat (refine ⟨⟨_, rfl⟩, ?_⟩; conv => whnf)
      exact key (.inr ⟨rfl, rfl, he, rfl, rfl⟩) rfl rfl rfl
  · rw [getR, if_neg he]
    cases bd with
    | true =>
      conv => whnf
      repeat (refine ⟨⟨_, rfl⟩, ?_⟩; conv => whnf)
      exact key (.inl ⟨rfl, .inl rfl, rfl, rfl⟩) rfl rfl rfl
    | false =>
      conv => whnf
      repeat (refine ⟨⟨_, rfl⟩, ?_⟩; conv => whnf)
      refine condB_yes (by simpa using he) ?_
      conv => whnf
      repeat (refine ⟨⟨_, rfl⟩, ?_⟩; conv => whnf)
      exact key (.inl ⟨rfl, .inr he, rfl, rfl⟩) rfl rfl rfl
theorem S_rnum {m : Mem} {K : AV → Mem → Prop} {lb l Nb n cap : Nat} {f : Nat → Int} {p s : Int} {bd : Bool} {g : Nat → Nat → AV} (hb : m[lb]? = some (some ⟨1, Nb, bytesG f⟩)) (hl : m[l]? = some (some ⟨3, 1, g⟩)) (h0 : g 0 0 = .sl lb 0 n cap) (h1 : g 0 1 = .int .i64 p) (h2 : g 0 2 = .bool bd) (hN : n ≤ Nb) (hn : n ≤ 140737488300000) (hf : ∀ i, i < n → 0 ≤ f i ∧ f i ≤ 255)
    (h : ∀ x p' bd', numR n f p bd s x p' bd' → setMK m l (some ⟨3, 1, rdrG lb n cap p' bd'⟩) (K (.int .i64 x))) : ACall Pg F_Pblock_reader_num [.ptr l 0 0, .int .i64 s] m K := by
  simp only [setMK_eq] at h
  refine lift_mut (S_rnum0 Nb n cap f p s bd hN hn hf) (.cons _ _ (.int _ _) .nil) hb hl h0 h1 h2 ?_
  rintro v p' bd' ⟨x, hR, rfl⟩
  exact h x p' bd' hR
def hshR (n : Nat) (f : Nat → Int) (p : Int) (bd : Bool) (z : Nat → Int) (p' : Int) (bd' : Bool) : Prop :=
  (bd' = true ∧ (bd = true ∨ (n : Int) < p + 32) ∧ p' = p ∧ z = fun _ => 0) ∨ (bd' = false ∧ bd = false ∧ p + 32 ≤ n ∧ p' = p + 32 ∧ z = fun i => f (p.toNat + i))
def hshP (n : Nat) (f : Nat → Int) (p : Int) (bd : Bool) (v : AV) (p' : Int) (bd' : Bool) : Prop := ∃ z, hshR n f p bd z p' bd' ∧ v = .agg (rowL z)
theorem S_rhash0 (Nb n cap : Nat) (f : Nat → Int) (p : Int) (bd : Bool) (hN : n ≤ Nb) (hn : n ≤ 140737488300000) (hp : 0 ≤ p ∧ p ≤ n) :
    ACall Pg F_Pblock_reader_hash [.ptr 1 0 0] [some ⟨1, Nb, bytesG f⟩, some ⟨3, 1, rdrG 0 n cap p bd⟩] (MutP Nb f n cap (hshP n f p bd)) := by
  have key : ∀ {z : Nat → Int} {p' : Int} {bd' : Bool} {g : Nat → Nat → AV} {r : Mem} {v : AV}, hshR n f p bd z p' bd' → v = .agg (rowL z) → g 0 0 = .sl 0 0 n cap → g 0 1 = .int .i64 p' → g 0 2 = .bool bd' → MutP Nb f n cap (hshP n f p bd) v (some ⟨1, Nb, bytesG f⟩ :: some ⟨3, 1, g⟩ :: r) := fun hR hv h0 h1 h2 =>
    ⟨_, _, _, rfl, rfl, h0, h1, h2, ⟨_, hR, hv⟩, by rw [hv]; exact flat_rowA⟩
  refine B_Pblock_reader_hash ⟨rfl, ?_⟩
  conv => whnf
  repeat (refine ⟨⟨_, rfl⟩, ?_⟩; conv => whnf)
  cases bd with
  | true =>
    conv => whnf
    repeat (refine ⟨⟨_, rfl⟩, ?_⟩; conv => whnf)
    exact key (.inl ⟨rfl, .inl rfl, rfl, rfl⟩) rfl rfl rfl rfl
  | false =>
    conv => whnf
    repeat (refine ⟨⟨_, rfl⟩, ?_⟩; conv => whnf)
    rw [w64 (by omega) (by omega)]
    refine condB_mk (fun h1 => ?_) (fun h1 => ?_)
    · have h1 := of_decide_eq_true h1
      conv => whnf
      repeat (refine ⟨⟨_, rfl⟩, ?_⟩; conv => whnf)
      exact key (.inl ⟨rfl, .inr (by omega), rfl, rfl⟩) rfl rfl rfl rfl
    · have h1 := of_decide_eq_false h1
      conv => whnf
      repeat (refine ⟨⟨_, rfl⟩, ?_⟩; conv => whnf)
      have e2 : IntKind.i64.wrap (IntKind.i64.wrap (p + 32) - 32) = p := by rw [w64 (n := p + 32) (by omega) (by omega), w64 (by omega) (by omega)]; omega
      have e1 : IntKind.i64.wrap (p + 32) = p + 32 := w64 (by omega) (by omega)
      obtain ⟨P, rfl⟩ : ∃ P : Nat, p = P := ⟨p.toNat, by omega⟩
      refine condB_ok (b := (true && (true && (decide (0 ≤ IntKind.i64.wrap (IntKind.i64.wrap ((P : Int) + 32) - 32)) && decide (IntKind.i64.wrap (IntKind.i64.wrap ((P : Int) + 32) - 32) ≤ (n : Int)))))) ?_ ?_
      · rw [e2]; simp; omega
      conv => whnf
      repeat (refine ⟨⟨_, rfl⟩, ?_⟩; conv => whnf)
      refine condB_ok (b := decide (32 ≤ n - (IntKind.i64.wrap (IntKind.i64.wrap ((P : Int) + 32) - 32)).toNat)) ?_ ?_
      · rw [e2]; simp; omega
      conv => whnf
      repeat (refine ⟨⟨_, rfl⟩, ?_⟩; conv => whnf)
      refine condB_ok (b := roomG ⟨1, Nb, bytesG f⟩ (0 + (IntKind.i64.wrap (IntKind.i64.wrap ((P : Int) + 32) - 32)).toNat) 0 32) ?_ ?_
      · rw [e2]; simp [roomG, Nat.ble_eq]; omega
      conv => whnf
      repeat (refine ⟨⟨_, rfl⟩, ?_⟩; conv => whnf)
      refine key (z := fun i => f (P + i)) (p' := (P : Int) + 32) (.inr ⟨rfl, rfl, by omega, rfl, rfl⟩) ?_ rfl (congrArg (AV.int .i64) e1) rfl
      refine Eq.trans (b := AV.agg (List.map (cellG ⟨1, Nb, bytesG f⟩ (0 + (IntKind.i64.wrap (IntKind.i64.wrap ((P : Int) + 32) - 32)).toNat) 0) (List.range 32))) rfl ?_
      rw [e2, Int.toNat_natCast]
      refine congrArg AV.agg (List.map_congr_left fun k _ => ?_)
      show _ = AV.int .u8 (f (P + k))
      rw [cellG_def]
      dsimp only
      cases hb : Nat.blt (0 + k) 1 with
      | true =>
        have hk : k = 0 := by rw [Nat.blt_eq] at hb; omega
        subst hk
        show AV.int .u8 (f (0 + P)) = _
        rw [Nat.zero_add, Nat.add_zero]
      | false =>
        show AV.int .u8 (f (0 + P + (0 + k) / 1)) = _
        rw [Nat.zero_add, Nat.zero_add, Nat.div_one]
theorem S_rhash {m : Mem} {K : AV → Mem → Prop} {lb l Nb n cap : Nat} {f : Nat → Int} {p : Int} {bd : Bool} {g : Nat → Nat → AV} (hb : m[lb]? = some (some ⟨1, Nb, bytesG f⟩)) (hl : m[l]? = some (some ⟨3, 1, g⟩)) (h0 : g 0 0 = .sl lb 0 n cap) (h1 : g 0 1 = .int .i64 p) (h2 : g 0 2 = .bool bd) (hN : n ≤ Nb) (hn : n ≤ 140737488300000) (hp : 0 ≤ p ∧ p ≤ n)
    (h : ∀ z p' bd', hshR n f p bd z p' bd' → setMK m l (some ⟨3, 1, rdrG lb n cap p' bd'⟩) (K (.agg (rowL z)))) : ACall Pg F_Pblock_reader_hash [.ptr l 0 0] m K := by
  simp only [setMK_eq] at h
  refine lift_mut (S_rhash0 Nb n cap f p bd hN hn hp) .nil hb hl h0 h1 h2 ?_
  rintro v p' bd' ⟨x, hR, rfl⟩
  exact h x p' bd' hR
def prtR (n : Nat) (f : Nat → Int) (p : Int) (bd : Bool) (N : Nat) (F : Nat → Int) (p' : Int) (bd' : Bool) : Prop :=
  (bd' = true ∧ (bd = true ∨ partOk n f p = false) ∧ p' = p ∧ N = 0) ∨ (bd' = false ∧ bd = false ∧ partOk n f p = true ∧ p' = p + 4 + partV f p ∧ N = (partV f p).toNat ∧ F = fun i => f (i + (p.toNat + 4)))
theorem partE_ne {n : Nat} {p : Int} : partE n p ≠ 0 := by
  unfold partE
  split
  · decide
  · assumption
theorem S_rpart0 (Nb n cap : Nat) (f : Nat → Int) (p : Int) (bd : Bool) (hN : n ≤ Nb) (hn : n ≤ 140737488300000) (hf : ∀ i, i < n → 0 ≤ f i ∧ f i ≤ 255) :
    ACall Pg F_Pblock_reader_part [.ptr 1 0 0] [some ⟨1, Nb, bytesG f⟩, some ⟨3, 1, rdrG 0 n cap p bd⟩] (MutB Nb f n cap (prtR n f p bd)) := by
  have key : ∀ {N : Nat} {F : Nat → Int} {p' : Int} {bd' : Bool} {g : Nat → Nat → AV} {r : Mem} {v : AV}, prtR n f p bd N F p' bd' → ((v = .nils ∧ N = 0) ∨ ∃ l c G, v = .sl l 0 N c ∧ 2 ≤ l ∧ (some ⟨1, Nb, bytesG f⟩ :: some ⟨3, 1, g⟩ :: r : Mem)[l]? = some (some ⟨1, N, G⟩) ∧ ∀ i, i < N → G i 0 = .int .u8 (F i)) → g 0 0 = .sl 0 0 n cap → g 0 1 = .int .i64 p' → g 0 2 = .bool bd' → MutB Nb f n cap (prtR n f p bd) v (some ⟨1, Nb, bytesG f⟩ :: some ⟨3, 1, g⟩ :: r) := fun hR hv h0 h1 h2 =>
    ⟨_, _, _, _, _, rfl, rfl, h0, h1, h2, hR, hv⟩
  refine B_Pblock_reader_part ⟨rfl, ?_⟩
  conv => whnf
  repeat (refine ⟨⟨_, rfl⟩, ?_⟩; conv => whnf)
  refine S_GetPart (n := n) (f := f) p (Shows.sl rfl (by omega) fun i hi => by rw [Nat.zero_add]) hn hf (fun hk c f' => ?_) (fun hk c => ?_)
  · cases bd with
    | true =>
      conv => whnf
      repeat (refine ⟨⟨_, rfl⟩, ?_⟩; conv => whnf)
      exact key (F := f') (.inl ⟨rfl, .inl rfl, rfl, rfl⟩) (.inl ⟨rfl, rfl⟩) rfl rfl rfl
    | false =>
      conv => whnf
      repeat (refine ⟨⟨_, rfl⟩, ?_⟩; conv => whnf)
      refine condB_yes (by simpa using partE_ne) ?_
      conv => whnf
      repeat (refine ⟨⟨_, rfl⟩, ?_⟩; conv => whnf)
      exact key (F := f') (.inl ⟨rfl, .inr hk, rfl, rfl⟩) (.inl ⟨rfl, rfl⟩) rfl rfl rfl
  · cases bd with
    | true =>
      conv => whnf
      repeat (refine ⟨⟨_, rfl⟩, ?_⟩; conv => whnf)
      exact key (F := f) (.inl ⟨rfl, .inl rfl, rfl, rfl⟩) (.inl ⟨rfl, rfl⟩) rfl rfl rfl
    | false =>
      conv => whnf
      repeat (refine ⟨⟨_, rfl⟩, ?_⟩; conv => whnf)
      exact key (.inr ⟨rfl, rfl, hk, rfl, rfl, rfl⟩) (.inr ⟨2, c, _, rfl, Nat.le_refl _, rfl, fun i hi => rfl⟩) rfl rfl rfl
theorem S_rpart {m : Mem} {K : AV → Mem → Prop} {lb l Nb n cap : Nat} {f : Nat → Int} {p : Int} {bd : Bool} {g : Nat → Nat → AV} (hb : m[lb]? = some (some ⟨1, Nb, bytesG f⟩)) (hl : m[l]? = some (some ⟨3, 1, g⟩)) (h0 : g 0 0 = .sl lb 0 n cap) (h1 : g 0 1 = .int .i64 p) (h2 : g 0 2 = .bool bd) (hN : n ≤ Nb) (hn : n ≤ 140737488300000) (hf : ∀ i, i < n → 0 ≤ f i ∧ f i ≤ 255)
    (h : ∀ N F p' bd' c, prtR n f p bd N F p' bd' → setMK m l (some ⟨3, 1, rdrG lb n cap p' bd'⟩) fun m1 => memK (m1 ++ [some ⟨1, N, bytesG F⟩]) (K (.sl m.length 0 N c))) : ACall Pg F_Pblock_reader_part [.ptr l 0 0] m K := by
  simp only [setMK_eq, memK_eq] at h
  exact lift_mutB (S_rpart0 Nb n cap f p bd hN hn hf) hb hl h0 h1 h2 h
end Go.Proofs.Ytjflfecdeicccaa
end

section
/- What any bytes are read as: the program; no condition. -/
set_option linter.unusedVariables false
set_option linter.unusedSimpArgs false
set_option maxRecDepth 100000
set_option pp.maxSteps 3000
set_option pp.deepTerms false
set_option pp.deepTerms.threshold 7
namespace Go.Proofs.Ytjflfecdeicccaa
open Go Go.Wit

theorem getE_iff {n : Nat} {p : Int} {s : Nat} (hs : 1 ≤ s ∧ s ≤ 7) (hp : 0 ≤ p ∧ p ≤ n) : getE n p s = 0 ↔ p + s ≤ n := by
  unfold getE
  rw [if_pos (by simp; omega)]
  split <;> omega
theorem numR_range {n : Nat} {f : Nat → Int} {p x p' : Int} {s : Nat} {bd bd' : Bool} (hs : 1 ≤ s ∧ s ≤ 7) (hp : 0 ≤ p ∧ p ≤ n) (h : numR n f p bd s x p' bd') : 0 ≤ p' ∧ p' ≤ n := by
  rcases h with ⟨_, _, rfl, _⟩ | ⟨_, _, h, rfl, _⟩
  · exact hp
  · rw [getE_iff hs hp] at h; omega
theorem head_good {n : Nat} {f z : Nat → Int} {x1 p1 x2 p2 p3 x4 p4 : Int} {b1 b2 b3 : Bool} (h1 : numR n f 0 false (4 : Nat) x1 p1 b1) (h2 : numR n f p1 b1 (4 : Nat) x2 p2 b2) (h3 : hshR n f p2 b2 z p3 b3) (h4 : numR n f p3 b3 (1 : Nat) x4 p4 false) :
    41 ≤ n ∧ x1 = getV f 0 4 ∧ x2 = getV f 4 4 ∧ z = (fun i => f (8 + i)) ∧ x4 = f 40 ∧ p4 = 41 := by
  rcases h4 with ⟨h, _⟩ | ⟨_, rfl, e4, rfl, rfl⟩
  · cases h
  rcases h3 with ⟨h, _⟩ | ⟨_, rfl, e3, rfl, rfl⟩
  · cases h
  rcases h2 with ⟨h, _⟩ | ⟨_, rfl, e2, rfl, rfl⟩
  · cases h
  rcases h1 with ⟨h, _⟩ | ⟨_, _, e1, rfl, rfl⟩
  · cases h
  rw [getE_iff (by omega) (by omega)] at e1
  rw [getE_iff (by omega) (by omega)] at e2
  rw [getE_iff (by omega) (by omega)] at e4
  exact ⟨by omega, rfl, rfl, rfl, by show 0 * 256 + f (40 + 0) = f 40; simp, rfl⟩
theorem head_bad {n : Nat} {f z : Nat → Int} {x1 p1 x2 p2 p3 x4 p4 : Int} {b1 b2 b3 : Bool} (h1 : numR n f 0 false (4 : Nat) x1 p1 b1) (h2 : numR n f p1 b1 (4 : Nat) x2 p2 b2) (h3 : hshR n f p2 b2 z p3 b3) (h4 : numR n f p3 b3 (1 : Nat) x4 p4 true) : n < 41 ∧ x4 = 0 := by
  rcases h4 with ⟨_, h4, rfl, rfl⟩ | ⟨h, _⟩
  · refine ⟨Nat.lt_of_not_le fun hn => ?_, rfl⟩
    rcases h1 with ⟨_, h1, rfl, _⟩ | ⟨rfl, _, e1, rfl, rfl⟩
    · rcases h1 with h1 | h1
      · cases h1
      · rw [Ne, getE_iff (by omega) (by omega)] at h1; omega
    rcases h2 with ⟨_, h2, rfl, _⟩ | ⟨rfl, _, e2, rfl, rfl⟩
    · rcases h2 with h2 | h2
      · cases h2
      · rw [Ne, getE_iff (by omega) (by omega)] at h2; omega
    rcases h3 with ⟨_, h3, rfl, _⟩ | ⟨rfl, _, e3, rfl, rfl⟩
    · rcases h3 with h3 | h3
      · cases h3
      · omega
    rcases h4 with h4 | h4
    · cases h4
    · rw [Ne, getE_iff (by omega) (by omega)] at h4; omega
  · cases h
theorem rdP_le {n : Nat} {f : Nat → Int} (h41 : 41 ≤ n) : ∀ {k : Nat}, rdOk n f k → rdP f k ≤ n
  | 0, _ => h41
  | k + 1, h => by
    have h1 := partOk_iff.1 (h k (by omega)).2
    simp only [rdP]
    rw [partV_eq]
    omega
theorem rd_step {n k PN : Nat} {f PF : Nat → Int} {x1 p1 p2 : Int} {c1 c2 : Bool} (hP : rdP f k ≤ n) (hf : ∀ i, i < n → 0 ≤ f i ∧ f i ≤ 255) (g1 : numR n f (rdP f k) false (1 : Nat) x1 p1 c1) (g2 : prtR n f p1 c1 PN PF p2 c2) :
    (c2 = true ∧ ¬ (rdP f k < n ∧ partOk n f ((rdP f k + 1 : Nat) : Int) = true)) ∨ (c2 = false ∧ rdP f k < n ∧ partOk n f ((rdP f k + 1 : Nat) : Int) = true ∧ x1 = (rdBk f).A k ∧ PN = (rdBk f).N k ∧ PF = (rdBk f).F k ∧ p2 = (rdP f (k + 1) : Nat)) := by
  have hp : 0 ≤ (rdP f k : Int) ∧ (rdP f k : Int) ≤ n := by omega
  rcases g1 with ⟨rfl, g1, rfl, rfl⟩ | ⟨rfl, _, g1, rfl, rfl⟩
  · rcases g1 with g1 | g1
    · cases g1
    rw [Ne, getE_iff (by omega) hp] at g1
    rcases g2 with ⟨rfl, _⟩ | ⟨_, h, _⟩
    · exact .inl ⟨rfl, fun h => by omega⟩
    · cases h
  · rw [getE_iff (by omega) hp] at g1
    have e1 : ((rdP f k : Int) + ((1 : Nat) : Int)) = ((rdP f k + 1 : Nat) : Int) := by omega
    rw [e1] at g2
    rcases g2 with ⟨rfl, g2, _⟩ | ⟨rfl, _, g2, rfl, rfl, rfl⟩
    · rcases g2 with g2 | g2
      · cases g2
      · exact .inl ⟨rfl, fun h => by rw [g2] at h; exact absurd h.2 (by decide)⟩
    · refine .inr ⟨rfl, by omega, g2, by show 0 * 256 + f (rdP f k + 0) = f (rdP f k); simp, rfl, rfl, ?_⟩
      have h1 := partOk_iff.1 g2
      have h2 := (getV_lt (f := f) (p := rdP f k + 1) (k := 4) (fun i hi => hf i (by omega))).1
      simp only [rdP]
      rw [partV_eq]
      omega
theorem bk_sl {nv : Bool} {σ : Nat → Option Nat} {p h s : Int} {l l' n c i j : Nat} (hl : σ l' = some l) (hi : i < 1) (hj : j < 4) : RV nv σ (lstG 4 (bkL p h s (.sl l 0 n c)) i j) (lstG 4 (bkL p h s (.sl l' 0 n c)) i j) := by
  obtain rfl : i = 0 := by omega
  rcases (show j = 0 ∨ j = 1 ∨ j = 2 ∨ j = 3 by omega) with rfl | rfl | rfl | rfl
  all_goals first
    | exact .eq _ _ rfl (.int _ _)
    | exact .sl _ _ _ _ _ hl
theorem tup3 {a a' b b' c : AV} (h1 : a = a') (h2 : b = b') : AV.tup [a, b, c] = AV.tup [a', b', c] := by rw [h1, h2]
def readP (n Nb : Nat) (f : Nat → Int) (v : AV) (m' : Mem) : Prop := m'[0]? = some (some ⟨1, Nb, bytesG f⟩) ∧
  ((rdGood n f ∧ ∃ x, v = .tup [.agg (rowL fun i => f (8 + i)), bkA 0 (rdBk f).h (rdBk f).s x, .int .i64 0] ∧ ((x = .nils ∧ (rdBk f).t = 0) ∨ ∃ l cc D, x = .sl l 0 (rdBk f).t cc ∧ 1 ≤ l ∧ m'[l]? = some (some ⟨2, (rdBk f).t, txG (rdBk f).A (rdBk f).N D (rdBk f).F⟩))) ∨
   (¬ rdGood n f ∧ v = .tup [.agg (rowL fun _ => 0), bkA 0 0 0 .nils, .int .i64 7]))
theorem rdr_self {lb n cap i j : Nat} {p : Int} {bd : Bool} {σ : Nat → Option Nat} (h : σ lb = some lb) : RV false σ (rdrG lb n cap p bd i j) (rdrG lb n cap p bd i j) := by
  unfold rdrG lstG
  generalize i * 3 + j = t
  match t with
  | 0 => exact .sl _ _ _ _ _ h
  | 1 => exact .eq _ _ rfl (.int _ _)
  | 2 => exact .eq _ _ rfl (.bool _)
  | t + 3 => exact .un _
set_option maxHeartbeats 4000000 in
theorem S_bRead0 (Nb n cap : Nat) (f : Nat → Int) (hN : n ≤ Nb) (hn : n ≤ 1000000) (hf : ∀ i, i < n → 0 ≤ f i ∧ f i ≤ 255) : ACall Pg F_block_Read [.sl 0 0 n cap] [some ⟨1, Nb, bytesG f⟩] (readP n Nb f) := by
  refine B_block_Read ⟨rfl, ?_⟩
  conv => whnf
  repeat (refine ⟨⟨_, rfl⟩, ?_⟩; conv => whnf)
  refine S_rnum (lb := 0) (l := 3) (n := n) (f := f) (p := 0) (s := (4 : Nat)) (bd := false) rfl rfl rfl rfl rfl hN (by omega) hf (fun x1 p1 b1 h1 => ?_)
  have r1 := numR_range (by omega) (by omega) h1
  conv => whnf
  repeat (refine ⟨⟨_, rfl⟩, ?_⟩; conv => whnf)
  refine S_rnum (lb := 0) (l := 3) (n := n) (f := f) (p := p1) (s := (4 : Nat)) (bd := b1) rfl rfl rfl rfl rfl hN (by omega) hf (fun x2 p2 b2 h2 => ?_)
  have r2 := numR_range (by omega) (by omega) h2
  conv => whnf
  repeat (refine ⟨⟨_, rfl⟩, ?_⟩; conv => whnf)
  refine S_rhash (lb := 0) (l := 3) (n := n) (f := f) (p := p2) (bd := b2) rfl rfl rfl rfl rfl hN (by omega) (by omega) (fun z p3 b3 h3 => ?_)
  have r3 : 0 ≤ p3 ∧ p3 ≤ n := by
    rcases h3 with ⟨_, _, rfl, _⟩ | ⟨_, _, _, rfl, _⟩
    · exact r2
    · omega
  rw [rowL]
  conv => whnf
  repeat (refine ⟨⟨_, rfl⟩, ?_⟩; conv => whnf)
  refine S_rnum (lb := 0) (l := 3) (n := n) (f := f) (p := p3) (s := (1 : Nat)) (bd := b3) rfl rfl rfl rfl rfl hN (by omega) hf (fun x4 p4 b4 h4 => ?_)
  have r4 := numR_range (by omega) (by omega) h4
  conv => whnf
  repeat (refine ⟨⟨_, rfl⟩, ?_⟩; conv => whnf)
  cases b4 with
  | true =>
    obtain ⟨hb, rfl⟩ := head_bad h1 h2 h3 h4
    refine loop_wk mixed (I := fun q l m => l = [(2, .ptr 1 0 0), (3, .ptr 2 0 0), (5, .ptr 3 0 0), (18, .int .i64 0), (19, .int .i64 0)] ∧ m = [some ⟨1, Nb, bytesG f⟩, some ⟨1, 32, fun _ _ => .un⟩, some ⟨4, 1, fun _ _ => .un⟩, some ⟨3, 1, rdrG 0 n cap p4 true⟩]) 0
      (l0 := [(2, .ptr 1 0 0), (3, .ptr 2 0 0), (5, .ptr 3 0 0), (18, .int .i64 0), (19, .int .i64 0)]) (m0 := [some ⟨1, Nb, bytesG f⟩, some ⟨1, 32, fun _ _ => .un⟩, some ⟨4, 1, fun _ _ => .un⟩, some ⟨3, 1, rdrG 0 n cap p4 true⟩]) [some 0, some 1, some 2, some 3] ⟨rfl, rfl⟩ ?_ ?_
    · exact .mkN ⟨.ptr _ _ _ _ rfl, .ptr _ _ _ _ rfl, .ptr _ _ _ _ rfl, Flat.i rfl, Flat.i rfl, trivial⟩ ⟨.old 0 0 _ _ rfl rfl ⟨rfl, Nat.le_refl _, fun i j hi hj => .eq _ _ rfl (.int _ _)⟩, .old 1 1 _ _ rfl rfl ⟨rfl, Nat.le_refl _, fun i j hi hj => .un _⟩, .old 2 2 _ _ rfl rfl ⟨rfl, Nat.le_refl _, fun i j hi hj => .un _⟩, .old 3 3 _ _ rfl rfl ⟨rfl, Nat.le_refl _, fun i j hi hj => rdr_self rfl⟩, trivial⟩ rfl rfl rfl
    · rintro q l m ⟨rfl, rfl⟩
      conv => whnf
      repeat (refine ⟨⟨_, rfl⟩, ?_⟩; conv => whnf)
      exact ⟨rfl, .inr ⟨fun h => absurd h.1 (by omega), rfl⟩⟩
  | false =>
    obtain ⟨h41, rfl, rfl, rfl, rfl, rfl⟩ := head_good h1 h2 h3 h4
    clear h1 h2 h3 h4
    obtain ⟨T, hT⟩ : ∃ T : Nat, f 40 = T := ⟨(f 40).toNat, by have := hf 40 (by omega); omega⟩
    have hTn : (f 40).toNat = T := by rw [hT]; rfl
    have hT255 : T ≤ 255 := by have := hf 40 (by omega); omega
    refine loop_fz mixed (I := fun q l m => ∃ k : Nat, q + k = T ∧ l = [(0, .sl 0 0 n cap), (2, .ptr 1 0 0), (3, .ptr 2 0 0), (5, .ptr 3 0 0), (18, .int .i64 T), (19, .int .i64 k)] ∧
        ((k = 0 ∧ m = [some ⟨1, Nb, bytesG f⟩, some ⟨1, 32, bytesG fun i => f (8 + i)⟩, some ⟨4, 1, lstG 4 (bkL 0 (getV f 0 4) (getV f 4 4) .nils)⟩, some ⟨3, 1, rdrG 0 n cap 41 false⟩, none]) ∨
         (∃ k' cc D, k = k' + 1 ∧ rdOk n f (k' + 1) ∧ m = [some ⟨1, Nb, bytesG f⟩, some ⟨1, 32, bytesG fun i => f (8 + i)⟩, some ⟨4, 1, lstG 4 (bkL 0 (getV f 0 4) (getV f 4 4) (.sl 4 0 (k' + 1) cc))⟩, some ⟨3, 1, rdrG 0 n cap (rdP f (k' + 1) : Nat) false⟩, some ⟨2, k' + 1, txG (rdBk f).A (rdBk f).N D (rdBk f).F⟩]) ∨
         (¬ rdOk n f T ∧ ∃ p, m = [some ⟨1, Nb, bytesG f⟩, some ⟨1, 32, fun _ _ => .un⟩, some ⟨4, 1, fun _ _ => .un⟩, some ⟨3, 1, rdrG 0 n cap p true⟩, none]))) T
      (l0 := [(0, .sl 0 0 n cap), (2, .ptr 1 0 0), (3, .ptr 2 0 0), (5, .ptr 3 0 0), (18, .int .i64 T), (19, .int .i64 (0 : Nat))]) (m0 := [some ⟨1, Nb, bytesG f⟩, some ⟨1, 32, bytesG fun i => f (8 + i)⟩, some ⟨4, 1, lstG 4 (bkL 0 (getV f 0 4) (getV f 4 4) .nils)⟩, some ⟨3, 1, rdrG 0 n cap 41 false⟩, none]) [some 0, some 1, some 2, some 3, none] ⟨0, rfl, rfl, .inl ⟨rfl, rfl⟩⟩ ?_ ?_
    · refine .mkN ⟨.sl _ _ _ _ _ rfl, .ptr _ _ _ _ rfl, .ptr _ _ _ _ rfl, .ptr _ _ _ _ rfl, Flat.i hT, Flat.i rfl, trivial⟩ ⟨.old 0 0 _ _ rfl rfl ⟨rfl, Nat.le_refl _, fun i j hi hj => .eq _ _ rfl (.int _ _)⟩, .old 1 1 _ _ rfl rfl ⟨rfl, Nat.le_refl _, fun i j hi hj => ?_⟩, .old 2 2 _ _ rfl rfl ⟨rfl, Nat.le_refl _, fun i j hi hj => ?_⟩, .old 3 3 _ _ rfl rfl ⟨rfl, Nat.le_refl _, fun i j hi hj => rdr_self rfl⟩, .dead _, trivial⟩ rfl rfl rfl
      · exact sumBlk (s := fun i => f (8 + i)) hi hj rfl
      · exact bk_blk .nils hi hj rfl
    · rintro q l m ⟨k, hq, rfl, (⟨rfl, rfl⟩ | ⟨k', cc, D, rfl, hok, rfl⟩ | ⟨hbad, p, rfl⟩)⟩
      · conv => whnf
        repeat (refine ⟨⟨_, rfl⟩, ?_⟩; conv => whnf)
        refine condB_mk (fun hb => ?_) (fun hb => ?_)
        · have hb : 0 < T := by simp at hb; omega
          conv => whnf
          repeat (refine ⟨⟨_, rfl⟩, ?_⟩; conv => whnf)
          refine S_rnum (lb := 0) (l := 3) (n := n) (f := f) (p := 41) (s := (1 : Nat)) (bd := false) rfl rfl rfl rfl rfl hN (by omega) hf (fun x1 p1 c1 g1 => ?_)
          conv => whnf
          repeat (refine ⟨⟨_, rfl⟩, ?_⟩; conv => whnf)
          refine S_rpart (lb := 0) (l := 3) (n := n) (f := f) (p := p1) (bd := c1) rfl rfl rfl rfl rfl hN (by omega) hf (fun PN PF p2 c2 pc g2 => ?_)
          conv => whnf
          repeat (refine ⟨⟨_, rfl⟩, ?_⟩; conv => whnf)
          refine fun cap3 hcap3 => ?_
          conv => whnf
          repeat (refine ⟨⟨_, rfl⟩, ?_⟩; conv => whnf)
          have e5 : IntKind.i64.wrap (((0 : Nat) : Int) + 1) = ((0 + 1 : Nat) : Int) := by rw [w64 (by omega) (by omega)]; omega
          have hok0 : rdOk n f 0 := fun j hj => absurd hj (Nat.not_lt_zero _)
          rcases rd_step (k := 0) h41 hf g1 g2 with ⟨rfl, hno⟩ | ⟨rfl, hlt, hpo, rfl, rfl, rfl, rfl⟩
          · refine ⟨q - 1, [(0, .sl 0 0 n cap), (2, .ptr 1 0 0), (3, .ptr 2 0 0), (5, .ptr 3 0 0), (18, .int .i64 T), (19, .int .i64 ((0 + 1 : Nat) : Int))], _, [some ⟨1, Nb, bytesG f⟩, some ⟨1, 32, fun _ _ => .un⟩, some ⟨4, 1, fun _ _ => .un⟩, some ⟨3, 1, rdrG 0 n cap p2 true⟩, none], [some 0, some 1, some 2, some 3, none], by omega, ⟨0 + 1, by omega, rfl, .inr (.inr ⟨fun h => hno (h 0 hb), p2, rfl⟩)⟩, .refl _, ?_⟩
            exact .mkN ⟨.sl _ _ _ _ _ rfl, .ptr _ _ _ _ rfl, .ptr _ _ _ _ rfl, .ptr _ _ _ _ rfl, Flat.i rfl, Flat.i e5, trivial⟩ ⟨.old 0 0 _ _ rfl rfl ⟨rfl, Nat.le_refl _, fun i j hi hj => .eq _ _ rfl (.int _ _)⟩, .old 1 1 _ _ rfl rfl ⟨rfl, Nat.le_refl _, fun i j hi hj => .un _⟩, .old 2 2 _ _ rfl rfl ⟨rfl, Nat.le_refl _, fun i j hi hj => .un _⟩, .old 3 3 _ _ rfl rfl ⟨rfl, Nat.le_refl _, fun i j hi hj => rdr_self rfl⟩, .dead _, trivial⟩ rfl rfl rfl
          · refine ⟨q - 1, [(0, .sl 0 0 n cap), (2, .ptr 1 0 0), (3, .ptr 2 0 0), (5, .ptr 3 0 0), (18, .int .i64 T), (19, .int .i64 ((0 + 1 : Nat) : Int))], [some ⟨1, Nb, bytesG f⟩, some ⟨1, 32, bytesG fun i => f (8 + i)⟩, some ⟨4, 1, lstG 4 (bkL 0 (getV f 0 4) (getV f 4 4) (.sl 7 0 (0 + 1) cap3))⟩, some ⟨3, 1, rdrG 0 n cap (rdP f (0 + 1) : Nat) false⟩, none, none, none, some ⟨2, 0 + 1, txG (rdBk f).A (rdBk f).N (fun i => if i = 0 then pc else (fun _ => 0) i) (rdBk f).F⟩],
              [some ⟨1, Nb, bytesG f⟩, some ⟨1, 32, bytesG fun i => f (8 + i)⟩, some ⟨4, 1, lstG 4 (bkL 0 (getV f 0 4) (getV f 4 4) (.sl 4 0 (0 + 1) cap3))⟩, some ⟨3, 1, rdrG 0 n cap (rdP f (0 + 1) : Nat) false⟩, some ⟨2, 0 + 1, txG (rdBk f).A (rdBk f).N (fun i => if i = 0 then pc else (fun _ => 0) i) (rdBk f).F⟩], [some 0, some 1, some 2, some 3, some 7], by omega, ⟨0 + 1, by omega, rfl, .inr (.inl ⟨0, cap3, _, rfl, ?_, rfl⟩)⟩, ?_, ?_⟩
            · intro j hj
              by_cases hjk : j = 0
              · rw [hjk]; exact ⟨hlt, hpo⟩
              · exact hok0 j (by omega)
            · refine .step 5 ⟨1, (rdBk f).N 0, bytesG ((rdBk f).F 0)⟩ _ _ _ rfl (.c (.inr ⟨by decide, _, _, rfl, rfl, rfl, Nat.le_refl _, fun i j _ _ => .inl rfl⟩) (.c (.inr ⟨by decide, _, ⟨1, 32, bytesG fun i => f (8 + i)⟩, rfl, rfl, rfl, Nat.le_refl _, fun i j _ _ => .inl rfl⟩) (.c (.inr ⟨by decide, _, ⟨4, 1, lstG 4 (bkL 0 (getV f 0 4) (getV f 4 4) (.sl 7 0 (0 + 1) cap3))⟩, rfl, rfl, rfl, Nat.le_refl _, fun i j _ _ => .inl rfl⟩) (.c (.inr ⟨by decide, _, ⟨3, 1, rdrG 0 n cap (rdP f (0 + 1) : Nat) false⟩, rfl, rfl, rfl, Nat.le_refl _, fun i j _ _ => .inl rfl⟩) (.c (.inl rfl) (.c (.inl rfl) (.c (.inl rfl) (.c (.inr ⟨by decide, _, ⟨2, 0 + 1, txG (rdBk f).A (rdBk f).N (fun i => if i = 0 then pc else (fun _ => 0) i) (rdBk f).F⟩, rfl, rfl, rfl, Nat.le_refl _, fun i j hi hj => ?_⟩) .n)))))))) (.refl _)
              have hi : i < 0 + 1 := hi
              have hj : j < 2 := hj
              refine tx_fz (D := (fun _ => 0)) hi hj (fun h => ?_) (fun h => ?_)
              · dsimp only
                rw [catG_ge (by omega), h, Nat.sub_self]
                rcases (show j = 0 ∨ j = 1 by omega) with rfl | rfl <;> rfl
              · dsimp only
                first
                  | (exfalso; omega)
                  | rw [catG_lt (by omega)]
            · exact .mkN ⟨.sl _ _ _ _ _ rfl, .ptr _ _ _ _ rfl, .ptr _ _ _ _ rfl, .ptr _ _ _ _ rfl, Flat.i rfl, Flat.i e5, trivial⟩ ⟨.old 0 0 _ _ rfl rfl ⟨rfl, Nat.le_refl _, fun i j hi hj => .eq _ _ rfl (.int _ _)⟩, .old 1 1 _ _ rfl rfl ⟨rfl, Nat.le_refl _, fun i j hi hj => .eq _ _ rfl (.int _ _)⟩, .old 2 2 _ _ rfl rfl ⟨rfl, Nat.le_refl _, fun i j hi hj => bk_sl rfl hi hj⟩, .old 3 3 _ _ rfl rfl ⟨rfl, Nat.le_refl _, fun i j hi hj => rdr_self rfl⟩, .old 4 7 _ _ rfl rfl ⟨rfl, Nat.le_refl _, fun i j hi hj => .eq _ _ rfl (by dsimp only; exact flat_txG)⟩, trivial⟩ rfl rfl rfl
        · have hb : T = 0 := by simp at hb; omega
          subst hb
          have hok0 : rdOk n f 0 := fun j hj => absurd hj (Nat.not_lt_zero _)
          have ht0 : (rdBk f).t = 0 := hTn
          conv => whnf
          repeat (refine ⟨⟨_, rfl⟩, ?_⟩; conv => whnf)
          refine condB_mk (fun he => ?_) (fun he => ?_)
          rotate_left
          · have he : n ≠ 41 := by rintro rfl; exact absurd he (by decide)
            conv => whnf
            repeat (refine ⟨⟨_, rfl⟩, ?_⟩; conv => whnf)
            exact ⟨rfl, .inr ⟨fun h => he (by have := h.2.2.1; rw [hTn] at this; exact this.symm), tup3 (outRow2 (s := fun _ => 0) rfl).1 rfl⟩⟩
          have he : n = 41 := by
            have : (41 : Int) = n := by simpa using he
            omega
          conv => whnf
          repeat (refine ⟨⟨_, rfl⟩, ?_⟩; conv => whnf)
          refine S_bCheck (b := rdBk f) (x := .nils) (bkA_at rfl) (by rw [ht0]; exact .nils) (by rw [ht0]; decide) (fun e hE => ?_)
          conv => whnf
          repeat (refine ⟨⟨_, rfl⟩, ?_⟩; conv => whnf)
          refine condB_mk (fun h0 => ?_) (fun h0 => ?_)
          · have h0 : e ≠ 0 := by simpa using h0
            conv => whnf
            repeat (refine ⟨⟨_, rfl⟩, ?_⟩; conv => whnf)
            exact ⟨rfl, .inr ⟨fun h => h0 (hE.trans h.2.2.2), tup3 (outRow2 (s := fun _ => 0) rfl).1 rfl⟩⟩
          have h0 : e = 0 := by simpa using h0
          conv => whnf
          repeat (refine ⟨⟨_, rfl⟩, ?_⟩; conv => whnf)
          exact ⟨rfl, .inl ⟨⟨h41, by rw [hTn]; exact hok0, by rw [hTn]; exact he.symm, hE.symm.trans h0⟩, .nils, tup3 (outRow2 (s := fun i => f (8 + i)) rfl).1 rfl, .inl ⟨rfl, ht0⟩⟩⟩
      · have hP := rdP_le h41 hok
        conv => whnf
        repeat (refine ⟨⟨_, rfl⟩, ?_⟩; conv => whnf)
        refine condB_mk (fun hb => ?_) (fun hb => ?_)
        · have hb : k' + 1 < T := by simp at hb; omega
          conv => whnf
          repeat (refine ⟨⟨_, rfl⟩, ?_⟩; conv => whnf)
          refine S_rnum (lb := 0) (l := 3) (n := n) (f := f) (p := (rdP f (k' + 1) : Nat)) (s := (1 : Nat)) (bd := false) rfl rfl rfl rfl rfl hN (by omega) hf (fun x1 p1 c1 g1 => ?_)
          conv => whnf
          repeat (refine ⟨⟨_, rfl⟩, ?_⟩; conv => whnf)
          refine S_rpart (lb := 0) (l := 3) (n := n) (f := f) (p := p1) (bd := c1) rfl rfl rfl rfl rfl hN (by omega) hf (fun PN PF p2 c2 pc g2 => ?_)
          conv => whnf
          repeat (refine ⟨⟨_, rfl⟩, ?_⟩; conv => whnf)
          refine condB_ok (app_ok (by first | rfl | simp) rfl rfl (by omega) (by omega)) (fun cap3 hcap3 => ?_)
          conv => whnf
          repeat (refine ⟨⟨_, rfl⟩, ?_⟩; conv => whnf)
          have e5 : IntKind.i64.wrap (((k' + 1 : Nat) : Int) + 1) = ((k' + 1 + 1 : Nat) : Int) := by rw [w64 (by omega) (by omega)]; omega
          rcases rd_step (k := (k' + 1)) hP hf g1 g2 with ⟨rfl, hno⟩ | ⟨rfl, hlt, hpo, rfl, rfl, rfl, rfl⟩
          · refine ⟨q - 1, [(0, .sl 0 0 n cap), (2, .ptr 1 0 0), (3, .ptr 2 0 0), (5, .ptr 3 0 0), (18, .int .i64 T), (19, .int .i64 (((k' + 1) + 1 : Nat) : Int))], _, [some ⟨1, Nb, bytesG f⟩, some ⟨1, 32, fun _ _ => .un⟩, some ⟨4, 1, fun _ _ => .un⟩, some ⟨3, 1, rdrG 0 n cap p2 true⟩, none], [some 0, some 1, some 2, some 3, none], by omega, ⟨(k' + 1) + 1, by omega, rfl, .inr (.inr ⟨fun h => hno (h (k' + 1) hb), p2, rfl⟩)⟩, .refl _, ?_⟩
            exact .mkN ⟨.sl _ _ _ _ _ rfl, .ptr _ _ _ _ rfl, .ptr _ _ _ _ rfl, .ptr _ _ _ _ rfl, Flat.i rfl, Flat.i e5, trivial⟩ ⟨.old 0 0 _ _ rfl rfl ⟨rfl, Nat.le_refl _, fun i j hi hj => .eq _ _ rfl (.int _ _)⟩, .old 1 1 _ _ rfl rfl ⟨rfl, Nat.le_refl _, fun i j hi hj => .un _⟩, .old 2 2 _ _ rfl rfl ⟨rfl, Nat.le_refl _, fun i j hi hj => .un _⟩, .old 3 3 _ _ rfl rfl ⟨rfl, Nat.le_refl _, fun i j hi hj => rdr_self rfl⟩, .dead _, trivial⟩ rfl rfl rfl
          · refine ⟨q - 1, [(0, .sl 0 0 n cap), (2, .ptr 1 0 0), (3, .ptr 2 0 0), (5, .ptr 3 0 0), (18, .int .i64 T), (19, .int .i64 (((k' + 1) + 1 : Nat) : Int))], [some ⟨1, Nb, bytesG f⟩, some ⟨1, 32, bytesG fun i => f (8 + i)⟩, some ⟨4, 1, lstG 4 (bkL 0 (getV f 0 4) (getV f 4 4) (.sl 7 0 ((k' + 1) + 1) cap3))⟩, some ⟨3, 1, rdrG 0 n cap (rdP f ((k' + 1) + 1) : Nat) false⟩, none, none, none, some ⟨2, (k' + 1) + 1, txG (rdBk f).A (rdBk f).N (fun i => if i = (k' + 1) then pc else D i) (rdBk f).F⟩],
              [some ⟨1, Nb, bytesG f⟩, some ⟨1, 32, bytesG fun i => f (8 + i)⟩, some ⟨4, 1, lstG 4 (bkL 0 (getV f 0 4) (getV f 4 4) (.sl 4 0 ((k' + 1) + 1) cap3))⟩, some ⟨3, 1, rdrG 0 n cap (rdP f ((k' + 1) + 1) : Nat) false⟩, some ⟨2, (k' + 1) + 1, txG (rdBk f).A (rdBk f).N (fun i => if i = (k' + 1) then pc else D i) (rdBk f).F⟩], [some 0, some 1, some 2, some 3, some 7], by omega, ⟨(k' + 1) + 1, by omega, rfl, .inr (.inl ⟨(k' + 1), cap3, _, rfl, ?_, rfl⟩)⟩, ?_, ?_⟩
            · intro j hj
              by_cases hjk : j = (k' + 1)
              · rw [hjk]; exact ⟨hlt, hpo⟩
              · exact hok j (by omega)
            · refine .step 5 ⟨1, (rdBk f).N (k' + 1), bytesG ((rdBk f).F (k' + 1))⟩ _ _ _ rfl (.c (.inr ⟨by decide, _, _, rfl, rfl, rfl, Nat.le_refl _, fun i j _ _ => .inl rfl⟩) (.c (.inr ⟨by decide, _, ⟨1, 32, bytesG fun i => f (8 + i)⟩, rfl, rfl, rfl, Nat.le_refl _, fun i j _ _ => .inl rfl⟩) (.c (.inr ⟨by decide, _, ⟨4, 1, lstG 4 (bkL 0 (getV f 0 4) (getV f 4 4) (.sl 7 0 ((k' + 1) + 1) cap3))⟩, rfl, rfl, rfl, Nat.le_refl _, fun i j _ _ => .inl rfl⟩) (.c (.inr ⟨by decide, _, ⟨3, 1, rdrG 0 n cap (rdP f ((k' + 1) + 1) : Nat) false⟩, rfl, rfl, rfl, Nat.le_refl _, fun i j _ _ => .inl rfl⟩) (.c (.inl rfl) (.c (.inl rfl) (.c (.inl rfl) (.c (.inr ⟨by decide, _, ⟨2, (k' + 1) + 1, txG (rdBk f).A (rdBk f).N (fun i => if i = (k' + 1) then pc else D i) (rdBk f).F⟩, rfl, rfl, rfl, Nat.le_refl _, fun i j hi hj => ?_⟩) .n)))))))) (.refl _)
              have hi : i < (k' + 1) + 1 := hi
              have hj : j < 2 := hj
              refine tx_fz (D := D) hi hj (fun h => ?_) (fun h => ?_)
              · dsimp only
                rw [catG_ge (by omega), h, Nat.sub_self]
                rcases (show j = 0 ∨ j = 1 by omega) with rfl | rfl <;> rfl
              · dsimp only
                first
                  | (exfalso; omega)
                  | rw [catG_lt (by omega)]
            · exact .mkN ⟨.sl _ _ _ _ _ rfl, .ptr _ _ _ _ rfl, .ptr _ _ _ _ rfl, .ptr _ _ _ _ rfl, Flat.i rfl, Flat.i e5, trivial⟩ ⟨.old 0 0 _ _ rfl rfl ⟨rfl, Nat.le_refl _, fun i j hi hj => .eq _ _ rfl (.int _ _)⟩, .old 1 1 _ _ rfl rfl ⟨rfl, Nat.le_refl _, fun i j hi hj => .eq _ _ rfl (.int _ _)⟩, .old 2 2 _ _ rfl rfl ⟨rfl, Nat.le_refl _, fun i j hi hj => bk_sl rfl hi hj⟩, .old 3 3 _ _ rfl rfl ⟨rfl, Nat.le_refl _, fun i j hi hj => rdr_self rfl⟩, .old 4 7 _ _ rfl rfl ⟨rfl, Nat.le_refl _, fun i j hi hj => .eq _ _ rfl (by dsimp only; exact flat_txG)⟩, trivial⟩ rfl rfl rfl
        · have hb : T = k' + 1 := by simp at hb; omega
          subst hb
          have ht0 : (rdBk f).t = k' + 1 := hTn
          conv => whnf
          repeat (refine ⟨⟨_, rfl⟩, ?_⟩; conv => whnf)
          refine condB_mk (fun he => ?_) (fun he => ?_)
          rotate_left
          · have he : ¬ ((rdP f (k' + 1) : Nat) : Int) = (n : Int) := by simpa using he
            conv => whnf
            repeat (refine ⟨⟨_, rfl⟩, ?_⟩; conv => whnf)
            exact ⟨rfl, .inr ⟨fun h => he (by have := h.2.2.1; rw [hTn] at this; rw [this]), tup3 (outRow2 (s := fun _ => 0) rfl).1 rfl⟩⟩
          have he : rdP f (k' + 1) = n := by
            have : ((rdP f (k' + 1) : Nat) : Int) = (n : Int) := by simpa using he
            omega
          conv => whnf
          repeat (refine ⟨⟨_, rfl⟩, ?_⟩; conv => whnf)
          refine S_bCheck (b := rdBk f) (x := .sl 4 0 (k' + 1) cc) (bkA_at rfl) (by rw [ht0]; exact .own rfl (Nat.le_refl _)) (by rw [ht0]; omega) (fun e hE => ?_)
          conv => whnf
          repeat (refine ⟨⟨_, rfl⟩, ?_⟩; conv => whnf)
          refine condB_mk (fun h0 => ?_) (fun h0 => ?_)
          · have h0 : e ≠ 0 := by simpa using h0
            conv => whnf
            repeat (refine ⟨⟨_, rfl⟩, ?_⟩; conv => whnf)
            exact ⟨rfl, .inr ⟨fun h => h0 (hE.trans h.2.2.2), tup3 (outRow2 (s := fun _ => 0) rfl).1 rfl⟩⟩
          have h0 : e = 0 := by simpa using h0
          conv => whnf
          repeat (refine ⟨⟨_, rfl⟩, ?_⟩; conv => whnf)
          exact ⟨rfl, .inl ⟨⟨h41, by rw [hTn]; exact hok, by rw [hTn]; exact he, hE.symm.trans h0⟩, .sl 4 0 (k' + 1) cc, tup3 (outRow2 (s := fun i => f (8 + i)) rfl).1 rfl, .inr ⟨4, cc, D, by rw [ht0], by decide, by rw [ht0]; rfl⟩⟩⟩
      · conv => whnf
        repeat (refine ⟨⟨_, rfl⟩, ?_⟩; conv => whnf)
        have hng : ¬ rdGood n f := fun h => hbad (by have := h.2.1; rw [hTn] at this; exact this)
        refine condB_mk (fun hb => ?_) (fun hb => ?_)
        · conv => whnf
          repeat (refine ⟨⟨_, rfl⟩, ?_⟩; conv => whnf)
          exact ⟨rfl, .inr ⟨hng, rfl⟩⟩
        · conv => whnf
          repeat (refine ⟨⟨_, rfl⟩, ?_⟩; conv => whnf)
          exact ⟨rfl, .inr ⟨hng, rfl⟩⟩
theorem get1 {l i q : Nat} (h : [some l].getD i none = some q) : i = 0 ∧ q = l := by
  match i, h with
  | 0, h => exact ⟨rfl, by simpa using h.symm⟩
  | i + 1, h => simp at h
theorem S_bRead {m : Mem} {K : AV → Mem → Prop} {l Nb n cap : Nat} {g : Nat → Nat → AV} (f : Nat → Int) (hl : m[l]? = some (some ⟨1, Nb, g⟩)) (hg : ∀ i, i < Nb → g i 0 = .int .u8 (f i)) (hN : n ≤ Nb) (hn : n ≤ 1000000) (hf : ∀ i, i < n → 0 ≤ f i ∧ f i ≤ 255)
    (h0 : rdGood n f → ∀ c D, memK (m ++ [some ⟨2, (rdBk f).t, txG (rdBk f).A (rdBk f).N D (rdBk f).F⟩]) (K (.tup [.agg (rowL fun i => f (8 + i)), bkA 0 (rdBk f).h (rdBk f).s (.sl m.length 0 (rdBk f).t c), .int .i64 0])))
    (h1 : ¬ rdGood n f → K (.tup [.agg (rowL fun _ => 0), bkA 0 0 0 .nils, .int .i64 7]) m) : ACall Pg F_block_Read [.sl l 0 n cap] m K := by
  simp only [memK_eq] at h0
  have hlt := lt_of_get hl
  have hb : ∀ i j, i < Nb → j < 1 → g i j = bytesG f i j := fun i j hi hj => by
    obtain rfl : j = 0 := by omega
    exact hg i hi
  refine (S_bRead0 Nb n cap f hN hn hf).frame false [some l] [] (fun _ => rfl) (.cons _ _ _ _ (.rv _ _ (.sl _ _ _ _ _ rfl)) .nil) ⟨.old 0 l _ _ rfl hl ⟨rfl, Nat.le_refl _, fun i j hi hj => RV.of (hb i j hi hj) (.int _ _)⟩, trivial⟩ rfl (fun i j q g1 g2 => by rw [(get1 g1).1, (get1 g2).1]) (fun q hq => by cases hq) ?_
  rintro v m' ⟨k0, (⟨hgood, x, rfl, hx⟩ | ⟨hbad, rfl⟩)⟩
  · obtain ⟨c, D, o, hrv, ho⟩ : ∃ c D o, (∀ τ : Nat → Option Nat, τ m.length = o → RV false τ x (.sl m.length 0 (rdBk f).t c)) ∧ (o = none ∧ (rdBk f).t = 0 ∨ ∃ r, o = some r ∧ 1 ≤ r ∧ m'[r]? = some (some ⟨2, (rdBk f).t, txG (rdBk f).A (rdBk f).N D (rdBk f).F⟩)) := by
      rcases hx with ⟨rfl, hx⟩ | ⟨r, c, D, rfl, g0, g1⟩
      · refine ⟨0, fun _ => 0, none, fun _ _ => ?_, .inl ⟨rfl, hx⟩⟩
        rw [hx]; exact .nils _ _
      · exact ⟨c, D, some r, fun τ ht => .sl _ _ _ _ _ ht, .inr ⟨r, rfl, g0, g1⟩⟩
    have ho2 : ∀ r, o = some r → 1 ≤ r := fun r hr => by
      rcases ho with ⟨h, _⟩ | ⟨r', h, h', _⟩
      · rw [h] at hr; cases hr
      · rw [h] at hr; obtain rfl := Option.some.inj hr; exact h'
    have ht : ∀ {q r : Nat}, (if q = l then some 0 else if q = m.length then o else none) = some r → (q = l ∧ r = 0) ∨ (q = m.length ∧ 1 ≤ r ∧ o = some r) := by
      intro q r hq
      by_cases h : q = l
      · rw [if_pos h] at hq; exact .inl ⟨h, (Option.some.inj hq).symm⟩
      · rw [if_neg h] at hq
        by_cases h'' : q = m.length
        · rw [if_pos h''] at hq; exact .inr ⟨h'', ho2 r hq, hq⟩
        · rw [if_neg h''] at hq; cases hq
    refine ⟨.tup [.agg (rowL fun i => f (8 + i)), bkA 0 (rdBk f).h (rdBk f).s (.sl m.length 0 (rdBk f).t c), .int .i64 0], m ++ [some ⟨2, (rdBk f).t, txG (rdBk f).A (rdBk f).N D (rdBk f).F⟩], fun q => if q = l then some 0 else if q = m.length then o else none, ⟨by simp, fun q r hq => ?_, fun q q' r hq hq' => ?_, fun q r hlt' hq => ?_, fun q b hq => ?_⟩, .tup _ _ (.cons _ _ _ _ (.eq _ _ rfl flat_rowA) (.cons _ _ _ _ (.agg _ _ (.cons _ _ _ _ (.eq _ _ rfl (.int _ _)) (.cons _ _ _ _ (.eq _ _ rfl (.int _ _)) (.cons _ _ _ _ (.eq _ _ rfl (.int _ _)) (.cons _ _ _ _ (hrv _ (by rw [if_neg (by omega), if_pos rfl])) .nil))))) (.cons _ _ _ _ (.eq _ _ rfl (.int _ _)) .nil))), h0 hgood c D⟩
    · rw [List.length_append]
      rcases ht hq with ⟨rfl, _⟩ | ⟨rfl, _⟩
      · omega
      · simp
    · rcases ht hq with ⟨rfl, rfl⟩ | ⟨rfl, e, _⟩ <;> rcases ht hq' with ⟨rfl, e'⟩ | ⟨rfl, e', _⟩
      all_goals first
        | rfl
        | (exfalso; omega)
    · rcases ht hq with ⟨rfl, rfl⟩ | ⟨rfl, e, _⟩
      · exact ⟨by simp, rfl⟩
      · exact absurd hlt' (Nat.lt_irrefl _)
    · by_cases hqm : q < m.length
      · rw [List.getElem?_append_left hqm] at hq
        by_cases hql : q = l
        · subst hql
          rw [hl] at hq
          obtain rfl := Option.some.inj (Option.some.inj hq)
          exact .inr (.inl ⟨0, _, if_pos rfl, k0, rfl, Nat.le_refl _, fun i j hi hj => .eq _ _ (hb i j hi hj).symm (.int _ _)⟩)
        · refine .inl ⟨by rw [if_neg hql, if_neg (by omega)], hq, fun i hi => hql (get1 hi).2⟩
      · rw [List.getElem?_append_right (by omega)] at hq
        have hqe : q = m.length := by
          rcases Nat.lt_or_ge (q - m.length) 1 with g | g
          · omega
          · rw [List.getElem?_eq_none (by simpa using g)] at hq; cases hq
        subst hqe
        rw [Nat.sub_self] at hq
        obtain rfl := Option.some.inj (Option.some.inj hq)
        rcases ho with ⟨rfl, h00⟩ | ⟨r, rfl, _, g1⟩
        · exact .inr (.inr ⟨by rw [if_neg (by omega), if_pos rfl], Nat.le_refl _, h00⟩)
        · exact .inr (.inl ⟨r, _, by rw [if_neg (by omega), if_pos rfl], g1, rfl, Nat.le_refl _, fun i j hi hj => .eq _ _ rfl flat_txG⟩)
  · refine ⟨_, m, fun q => if q = l then some 0 else none, ⟨Nat.le_refl _, fun q r hq => ?_, fun q q' r hq hq' => ?_, fun q r hlt' hq => ?_, fun q b hq => ?_⟩, .eq _ _ rfl (.tup _ (.cons _ _ flat_rowA (.cons _ _ (flat_bkA .nils) (.cons _ _ (.int _ _) .nil)))), h1 hbad⟩
    · by_cases h : q = l
      · rw [h]; exact hlt
      · rw [if_neg h] at hq; cases hq
    · by_cases h : q = l
      · by_cases h' : q' = l
        · rw [h, h']
        · rw [if_neg h'] at hq'; cases hq'
      · rw [if_neg h] at hq; cases hq
    · by_cases h : q = l
      · rw [if_pos h] at hq
        obtain rfl := Option.some.inj hq
        exact ⟨by simp, by rw [h]; rfl⟩
      · rw [if_neg h] at hq; cases hq
    · by_cases hql : q = l
      · subst hql
        rw [hl] at hq
        obtain rfl := Option.some.inj (Option.some.inj hq)
        exact .inr (.inl ⟨0, _, if_pos rfl, k0, rfl, Nat.le_refl _, fun i j hi hj => .eq _ _ (hb i j hi hj).symm (.int _ _)⟩)
      · exact .inl ⟨if_neg hql, hq, fun i hi => hql (get1 hi).2⟩
end Go.Proofs.Ytjflfecdeicccaa
end

section
/- What any bytes are read as: the page; no condition. -/
set_option linter.unusedVariables false
set_option linter.unusedSimpArgs false
set_option maxRecDepth 100000
set_option pp.maxSteps 3000
set_option pp.deepTerms false
set_option pp.deepTerms.threshold 7
namespace Go.Proofs.Ytjflfecdeicccaa
open Go Go.Wit

theorem getR_ok {n p s : Nat} {f : Nat → Int} (hs : 1 ≤ s ∧ s ≤ 7) (hp : p + s ≤ n) : getR n f (p : Int) (s : Int) = .tup [.int .i64 (getV f p s), .int .i64 ((p : Int) + s), .int .i64 0] := by
  unfold getR
  rw [if_pos ((getE_iff hs (by omega)).2 (by omega))]
  rfl
def rreadP (n : Nat) (f : Nat → Int) (v : AV) (m' : Mem) : Prop :=
  (rdGood n f ∧ ∃ x, v = .tup [.agg (rowL fun i => f (8 + i)), bkA 0 (rdBk f).h (rdBk f).s x, .bool true] ∧ ((x = .nils ∧ (rdBk f).t = 0) ∨ ∃ l cc D, x = .sl l 0 (rdBk f).t cc ∧ m'[l]? = some (some ⟨2, (rdBk f).t, txG (rdBk f).A (rdBk f).N D (rdBk f).F⟩))) ∨
   (¬ rdGood n f ∧ v = .tup [.agg (rowL fun _ => 0), bkA 0 0 0 .nils, .bool false])
set_option maxHeartbeats 4000000 in
theorem S_rRead0 (n cap : Nat) (f : Nat → Int) (hn : n ≤ 1000000) (hf : ∀ i, i < n → 0 ≤ f i ∧ f i ≤ 255) : ACall Pg F_witanref16_Read [.vsl 1 n cap (bytesG f)] [] (rreadP n f) := by
  refine B_witanref16_Read ⟨rfl, ?_⟩
  conv => whnf
  repeat (refine ⟨⟨_, rfl⟩, ?_⟩; conv => whnf)
  refine condB_mk (fun h41 => ?_) (fun h41 => ?_)
  · have h41 : n < 41 := by simp at h41; omega
    conv => whnf
    repeat (refine ⟨⟨_, rfl⟩, ?_⟩; conv => whnf)
    exact .inr ⟨fun h => absurd h.1 (by omega), tup3 (outRow2 (s := fun _ => 0) rfl).1 rfl⟩
  have h41 : 41 ≤ n := by simp at h41; omega
  conv => whnf
  repeat (refine ⟨⟨_, rfl⟩, ?_⟩; conv => whnf)
  refine S_refGet (n := n) (f := f) 0 4 Shows.vsl (by omega) hf ?_
  rw [show getR n f 0 4 = .tup [.int .i64 (getV f 0 4), .int .i64 4, .int .i64 0] from getR_ok (p := 0) (s := 4) (by omega) (by omega)]
  conv => whnf
  repeat (refine ⟨⟨_, rfl⟩, ?_⟩; conv => whnf)
  refine S_refGet (n := n) (f := f) 4 4 Shows.vsl (by omega) hf ?_
  rw [show getR n f 4 4 = .tup [.int .i64 (getV f 4 4), .int .i64 8, .int .i64 0] from getR_ok (p := 4) (s := 4) (by omega) (by omega)]
  conv => whnf
  repeat (refine ⟨⟨_, rfl⟩, ?_⟩; conv => whnf)
  refine condB_ok (by simp; omega) ?_
  conv => whnf
  repeat (refine ⟨⟨_, rfl⟩, ?_⟩; conv => whnf)
  obtain ⟨T, hT⟩ : ∃ T : Nat, f 40 = T := ⟨(f 40).toNat, by have := hf 40 (by omega); omega⟩
  have hTn : (f 40).toNat = T := by rw [hT]; rfl
  have hT255 : T ≤ 255 := by have := hf 40 (by omega); omega
  have e40 : IntKind.i64.wrap (f 40) = T := by rw [hT, w64 (by omega) (by omega)]
  refine loop_fz mixed (I := fun q l m => ∃ k : Nat, q + k = T ∧ rdOk n f k ∧ l = [(0, .vsl 1 n cap (bytesG f)), (2, .ptr 0 0 0), (3, .ptr 1 0 0), (5, .ptr 2 0 0), (6, .ptr 3 0 0), (7, .int .i64 (rdP f k : Nat)), (8, .int .i64 k)] ∧
      ((k = 0 ∧ m = [some ⟨1, 32, fun _ _ => .un⟩, some ⟨4, 1, fun _ _ => .un⟩, some ⟨1, 32, bytesG fun i => f (8 + i)⟩, some ⟨4, 1, lstG 4 (bkL 0 (getV f 0 4) (getV f 4 4) .nils)⟩, none]) ∨
       (∃ k' cc D, k = k' + 1 ∧ m = [some ⟨1, 32, fun _ _ => .un⟩, some ⟨4, 1, fun _ _ => .un⟩, some ⟨1, 32, bytesG fun i => f (8 + i)⟩, some ⟨4, 1, lstG 4 (bkL 0 (getV f 0 4) (getV f 4 4) (.sl 4 0 (k' + 1) cc))⟩, some ⟨2, k' + 1, txG (rdBk f).A (rdBk f).N D (rdBk f).F⟩]))) T
    (l0 := [(0, .vsl 1 n cap (bytesG f)), (2, .ptr 0 0 0), (3, .ptr 1 0 0), (5, .ptr 2 0 0), (6, .ptr 3 0 0), (7, .int .i64 (rdP f 0 : Nat)), (8, .int .i64 (0 : Nat))]) (m0 := [some ⟨1, 32, fun _ _ => .un⟩, some ⟨4, 1, fun _ _ => .un⟩, some ⟨1, 32, bytesG fun i => f (8 + i)⟩, some ⟨4, 1, lstG 4 (bkL 0 (getV f 0 4) (getV f 4 4) .nils)⟩, none]) [some 0, some 1, some 2, some 3, none] ⟨0, rfl, fun j hj => absurd hj (Nat.not_lt_zero _), rfl, .inl ⟨rfl, rfl⟩⟩ ?_ ?_
  · refine .mk0 ⟨.eq _ _ rfl (flat_bV rfl), .ptr _ _ _ _ rfl, .ptr _ _ _ _ rfl, .ptr _ _ _ _ rfl, .ptr _ _ _ _ rfl, Flat.i rfl, Flat.i rfl, trivial⟩ ⟨.old 0 0 _ _ rfl rfl ⟨rfl, Nat.le_refl _, fun i j hi hj => .un _⟩, .old 1 1 _ _ rfl rfl ⟨rfl, Nat.le_refl _, fun i j hi hj => .un _⟩, .old 2 2 _ _ rfl rfl ⟨rfl, Nat.le_refl _, fun i j hi hj => RV.of ?_ (.int _ _)⟩, .old 3 3 _ _ rfl rfl ⟨rfl, Nat.le_refl _, fun i j hi hj => bk_blk .nils hi hj rfl⟩, .dead _, trivial⟩ rfl rfl
    have hi : i < 32 := hi
    have hj : j < 1 := hj
    obtain rfl : j = 0 := by omega
    have := copyB (n := 32) (N := 32) (i := i) (j := 0) (f := fun i => f (8 + i)) (h := fun _ => 0) (Nat.le_refl _) (by decide)
    refine Eq.trans (b := pickA (Nat.ble 0 i && Nat.blt i (0 + minN 32 32)) (bytesG f (i - 0 + 8) 0) (.int .u8 0)) rfl ?_
    rw [show bytesG f (i - 0 + 8) 0 = bytesG (fun i => f (8 + i)) (i - 0) 0 from congrArg (fun q => AV.int .u8 (f q)) (by omega)]
    refine Eq.trans this ?_
    show AV.int .u8 (if i < 32 then _ else _) = _
    rw [if_pos hi]; rfl
  · rintro q l m ⟨k, hq, hok, rfl, hm⟩
    have hP := rdP_le h41 hok
    rcases hm with ⟨rfl, rfl⟩ | ⟨k', cc, D, rfl, rfl⟩
    · conv => whnf
      repeat (refine ⟨⟨_, rfl⟩, ?_⟩; conv => whnf)
      refine condB_ok (by simp; omega) ?_
      conv => whnf
      repeat (refine ⟨⟨_, rfl⟩, ?_⟩; conv => whnf)
      refine condB_mk (fun hb => ?_) (fun hb => ?_)
      · have hb : 0 < T := by
          have this : ((0 : Nat) : Int) < IntKind.i64.wrap (f 40) := of_decide_eq_true hb
          rw [e40] at this
          omega
        conv => whnf
        repeat (refine ⟨⟨_, rfl⟩, ?_⟩; conv => whnf)
        refine condB_mk (fun h2 => ?_) (fun h2 => ?_)
        · have h2 : n ≤ rdP f 0 := by simp at h2; omega
          conv => whnf
          repeat (refine ⟨⟨_, rfl⟩, ?_⟩; conv => whnf)
          exact .inr ⟨fun h => absurd (h.2.1 0 (by rw [hTn]; exact hb)).1 (by omega), tup3 (outRow2 (s := fun _ => 0) rfl).1 rfl⟩
        have h2 : rdP f 0 < n := by simp at h2; omega
        conv => whnf
        repeat (refine ⟨⟨_, rfl⟩, ?_⟩; conv => whnf)
        rw [show IntKind.i64.wrap (((rdP f 0 : Nat) : Int) + 1) = ((rdP f 0 + 1 : Nat) : Int) by rw [w64 (by omega) (by omega)]; omega]
        refine S_refGetPart (n := n) (f := f) ((rdP f 0 + 1 : Nat) : Int) Shows.vsl (by omega) hf (fun hk pc f' => ?_) (fun hk pc => ?_)
        · conv => whnf
          repeat (refine ⟨⟨_, rfl⟩, ?_⟩; conv => whnf)
          refine condB_yes (by simpa using partE_ne) ?_
          conv => whnf
          repeat (refine ⟨⟨_, rfl⟩, ?_⟩; conv => whnf)
          exact .inr ⟨fun h => absurd (h.2.1 0 (by rw [hTn]; exact hb)).2 (by rw [hk]; decide), tup3 (outRow2 (s := fun _ => 0) rfl).1 rfl⟩
        · conv => whnf
          repeat (refine ⟨⟨_, rfl⟩, ?_⟩; conv => whnf)
          refine condB_ok (by simp; omega) ?_
          conv => whnf
          repeat (refine ⟨⟨_, rfl⟩, ?_⟩; conv => whnf)
          first
            | refine fun cap3 hcap3 => ?_
            | refine condB_ok (app_ok (by first | rfl | simp) rfl rfl (by omega) (by omega)) (fun cap3 hcap3 => ?_)
          conv => whnf
          repeat (refine ⟨⟨_, rfl⟩, ?_⟩; conv => whnf)
          have e5 : IntKind.i64.wrap (((0 : Nat) : Int) + 1) = ((0 + 1 : Nat) : Int) := by rw [w64 (by omega) (by omega)]; omega
          have hpv := partOk_iff.1 hk
          have hpg := (getV_lt (f := f) (p := rdP f 0 + 1) (k := 4) (fun i hi => hf i (by omega))).1
          have hnx : ((rdP f 0 + 1 : Nat) : Int) + 4 + partV f ((rdP f 0 + 1 : Nat) : Int) = ((rdP f (0 + 1) : Nat) : Int) := by
            rw [show rdP f (0 + 1) = rdP f 0 + 5 + (partV f ((rdP f 0 + 1 : Nat) : Int)).toNat from rfl, partV_eq]
            omega
          have hax : IntKind.i64.wrap (f (rdP f 0)) = (rdBk f).A 0 := by
            have := hf (rdP f 0) h2
            rw [w64 (by omega) (by omega)]; rfl
          refine ⟨q - 1, [(0, .vsl 1 n cap (bytesG f)), (2, .ptr 0 0 0), (3, .ptr 1 0 0), (5, .ptr 2 0 0), (6, .ptr 3 0 0), (7, .int .i64 (rdP f (0 + 1) : Nat)), (8, .int .i64 ((0 + 1 : Nat) : Int))], [some ⟨1, 32, fun _ _ => .un⟩, some ⟨4, 1, fun _ _ => .un⟩, some ⟨1, 32, bytesG fun i => f (8 + i)⟩, some ⟨4, 1, lstG 4 (bkL 0 (getV f 0 4) (getV f 4 4) (.sl 7 0 (0 + 1) cap3))⟩, none, none, none, some ⟨2, 0 + 1, txG (rdBk f).A (rdBk f).N (fun i => if i = 0 then pc else (fun _ => 0) i) (rdBk f).F⟩],
            [some ⟨1, 32, fun _ _ => .un⟩, some ⟨4, 1, fun _ _ => .un⟩, some ⟨1, 32, bytesG fun i => f (8 + i)⟩, some ⟨4, 1, lstG 4 (bkL 0 (getV f 0 4) (getV f 4 4) (.sl 4 0 (0 + 1) cap3))⟩, some ⟨2, 0 + 1, txG (rdBk f).A (rdBk f).N (fun i => if i = 0 then pc else (fun _ => 0) i) (rdBk f).F⟩], [some 0, some 1, some 2, some 3, some 7], by omega, ⟨0 + 1, by omega, fun j hj => ?_, rfl, .inr ⟨0, cap3, _, rfl, rfl⟩⟩, ?_, ?_⟩
          · by_cases hjk : j = 0
            · rw [hjk]; exact ⟨h2, hk⟩
            · exact hok j (by omega)
          · refine .step 5 ⟨1, (rdBk f).N 0, bytesG ((rdBk f).F 0)⟩ _ _ _ rfl (.c (.inr ⟨by decide, _, ⟨1, 32, fun _ _ => .un⟩, rfl, rfl, rfl, Nat.le_refl _, fun i j _ _ => .inr (.inl rfl)⟩) (.c (.inr ⟨by decide, _, ⟨4, 1, fun _ _ => .un⟩, rfl, rfl, rfl, Nat.le_refl _, fun i j _ _ => .inr (.inl rfl)⟩) (.c (.inr ⟨by decide, _, ⟨1, 32, bytesG fun i => f (8 + i)⟩, rfl, rfl, rfl, Nat.le_refl _, fun i j _ _ => .inl rfl⟩) (.c (.inr ⟨by decide, _, ⟨4, 1, lstG 4 (bkL 0 (getV f 0 4) (getV f 4 4) (.sl 7 0 (0 + 1) cap3))⟩, rfl, rfl, rfl, Nat.le_refl _, fun i j _ _ => .inl rfl⟩) (.c (.inl rfl) (.c (.inl rfl) (.c (.inl rfl) (.c (.inr ⟨by decide, _, ⟨2, 0 + 1, txG (rdBk f).A (rdBk f).N (fun i => if i = 0 then pc else (fun _ => 0) i) (rdBk f).F⟩, rfl, rfl, rfl, Nat.le_refl _, fun i j hi hj => ?_⟩) .n)))))))) (.refl _)
            have hi : i < 0 + 1 := hi
            have hj : j < 2 := hj
            refine tx_fz (D := (fun _ => 0)) hi hj (fun h => ?_) (fun h => ?_)
            · dsimp only
              rw [catG_ge (by omega), h, Nat.sub_self]
              rcases (show j = 0 ∨ j = 1 by omega) with rfl | rfl
              · exact congrArg (AV.int .i64) hax
              · rfl
            · dsimp only
              first
                | (exfalso; omega)
                | rw [catG_lt (by omega)]
          · exact .mk0 ⟨.eq _ _ rfl (flat_bV rfl), .ptr _ _ _ _ rfl, .ptr _ _ _ _ rfl, .ptr _ _ _ _ rfl, .ptr _ _ _ _ rfl, Flat.i hnx, Flat.i e5, trivial⟩ ⟨.old 0 0 _ _ rfl rfl ⟨rfl, Nat.le_refl _, fun i j hi hj => .un _⟩, .old 1 1 _ _ rfl rfl ⟨rfl, Nat.le_refl _, fun i j hi hj => .un _⟩, .old 2 2 _ _ rfl rfl ⟨rfl, Nat.le_refl _, fun i j hi hj => .eq _ _ rfl (.int _ _)⟩, .old 3 3 _ _ rfl rfl ⟨rfl, Nat.le_refl _, fun i j hi hj => bk_sl rfl hi hj⟩, .old 4 7 _ _ rfl rfl ⟨rfl, Nat.le_refl _, fun i j hi hj => .eq _ _ rfl (by dsimp only; exact flat_txG)⟩, trivial⟩ rfl rfl
      · have hb : T = 0 := by
          have this : ¬ ((0 : Nat) : Int) < IntKind.i64.wrap (f 40) := of_decide_eq_false hb
          rw [e40] at this
          omega
        have ht0 : (rdBk f).t = 0 := hTn.trans hb
        conv => whnf
        repeat (refine ⟨⟨_, rfl⟩, ?_⟩; conv => whnf)
        refine condB_mk (fun he => ?_) (fun he => ?_)
        rotate_left
        · have he : ¬ ((rdP f 0 : Nat) : Int) = (n : Int) := by simpa using he
          conv => whnf
          repeat (refine ⟨⟨_, rfl⟩, ?_⟩; conv => whnf)
          exact .inr ⟨fun h => he (by have := h.2.2.1; rw [hTn, hb] at this; rw [this]), tup3 (outRow2 (s := fun _ => 0) rfl).1 rfl⟩
        have he : rdP f 0 = n := by
          have : ((rdP f 0 : Nat) : Int) = (n : Int) := by simpa using he
          omega
        conv => whnf
        repeat (refine ⟨⟨_, rfl⟩, ?_⟩; conv => whnf)
        refine S_rbCheck (b := rdBk f) (x := .nils) (bkA_at rfl) (by rw [ht0]; first | exact .nils | exact .own rfl (Nat.le_refl _)) (by rw [ht0]; omega) (fun e hE => ?_)
        conv => whnf
        repeat (refine ⟨⟨_, rfl⟩, ?_⟩; conv => whnf)
        refine condB_mk (fun h0 => ?_) (fun h0 => ?_)
        · have h0 : e ≠ 0 := by simpa using h0
          conv => whnf
          repeat (refine ⟨⟨_, rfl⟩, ?_⟩; conv => whnf)
          exact .inr ⟨fun h => h0 (hE.trans h.2.2.2), tup3 (outRow2 (s := fun _ => 0) rfl).1 rfl⟩
        have h0 : e = 0 := by simpa using h0
        conv => whnf
        repeat (refine ⟨⟨_, rfl⟩, ?_⟩; conv => whnf)
        exact .inl ⟨⟨h41, by rw [hTn, hb]; exact hok, by rw [hTn, hb]; exact he, hE.symm.trans h0⟩, .nils, tup3 (outRow2 (s := fun i => f (8 + i)) rfl).1 rfl, by first | exact .inl ⟨rfl, ht0⟩ | exact .inr ⟨4, cc, D, by rw [ht0], by rw [ht0]; rfl⟩⟩
    · conv => whnf
      repeat (refine ⟨⟨_, rfl⟩, ?_⟩; conv => whnf)
      refine condB_ok (by simp; omega) ?_
      conv => whnf
      repeat (refine ⟨⟨_, rfl⟩, ?_⟩; conv => whnf)
      refine condB_mk (fun hb => ?_) (fun hb => ?_)
      · have hb : (k' + 1) < T := by
          have this : (((k' + 1) : Nat) : Int) < IntKind.i64.wrap (f 40) := of_decide_eq_true hb
          rw [e40] at this
          omega
        conv => whnf
        repeat (refine ⟨⟨_, rfl⟩, ?_⟩; conv => whnf)
        refine condB_mk (fun h2 => ?_) (fun h2 => ?_)
        · have h2 : n ≤ rdP f (k' + 1) := by simp at h2; omega
          conv => whnf
          repeat (refine ⟨⟨_, rfl⟩, ?_⟩; conv => whnf)
          exact .inr ⟨fun h => absurd (h.2.1 (k' + 1) (by rw [hTn]; exact hb)).1 (by omega), tup3 (outRow2 (s := fun _ => 0) rfl).1 rfl⟩
        have h2 : rdP f (k' + 1) < n := by simp at h2; omega
        conv => whnf
        repeat (refine ⟨⟨_, rfl⟩, ?_⟩; conv => whnf)
        rw [show IntKind.i64.wrap (((rdP f (k' + 1) : Nat) : Int) + 1) = ((rdP f (k' + 1) + 1 : Nat) : Int) by rw [w64 (by omega) (by omega)]; omega]
        refine S_refGetPart (n := n) (f := f) ((rdP f (k' + 1) + 1 : Nat) : Int) Shows.vsl (by omega) hf (fun hk pc f' => ?_) (fun hk pc => ?_)
        · conv => whnf
          repeat (refine ⟨⟨_, rfl⟩, ?_⟩; conv => whnf)
          refine condB_yes (by simpa using partE_ne) ?_
          conv => whnf
          repeat (refine ⟨⟨_, rfl⟩, ?_⟩; conv => whnf)
          exact .inr ⟨fun h => absurd (h.2.1 (k' + 1) (by rw [hTn]; exact hb)).2 (by rw [hk]; decide), tup3 (outRow2 (s := fun _ => 0) rfl).1 rfl⟩
        · conv => whnf
          repeat (refine ⟨⟨_, rfl⟩, ?_⟩; conv => whnf)
          refine condB_ok (by simp; omega) ?_
          conv => whnf
          repeat (refine ⟨⟨_, rfl⟩, ?_⟩; conv => whnf)
          first
            | refine fun cap3 hcap3 => ?_
            | refine condB_ok (app_ok (by first | rfl | simp) rfl rfl (by omega) (by omega)) (fun cap3 hcap3 => ?_)
          conv => whnf
          repeat (refine ⟨⟨_, rfl⟩, ?_⟩; conv => whnf)
          have e5 : IntKind.i64.wrap ((((k' + 1) : Nat) : Int) + 1) = (((k' + 1) + 1 : Nat) : Int) := by rw [w64 (by omega) (by omega)]; omega
          have hpv := partOk_iff.1 hk
          have hpg := (getV_lt (f := f) (p := rdP f (k' + 1) + 1) (k := 4) (fun i hi => hf i (by omega))).1
          have hnx : ((rdP f (k' + 1) + 1 : Nat) : Int) + 4 + partV f ((rdP f (k' + 1) + 1 : Nat) : Int) = ((rdP f ((k' + 1) + 1) : Nat) : Int) := by
            rw [show rdP f ((k' + 1) + 1) = rdP f (k' + 1) + 5 + (partV f ((rdP f (k' + 1) + 1 : Nat) : Int)).toNat from rfl, partV_eq]
            omega
          have hax : IntKind.i64.wrap (f (rdP f (k' + 1))) = (rdBk f).A (k' + 1) := by
            have := hf (rdP f (k' + 1)) h2
            rw [w64 (by omega) (by omega)]; rfl
          refine ⟨q - 1, [(0, .vsl 1 n cap (bytesG f)), (2, .ptr 0 0 0), (3, .ptr 1 0 0), (5, .ptr 2 0 0), (6, .ptr 3 0 0), (7, .int .i64 (rdP f ((k' + 1) + 1) : Nat)), (8, .int .i64 (((k' + 1) + 1 : Nat) : Int))], [some ⟨1, 32, fun _ _ => .un⟩, some ⟨4, 1, fun _ _ => .un⟩, some ⟨1, 32, bytesG fun i => f (8 + i)⟩, some ⟨4, 1, lstG 4 (bkL 0 (getV f 0 4) (getV f 4 4) (.sl 7 0 ((k' + 1) + 1) cap3))⟩, none, none, none, some ⟨2, (k' + 1) + 1, txG (rdBk f).A (rdBk f).N (fun i => if i = (k' + 1) then pc else D i) (rdBk f).F⟩],
            [some ⟨1, 32, fun _ _ => .un⟩, some ⟨4, 1, fun _ _ => .un⟩, some ⟨1, 32, bytesG fun i => f (8 + i)⟩, some ⟨4, 1, lstG 4 (bkL 0 (getV f 0 4) (getV f 4 4) (.sl 4 0 ((k' + 1) + 1) cap3))⟩, some ⟨2, (k' + 1) + 1, txG (rdBk f).A (rdBk f).N (fun i => if i = (k' + 1) then pc else D i) (rdBk f).F⟩], [some 0, some 1, some 2, some 3, some 7], by omega, ⟨(k' + 1) + 1, by omega, fun j hj => ?_, rfl, .inr ⟨(k' + 1), cap3, _, rfl, rfl⟩⟩, ?_, ?_⟩
          · by_cases hjk : j = (k' + 1)
            · rw [hjk]; exact ⟨h2, hk⟩
            · exact hok j (by omega)
          · refine .step 5 ⟨1, (rdBk f).N (k' + 1), bytesG ((rdBk f).F (k' + 1))⟩ _ _ _ rfl (.c (.inr ⟨by decide, _, ⟨1, 32, fun _ _ => .un⟩, rfl, rfl, rfl, Nat.le_refl _, fun i j _ _ => .inr (.inl rfl)⟩) (.c (.inr ⟨by decide, _, ⟨4, 1, fun _ _ => .un⟩, rfl, rfl, rfl, Nat.le_refl _, fun i j _ _ => .inr (.inl rfl)⟩) (.c (.inr ⟨by decide, _, ⟨1, 32, bytesG fun i => f (8 + i)⟩, rfl, rfl, rfl, Nat.le_refl _, fun i j _ _ => .inl rfl⟩) (.c (.inr ⟨by decide, _, ⟨4, 1, lstG 4 (bkL 0 (getV f 0 4) (getV f 4 4) (.sl 7 0 ((k' + 1) + 1) cap3))⟩, rfl, rfl, rfl, Nat.le_refl _, fun i j _ _ => .inl rfl⟩) (.c (.inl rfl) (.c (.inl rfl) (.c (.inl rfl) (.c (.inr ⟨by decide, _, ⟨2, (k' + 1) + 1, txG (rdBk f).A (rdBk f).N (fun i => if i = (k' + 1) then pc else D i) (rdBk f).F⟩, rfl, rfl, rfl, Nat.le_refl _, fun i j hi hj => ?_⟩) .n)))))))) (.refl _)
            have hi : i < (k' + 1) + 1 := hi
            have hj : j < 2 := hj
            refine tx_fz (D := D) hi hj (fun h => ?_) (fun h => ?_)
            · dsimp only
              rw [catG_ge (by omega), h, Nat.sub_self]
              rcases (show j = 0 ∨ j = 1 by omega) with rfl | rfl
              · exact congrArg (AV.int .i64) hax
              · rfl
            · dsimp only
              first
                | (exfalso; omega)
                | rw [catG_lt (by omega)]
          · exact .mk0 ⟨.eq _ _ rfl (flat_bV rfl), .ptr _ _ _ _ rfl, .ptr _ _ _ _ rfl, .ptr _ _ _ _ rfl, .ptr _ _ _ _ rfl, Flat.i hnx, Flat.i e5, trivial⟩ ⟨.old 0 0 _ _ rfl rfl ⟨rfl, Nat.le_refl _, fun i j hi hj => .un _⟩, .old 1 1 _ _ rfl rfl ⟨rfl, Nat.le_refl _, fun i j hi hj => .un _⟩, .old 2 2 _ _ rfl rfl ⟨rfl, Nat.le_refl _, fun i j hi hj => .eq _ _ rfl (.int _ _)⟩, .old 3 3 _ _ rfl rfl ⟨rfl, Nat.le_refl _, fun i j hi hj => bk_sl rfl hi hj⟩, .old 4 7 _ _ rfl rfl ⟨rfl, Nat.le_refl _, fun i j hi hj => .eq _ _ rfl (by dsimp only; exact flat_txG)⟩, trivial⟩ rfl rfl
      · have hb : T = (k' + 1) := by
          have this : ¬ (((k' + 1) : Nat) : Int) < IntKind.i64.wrap (f 40) := of_decide_eq_false hb
          rw [e40] at this
          omega
        have ht0 : (rdBk f).t = (k' + 1) := hTn.trans hb
        conv => whnf
        repeat (refine ⟨⟨_, rfl⟩, ?_⟩; conv => whnf)
        refine condB_mk (fun he => ?_) (fun he => ?_)
        rotate_left
        · have he : ¬ ((rdP f (k' + 1) : Nat) : Int) = (n : Int) := by simpa using he
          conv => whnf
          repeat (refine ⟨⟨_, rfl⟩, ?_⟩; conv => whnf)
          exact .inr ⟨fun h => he (by have := h.2.2.1; rw [hTn, hb] at this; rw [this]), tup3 (outRow2 (s := fun _ => 0) rfl).1 rfl⟩
        have he : rdP f (k' + 1) = n := by
          have : ((rdP f (k' + 1) : Nat) : Int) = (n : Int) := by simpa using he
          omega
        conv => whnf
        repeat (refine ⟨⟨_, rfl⟩, ?_⟩; conv => whnf)
        refine S_rbCheck (b := rdBk f) (x := (.sl 4 0 (k' + 1) cc)) (bkA_at rfl) (by rw [ht0]; first | exact .nils | exact .own rfl (Nat.le_refl _)) (by rw [ht0]; omega) (fun e hE => ?_)
        conv => whnf
        repeat (refine ⟨⟨_, rfl⟩, ?_⟩; conv => whnf)
        refine condB_mk (fun h0 => ?_) (fun h0 => ?_)
        · have h0 : e ≠ 0 := by simpa using h0
          conv => whnf
          repeat (refine ⟨⟨_, rfl⟩, ?_⟩; conv => whnf)
          exact .inr ⟨fun h => h0 (hE.trans h.2.2.2), tup3 (outRow2 (s := fun _ => 0) rfl).1 rfl⟩
        have h0 : e = 0 := by simpa using h0
        conv => whnf
        repeat (refine ⟨⟨_, rfl⟩, ?_⟩; conv => whnf)
        exact .inl ⟨⟨h41, by rw [hTn, hb]; exact hok, by rw [hTn, hb]; exact he, hE.symm.trans h0⟩, (.sl 4 0 (k' + 1) cc), tup3 (outRow2 (s := fun i => f (8 + i)) rfl).1 rfl, by first | exact .inl ⟨rfl, ht0⟩ | exact .inr ⟨4, cc, D, by rw [ht0], by rw [ht0]; rfl⟩⟩
theorem S_rRead {m : Mem} {K : AV → Mem → Prop} {n cap : Nat} (f : Nat → Int) (hn : n ≤ 1000000) (hf : ∀ i, i < n → 0 ≤ f i ∧ f i ≤ 255)
    (h0 : rdGood n f → ∀ c D, memK (m ++ [some ⟨2, (rdBk f).t, txG (rdBk f).A (rdBk f).N D (rdBk f).F⟩]) (K (.tup [.agg (rowL fun i => f (8 + i)), bkA 0 (rdBk f).h (rdBk f).s (.sl m.length 0 (rdBk f).t c), .bool true])))
    (h1 : ¬ rdGood n f → K (.tup [.agg (rowL fun _ => 0), bkA 0 0 0 .nils, .bool false]) m) : ACall Pg F_witanref16_Read [.vsl 1 n cap (bytesG f)] m K := by
  simp only [memK_eq] at h0
  refine (S_rRead0 n cap f hn hf).frame0 false [] (fun _ => rfl) (.cons _ _ _ _ (lend_flat (flat_bV rfl)) .nil) (fun v m' hv => ?_)
  rcases hv with ⟨hgood, x, rfl, hx⟩ | ⟨hbad, rfl⟩
  · rcases hx with ⟨rfl, ht⟩ | ⟨l, c, D, rfl, g1⟩
    · refine ⟨.tup [.agg (rowL fun i => f (8 + i)), bkA 0 (rdBk f).h (rdBk f).s (.sl m.length 0 (rdBk f).t 0), .bool true], [some ⟨2, (rdBk f).t, txG (rdBk f).A (rdBk f).N (fun _ => 0) (rdBk f).F⟩], [none], Nat.le_refl _, fun i j q hi => by cases i <;> simp at hi, .tup _ _ (.cons _ _ _ _ (.eq _ _ rfl flat_rowA) (.cons _ _ _ _ (.agg _ _ (.cons _ _ _ _ (.eq _ _ rfl (.int _ _)) (.cons _ _ _ _ (.eq _ _ rfl (.int _ _)) (.cons _ _ _ _ (.eq _ _ rfl (.int _ _)) (.cons _ _ _ _ (by rw [ht]; exact .nils _ _) .nil))))) (.cons _ _ _ _ (.eq _ _ rfl (.bool _)) .nil))), ⟨?_, trivial⟩, h0 hgood 0 _⟩
      rw [ht]
      exact .ph _ _ _ (by simp [shiftT])
    · refine ⟨.tup [.agg (rowL fun i => f (8 + i)), bkA 0 (rdBk f).h (rdBk f).s (.sl m.length 0 (rdBk f).t c), .bool true], [some ⟨2, (rdBk f).t, txG (rdBk f).A (rdBk f).N D (rdBk f).F⟩], [some l], Nat.le_refl _, fun i j q hi hj => ?_, .tup _ _ (.cons _ _ _ _ (.eq _ _ rfl flat_rowA) (.cons _ _ _ _ (.agg _ _ (.cons _ _ _ _ (.eq _ _ rfl (.int _ _)) (.cons _ _ _ _ (.eq _ _ rfl (.int _ _)) (.cons _ _ _ _ (.eq _ _ rfl (.int _ _)) (.cons _ _ _ _ (.sl _ _ _ _ _ (by simp [shiftT])) .nil))))) (.cons _ _ _ _ (.eq _ _ rfl (.bool _)) .nil))), ⟨.old _ l _ _ (by simp [shiftT]) g1 ⟨rfl, Nat.le_refl _, fun i j hi hj => .eq _ _ rfl flat_txG⟩, trivial⟩, h0 hgood c D⟩
      cases i <;> cases j <;> simp at hi hj; rfl
  · exact ⟨_, [], [], Nat.le_refl _, fun i j q hi => by simp at hi, .eq _ _ rfl (.tup _ (.cons _ _ flat_rowA (.cons _ _ (flat_bkA .nils) (.cons _ _ (.bool _) .nil)))), trivial, by rw [List.append_nil]; exact h1 hbad⟩
end Go.Proofs.Ytjflfecdeicccaa
end

section
/- Arrays of 32 bytes, compared and opened; no condition. -/
set_option linter.unusedVariables false
set_option linter.unusedSimpArgs false
set_option maxRecDepth 100000
namespace Go.Proofs.Ytjflfecdeicccaa
open Go Go.Wit

def eqR (f g : Nat → Int) : Bool := (f 0 == g 0 && (f 1 == g 1 && (f 2 == g 2 && (f 3 == g 3 && (f 4 == g 4 && (f 5 == g 5 && (f 6 == g 6 && (f 7 == g 7 && (f 8 == g 8 && (f 9 == g 9 && (f 10 == g 10 && (f 11 == g 11 && (f 12 == g 12 && (f 13 == g 13 && (f 14 == g 14 && (f 15 == g 15 && (f 16 == g 16 && (f 17 == g 17 && (f 18 == g 18 && (f 19 == g 19 && (f 20 == g 20 && (f 21 == g 21 && (f 22 == g 22 && (f 23 == g 23 && (f 24 == g 24 && (f 25 == g 25 && (f 26 == g 26 && (f 27 == g 27 && (f 28 == g 28 && (f 29 == g 29 && (f 30 == g 30 && (f 31 == g 31 && true))))))))))))))))))))))))))))))))
theorem eqR_refl {f : Nat → Int} : eqR f f = true := by simp [eqR]
theorem eqR_iff {f g : Nat → Int} : eqR f g = true ↔ ∀ i, i < 32 → f i = g i := by
  constructor
  · intro h
    simp only [eqR, Bool.and_eq_true, beq_iff_eq, and_true] at h
    intro i hi
    have : i = 0 ∨ i = 1 ∨ i = 2 ∨ i = 3 ∨ i = 4 ∨ i = 5 ∨ i = 6 ∨ i = 7 ∨ i = 8 ∨ i = 9 ∨ i = 10 ∨ i = 11 ∨ i = 12 ∨ i = 13 ∨ i = 14 ∨ i = 15 ∨ i = 16 ∨ i = 17 ∨ i = 18 ∨ i = 19 ∨ i = 20 ∨ i = 21 ∨ i = 22 ∨ i = 23 ∨ i = 24 ∨ i = 25 ∨ i = 26 ∨ i = 27 ∨ i = 28 ∨ i = 29 ∨ i = 30 ∨ i = 31 := by omega
    rcases this with rfl | rfl | rfl | rfl | rfl | rfl | rfl | rfl | rfl | rfl | rfl | rfl | rfl | rfl | rfl | rfl | rfl | rfl | rfl | rfl | rfl | rfl | rfl | rfl | rfl | rfl | rfl | rfl | rfl | rfl | rfl | rfl
    all_goals simp [h]
  · intro h
    unfold eqR
    rw [h 0 (by decide), h 1 (by decide), h 2 (by decide), h 3 (by decide), h 4 (by decide), h 5 (by decide), h 6 (by decide), h 7 (by decide), h 8 (by decide), h 9 (by decide), h 10 (by decide), h 11 (by decide), h 12 (by decide), h 13 (by decide), h 14 (by decide), h 15 (by decide), h 16 (by decide), h 17 (by decide), h 18 (by decide), h 19 (by decide), h 20 (by decide), h 21 (by decide), h 22 (by decide), h 23 (by decide), h 24 (by decide), h 25 (by decide), h 26 (by decide), h 27 (by decide), h 28 (by decide), h 29 (by decide), h 30 (by decide), h 31 (by decide)]
    simp
def t32 : Ty := .arr 32 (.int .u8)
theorem ok_cells32 {cs : List AV} (h : okC t32 cs) : ∃ f : Nat → Int, cs = rowL f ∧ ∀ i, i < 32 → 0 ≤ f i ∧ f i ≤ 255 := by
  unfold t32 at h
  unfold okC at h
  obtain ⟨hl, hc⟩ := h
  have key : ∀ i, i < 32 → ∃ n : Int, cs[i]? = some (.int .u8 n) ∧ 0 ≤ n ∧ n ≤ 255 := fun i hi => by
    have := hc i hi
    unfold okC at this
    obtain ⟨n, e, h1, h2⟩ := this
    refine ⟨n, ?_, h1, h2⟩
    have e2 : ((cs.drop (i * 1)).take 1)[0]? = some (.int .u8 n) := by
      have e3 : (cs.drop (i * 1)).take 1 = [.int .u8 n] := e
      rw [e3]; rfl
    simpa [List.getElem?_take, List.getElem?_drop] using e2
  have hl2 : cs.length = 32 := hl
  classical
  refine ⟨fun i => if h : i < 32 then (key i h).choose else 0, ?_, fun i hi => ?_⟩
  · refine List.ext_getElem? fun i => ?_
    by_cases hi : i < 32
    · rw [(key i hi).choose_spec.1]
      unfold rowL
      rw [List.getElem?_map, List.getElem?_range hi]
      simp [hi]
    · rw [List.getElem?_eq_none (by omega), List.getElem?_eq_none (by unfold rowL; simp; omega)]
  · simp only [dif_pos hi]; exact (key i hi).choose_spec.2
end Go.Proofs.Ytjflfecdeicccaa
end

section
/- Blocks as they are handed to a law; no condition. -/
set_option linter.unusedVariables false
set_option linter.unusedSimpArgs false
set_option maxRecDepth 100000
set_option pp.maxSteps 3000
set_option pp.deepTerms false
set_option pp.deepTerms.threshold 7
namespace Go.Proofs.Ytjflfecdeicccaa
open Go Go.Wit

abbrev tTx : Ty := .st [.int .i64, .sl 1 (.int .u8)]
abbrev tBlock : Ty := .st [.int .i64, .int .i64, .int .i64, .sl 2 tTx]
theorem ok_cellsTx {cs : List AV} (h : okC tTx cs) : ∃ (p : Int × Nat × Nat × (Nat → Int)), Retold cs (txL p.1 p.2.1 p.2.2.1 p.2.2.2) ∧ p.2.1 ≤ Go.maxLen ∧ ∀ j, j < p.2.1 → 0 ≤ p.2.2.2 j ∧ p.2.2.2 j ≤ 255 := by
  unfold okC at h
  unfold okCs at h
  obtain ⟨_, _, rfl, _, ha, h⟩ := h
  unfold okC at ha
  obtain ⟨a, rfl, _⟩ := ha
  unfold okCs at h
  obtain ⟨a1, _, rfl, hl1, hs, h⟩ := h
  obtain ⟨sl, rfl⟩ : ∃ sl, a1 = [sl] := by
    match a1, hl1 with
    | [s], _ => exact ⟨s, rfl⟩
  obtain ⟨n, c, f, r, n1, n2, bf⟩ := ok_bytes (av := sl) (by simpa only [okV] using hs)
  unfold okCs at h
  subst h
  have rr : ∀ l : List AV, Retold l l := fun l _ _ _ _ h => h
  exact ⟨(a, n, c, f), (rr [.int .i64 a]).append ((Retold.cons r .nil).append (rr [])), Nat.le_trans n1 n2, bf⟩
theorem ok_txs {av : AV} (h : okV (.sl 2 tTx) av) : ∃ (t cap : Nat) (A : Nat → Int) (N C : Nat → Nat) (F : Nat → Nat → Int), Retold1 av (.vsl 2 t cap (txG A N C F)) ∧ t ≤ cap ∧ cap ≤ Go.maxLen ∧ ∀ k, k < t → N k ≤ Go.maxLen ∧ ∀ j, j < N k → 0 ≤ F k j ∧ F k j ≤ 255 := by
  simp only [okV] at h
  unfold okC at h
  obtain ⟨n, cap, get, he, h1, h2, h3⟩ := h
  obtain rfl := List.head_eq_of_cons_eq he
  classical
  have sp : ∀ i, i < n → ∃ p : Int × Nat × Nat × (Nat → Int), Retold ((List.range 2).map (get i)) (txL p.1 p.2.1 p.2.2.1 p.2.2.2) ∧ p.2.1 ≤ Go.maxLen ∧ ∀ j, j < p.2.1 → 0 ≤ p.2.2.2 j ∧ p.2.2.2 j ≤ 255 := fun i hi => ok_cellsTx (h3 i hi)
  refine ⟨n, cap, fun i => if hi : i < n then (sp i hi).choose.1 else 0, fun i => if hi : i < n then (sp i hi).choose.2.1 else 0, fun i => if hi : i < n then (sp i hi).choose.2.2.1 else 0, fun i => if hi : i < n then (sp i hi).choose.2.2.2 else fun _ => 0, ?_, h1, h2, fun i hi => ?_⟩
  · intro H L O v hv
    cases hv with
    | vsl0 _ _ a => exact .vsl0 _ _ a
    | vsl _ _ _ _ b o vals g0 g1 g2 =>
      refine .vsl _ _ _ _ b o vals g0 g1 (fun i j hi hj => ?_)
      have r := (sp i hi).choose_spec.1
      have vr := r H L O ((List.range 2).map (vals i)) (VRs.of_get (by simp) (fun j c hc => by
        by_cases hj : j < 2
        · have e : vals i j = c := by simpa [hj] using hc
          have e2 : ((List.range 2).map (get i)).getD j .un = get i j := by simp [List.getD_eq_getElem?_getD, hj]
          rw [e2, ← e]; exact g2 i j hi hj
        · simp [hj] at hc))
      obtain ⟨c, e1, e2⟩ := vr.get j hj
      have e : vals i j = c := by simpa [hj] using e1
      rw [← e] at e2
      unfold txG
      simp only [dif_pos hi]
      exact e2
  · simp only [dif_pos hi]; exact (sp i hi).choose_spec.2
/-- What can stand in a block that is handed in. -/
structure BkZ (b : Bk) : Prop where
  p : -9223372036854775808 ≤ b.p ∧ b.p ≤ 9223372036854775807
  t : b.t ≤ Go.maxLen
  N : ∀ k, k < b.t → b.N k ≤ Go.maxLen
  F : ∀ k, k < b.t → ∀ j, j < b.N k → 0 ≤ b.F k j ∧ b.F k j ≤ 255
theorem ok_block {av : AV} (h : okV tBlock av) : ∃ (b : Bk) (cap : Nat) (C : Nat → Nat), Retold1 av (bkA b.p b.h b.s (.vsl 2 b.t cap (txG b.A b.N C b.F))) ∧ BkZ b := by
  obtain ⟨cs, rfl, h⟩ := h
  unfold okC at h
  unfold okCs at h
  obtain ⟨_, _, rfl, _, ha, h⟩ := h
  unfold okC at ha
  obtain ⟨p, rfl, hp1, hp2⟩ := ha
  unfold okCs at h
  obtain ⟨_, _, rfl, _, ha, h⟩ := h
  unfold okC at ha
  obtain ⟨hh, rfl, _⟩ := ha
  unfold okCs at h
  obtain ⟨_, _, rfl, _, ha, h⟩ := h
  unfold okC at ha
  obtain ⟨s, rfl, _⟩ := ha
  unfold okCs at h
  obtain ⟨a1, _, rfl, hl1, hs, h⟩ := h
  obtain ⟨sl, rfl⟩ : ∃ sl, a1 = [sl] := by
    match a1, hl1 with
    | [s], _ => exact ⟨s, rfl⟩
  obtain ⟨t, cap, A, N, C, F, r, n1, n2, bN⟩ := ok_txs (av := sl) (by simpa only [okV] using hs)
  unfold okCs at h
  subst h
  have rr : ∀ l : List AV, Retold l l := fun l _ _ _ _ h => h
  refine ⟨⟨p, hh, s, t, A, N, F⟩, cap, C, Retold1.agg ?_, ⟨hp1, hp2⟩, Nat.le_trans n1 n2, fun k hk => (bN k hk).1, fun k hk => (bN k hk).2⟩
  show Retold _ ([.int .i64 p] ++ ([.int .i64 hh] ++ ([.int .i64 s] ++ ([.vsl 2 t cap (txG A N C F)] ++ []))))
  exact (rr _).append ((rr _).append ((rr _).append ((Retold.cons r .nil).append (rr _))))
theorem ok_arr32 {av : AV} (h : okV t32 av) : ∃ f : Nat → Int, av = .agg (rowL f) ∧ ∀ i, i < 32 → 0 ≤ f i ∧ f i ≤ 255 := by
  obtain ⟨cs, rfl, h⟩ := h
  obtain ⟨f, rfl, hf⟩ := ok_cells32 h
  exact ⟨f, rfl, hf⟩
def wkB : Bk := ⟨-1, 1, 0, 0, fun _ => 0, fun _ => 0, fun _ _ => 0⟩
def wkQ : Nat → Int := fun i => if i = 0 then 1 else 0
theorem wk_ok : bkE wkB = 0 := bkE_of ⟨by decide, by decide, by decide, fun k hk => absurd hk (Nat.not_lt_zero _), fun k hk => absurd hk (Nat.not_lt_zero _)⟩ (by decide)
theorem wk_3 : bkF wkB wkQ wkB.t 3 = 1 := by decide
theorem wk_8 : bkF wkB wkQ wkB.t 8 = 1 := by decide
theorem S_wakes16 {m : Mem} {K : AV → Mem → Prop} (h : K (.bool true) m) : ACall Pg F_witanlaw16_wakes [] m K := by
  have h0 : ACall Pg F_witanlaw16_wakes [] [] (fun v _ => v = .bool true ∧ Flat true v) := by
    refine B_witanlaw16_wakes ⟨rfl, ?_⟩
    conv => whnf
    repeat (refine ⟨⟨_, rfl⟩, ?_⟩; conv => whnf)
    refine S_bBytes (b := wkB) (q := wkQ) (x := .nils) rfl rfl ShowsT.nils (by decide) (fun _ cap n f hn hf => ?_) (fun e he he0 => absurd (he.trans wk_ok) he0)
    have h3 : f 3 = 1 := by rw [hf]; exact wk_3
    have h8 : f 8 = 1 := by rw [hf]; exact wk_8
    have hn : n = 41 := hn
    subst hn
    clear hf
    conv => whnf
    repeat (refine ⟨⟨_, rfl⟩, ?_⟩; conv => whnf)
    refine condB_yes (by show ((f 3 == 1) == true) = true; rw [h3]; rfl) ?_
    conv => whnf
    repeat (refine ⟨⟨_, rfl⟩, ?_⟩; conv => whnf)
    refine ⟨?_, .bool _⟩
    show AV.bool (f 8 == 1) = _
    rw [h8]; rfl
  refine lift_flat h0 .nil ?_
  rintro v rfl
  exact h
end Go.Proofs.Ytjflfecdeicccaa
end

