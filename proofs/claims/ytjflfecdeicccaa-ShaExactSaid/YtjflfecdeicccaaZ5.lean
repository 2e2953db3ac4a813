/- Texts of a proof, one behind the other; the last of these: The sum of the text abc; no condition. -/
import Derived.Test.YtjflfecdeicccaaZ4
section
/- The reference sum; no condition. -/
set_option linter.unusedVariables false
set_option linter.unusedSimpArgs false
set_option maxRecDepth 100000
set_option pp.maxSteps 300
namespace Go.Proofs.Ytjflfecdeicccaa
open Go Go.Wit

theorem updU {nv : Bool} {σ : Nat → Option Nat} {w w' : Nat → Int} {N k x y : Nat} {v : Int} {A : AV} (hy : y < 1) (hA : A = updG ⟨1, N, u32G w⟩ k 0 1 [.int .u32 v] x y) (h1 : v = w' k) (h2 : ∀ i, i ≠ k → w' i = w i) : RV nv σ A (u32G w' x y) := by
  subst hA
  obtain rfl : y = 0 := by omega
  have : updG ⟨1, N, u32G w⟩ k 0 1 [.int .u32 v] x 0 = u32G w' x 0 := by
    rw [updG_one]
    by_cases h : x = k
    · rw [if_pos h, h, h1]; rfl
    · rw [if_neg h]; simp only [u32G, h2 x h]
  rw [this]; exact .eq _ _ rfl (.int _ _)

theorem addSwap (a c s t : Int) : addU (addU (addU a c) s) t = addU (addU (addU a s) c) t := by
  simp only [addU, wu32]
  omega

theorem or_byte32 {a b : Int} (ha : 0 ≤ a ∧ a < 16777216) (hb : 0 ≤ b ∧ b ≤ 255) : bitsV .or .u32 (a * 256) b = a * 256 + b := by
  obtain ⟨A, rfl⟩ : ∃ A : Nat, a = A := ⟨a.toNat, by omega⟩
  obtain ⟨B, rfl⟩ : ∃ B : Nat, b = B := ⟨b.toNat, by omega⟩
  have h1 : BitVec.ofInt 32 ((A : Int) * 256) = BitVec.ofNat 32 (256 * A) := by
    rw [show ((A : Int) * 256) = ((256 * A : Nat) : Int) by omega, BitVec.ofInt_natCast]
  have h2 : BitVec.ofInt 32 (B : Int) = BitVec.ofNat 32 B := BitVec.ofInt_natCast _ _
  show IntKind.u32.wrap ((BitVec.ofInt 32 ((A : Int) * 256) ||| BitVec.ofInt 32 (B : Int)).toNat) = _
  rw [h1, h2, BitVec.toNat_or, BitVec.toNat_ofNat, BitVec.toNat_ofNat, Nat.mod_eq_of_lt (by omega), Nat.mod_eq_of_lt (by omega)]
  have h3 := Nat.two_pow_add_eq_or_of_lt (i := 8) (b := B) (by omega) A
  rw [show (256 : Nat) = 2 ^ 8 from rfl, ← h3, wu32]
  omega

theorem gatherV {B : Nat → Int} {p i : Nat} (hB : ∀ i, 0 ≤ B i ∧ B i ≤ 255) (hi : i < 4) : bitsV .or .u32 (IntKind.u32.wrap (getV B p i * 2 ^ 8)) (IntKind.u32.wrap (B (p + i))) = getV B p (i + 1) := by
  obtain ⟨g1, g2⟩ := getV_lt (f := B) (p := p) (k := i) (fun i _ => hB _)
  have g3 : (256 : Int) ^ i ≤ 256 ^ 3 := by
    have : 256 ^ i ≤ 256 ^ 3 := Nat.pow_le_pow_right (by omega) (by omega)
    exact_mod_cast this
  have g4 := hB (p + i)
  rw [show IntKind.u32.wrap (B (p + i)) = B (p + i) by rw [wu32]; omega, show IntKind.u32.wrap (getV B p i * 2 ^ 8) = getV B p i * 256 by rw [wu32]; omega, or_byte32 (by omega) g4, getV]

set_option maxHeartbeats 4000000 in
theorem S_Sum2560 (n cap : Nat) (f : Nat → Int) (hn : n ≤ 1000000) (hf : ∀ i, i < n → 0 ≤ f i ∧ f i ≤ 255) : ACall Pg F_witanref04_Sum256 [.vsl 1 n cap (bytesG f)] [] (fun v _ => v = .agg (sumL n f) ∧ Flat true v) := by
  obtain ⟨p1, p2, p3⟩ := padN_ge n
  refine B_witanref04_Sum256 ⟨rfl, ?_⟩
  conv => whnf
  refine S_k256R ?_
  generalize hkt : kTab = kt
  conv => whnf
  refine S_refPaddedC (f := f) Shows.vsl hn (fun capp hcapp => ?_)
  conv => whnf
  have hb := padF_lt hf
  generalize hB : padF n f = b at *
  refine loop_wk mixed (I := fun q l m => ∃ (j : Nat), l = [(2, .ptr 0 0 0), (3, .ptr 1 0 0), (4, .ptr 2 0 0), (5, .sl 3 0 (padN n) (capp + 1)), (6, .int .i64 ((64 * j : Nat) : Int))] ∧ m = [some ⟨1, 32, fun _ _ => .int .u8 0⟩, some ⟨1, 64, u32G kt⟩, some ⟨1, 8, u32G (Hn b j)⟩, some ⟨1, padN n, bytesG b⟩] ∧ q + j = padN n / 64) (padN n / 64)
    (l0 := [(2, .ptr 0 0 0), (3, .ptr 1 0 0), (4, .ptr 2 0 0), (5, .sl 3 0 (padN n) (capp + 1)), (6, .int .i64 ((64 * 0 : Nat) : Int))]) (m0 := [some ⟨1, 32, fun _ _ => .int .u8 0⟩, some ⟨1, 64, u32G kt⟩, some ⟨1, 8, u32G hTab⟩, some ⟨1, padN n, bytesG b⟩]) [some 0, some 1, some 2, some 3] ⟨0, rfl, rfl, by omega⟩ ?_ ?_
  · refine .mk0 ⟨.ptr _ _ _ _ rfl, .ptr _ _ _ _ rfl, .ptr _ _ _ _ rfl, .sl _ _ _ _ _ rfl, Flat.i rfl, trivial⟩ ⟨.old 0 0 _ _ rfl rfl ⟨rfl, Nat.le_refl _, fun i j hi hj => oneU0 hj rfl⟩, .old 1 1 _ _ rfl rfl ⟨rfl, Nat.le_refl _, fun i j hi hj => kRow hi hj rfl⟩,
      .old 2 2 _ _ rfl rfl ⟨rfl, Nat.le_refl _, fun i j hi hj => ?_⟩, .old 3 3 _ _ rfl rfl ⟨rfl, Nat.le_refl _, fun i j hi hj => .eq _ _ rfl (.int _ _)⟩, trivial⟩ rfl rfl
    exact eight hi hj rfl rfl rfl rfl rfl rfl rfl rfl
  · rintro q l m ⟨j, rfl, rfl, hq⟩
    conv => whnf
    refine condB_mk (fun hc => ?_) (fun hc => ?_)
    · have hc : 64 * j < padN n := by simp at hc; omega
      conv => whnf
      have hj : j < padN n / 64 := by omega
      generalize hH : Hn b j = h
      refine loop_wk mixed (I := fun q' l m => ∃ (k : Nat), l = [(2, .ptr 0 0 0), (3, .ptr 1 0 0), (4, .ptr 2 0 0), (5, .sl 3 0 (padN n) (capp + 1)), (6, .int .i64 ((64 * j : Nat) : Int)), (7, .ptr 4 0 0), (8, .int .i64 k)] ∧
          m = [some ⟨1, 32, fun _ _ => .int .u8 0⟩, some ⟨1, 64, u32G kt⟩, some ⟨1, 8, u32G h⟩, some ⟨1, padN n, bytesG b⟩, some ⟨1, 64, u32G (Wn (blkB b j) k)⟩] ∧ q' + k = 64) 64
        (l0 := [(2, .ptr 0 0 0), (3, .ptr 1 0 0), (4, .ptr 2 0 0), (5, .sl 3 0 (padN n) (capp + 1)), (6, .int .i64 ((64 * j : Nat) : Int)), (7, .ptr 4 0 0), (8, .int .i64 (0 : Nat))])
        (m0 := [some ⟨1, 32, fun _ _ => .int .u8 0⟩, some ⟨1, 64, u32G kt⟩, some ⟨1, 8, u32G h⟩, some ⟨1, padN n, bytesG b⟩, some ⟨1, 64, u32G (Wn (blkB b j) 0)⟩]) [some 0, some 1, some 2, some 3, some 4] ⟨0, rfl, rfl, rfl⟩ ?_ ?_
      · refine .mk0 ⟨.ptr _ _ _ _ rfl, .ptr _ _ _ _ rfl, .ptr _ _ _ _ rfl, .sl _ _ _ _ _ rfl, Flat.i rfl, .ptr _ _ _ _ rfl, Flat.i rfl, trivial⟩ ⟨.old 0 0 _ _ rfl rfl ⟨rfl, Nat.le_refl _, fun i j hi hj => .eq _ _ rfl (.int _ _)⟩, .old 1 1 _ _ rfl rfl ⟨rfl, Nat.le_refl _, fun i j hi hj => .eq _ _ rfl (.int _ _)⟩, .old 2 2 _ _ rfl rfl ⟨rfl, Nat.le_refl _, fun i j hi hj => .eq _ _ rfl (.int _ _)⟩, .old 3 3 _ _ rfl rfl ⟨rfl, Nat.le_refl _, fun i j hi hj => .eq _ _ rfl (.int _ _)⟩, .old 4 4 _ _ rfl rfl ⟨rfl, Nat.le_refl _, fun i j hi hj => ?_⟩, trivial⟩ rfl rfl
        have hj : j < 1 := hj
        obtain rfl : j = 0 := by omega
        exact .eq _ _ rfl (.int _ _)
      · rintro q' l m ⟨k, rfl, rfl, hk⟩
        conv => whnf
        refine condB_mk (fun hc => ?_) (fun hc => ?_)
        · have hc : k < 64 := by simp at hc; omega
          conv => whnf
          refine condB_mk (fun hd => ?_) (fun hd => ?_)
          · have hd : k < 16 := by simp at hd; omega
            conv => whnf
            refine loop_wk mixed (I := fun q2 l m => ∃ (i : Nat), l = [(2, .ptr 0 0 0), (3, .ptr 1 0 0), (4, .ptr 2 0 0), (5, .sl 3 0 (padN n) (capp + 1)), (6, .int .i64 ((64 * j : Nat) : Int)), (7, .ptr 4 0 0), (8, .int .i64 k), (9, .int .i64 i)] ∧
                m = [some ⟨1, 32, fun _ _ => .int .u8 0⟩, some ⟨1, 64, u32G kt⟩, some ⟨1, 8, u32G h⟩, some ⟨1, padN n, bytesG b⟩, some ⟨1, 64, u32G (fun x => if x = k then getV (blkB b j) (4 * k) i else Wn (blkB b j) k x)⟩] ∧ q2 + i = 4) 4
              (l0 := [(2, .ptr 0 0 0), (3, .ptr 1 0 0), (4, .ptr 2 0 0), (5, .sl 3 0 (padN n) (capp + 1)), (6, .int .i64 ((64 * j : Nat) : Int)), (7, .ptr 4 0 0), (8, .int .i64 k), (9, .int .i64 (0 : Nat))])
              (m0 := [some ⟨1, 32, fun _ _ => .int .u8 0⟩, some ⟨1, 64, u32G kt⟩, some ⟨1, 8, u32G h⟩, some ⟨1, padN n, bytesG b⟩, some ⟨1, 64, u32G (fun x => if x = k then getV (blkB b j) (4 * k) 0 else Wn (blkB b j) k x)⟩]) [some 0, some 1, some 2, some 3, some 4] ⟨0, rfl, rfl, rfl⟩ ?_ ?_
            · refine .mk0 ⟨.ptr _ _ _ _ rfl, .ptr _ _ _ _ rfl, .ptr _ _ _ _ rfl, .sl _ _ _ _ _ rfl, Flat.i rfl, .ptr _ _ _ _ rfl, Flat.i rfl, Flat.i rfl, trivial⟩ ⟨.old 0 0 _ _ rfl rfl ⟨rfl, Nat.le_refl _, fun i j hi hj => .eq _ _ rfl (.int _ _)⟩, .old 1 1 _ _ rfl rfl ⟨rfl, Nat.le_refl _, fun i j hi hj => .eq _ _ rfl (.int _ _)⟩, .old 2 2 _ _ rfl rfl ⟨rfl, Nat.le_refl _, fun i j hi hj => .eq _ _ rfl (.int _ _)⟩, .old 3 3 _ _ rfl rfl ⟨rfl, Nat.le_refl _, fun i j hi hj => .eq _ _ rfl (.int _ _)⟩, .old 4 4 _ _ rfl rfl ⟨rfl, Nat.le_refl _, fun x y hx hy => ?_⟩, trivial⟩ rfl rfl
              have e : Wn (blkB b j) k k = 0 := Wn_ge _ k k (Nat.le_refl _)
              refine .eq _ _ ?_ (.int _ _)
              simp only [u32G]
              by_cases hx : x = k
              · rw [if_pos hx, hx, e]; rfl
              · rw [if_neg hx]
            · rintro q2 l m ⟨i, rfl, rfl, hi⟩
              conv => whnf
              refine condB_mk (fun he => ?_) (fun he => ?_)
              · have he : i < 4 := by simp at he; omega
                conv => whnf
                have e1 : IntKind.i64.wrap (4 * (k : Int)) = ((4 * k : Nat) : Int) := by rw [w64 (by omega) (by omega)]; omega
                have e2 : IntKind.i64.wrap (((64 * j : Nat) : Int) + ((4 * k : Nat) : Int)) = ((64 * j + 4 * k : Nat) : Int) := by rw [w64 (by omega) (by omega)]; omega
                have e3 : IntKind.i64.wrap (((64 * j + 4 * k : Nat) : Int) + (i : Int)) = ((64 * j + 4 * k + i : Nat) : Int) := by rw [w64 (by omega) (by omega)]; omega
                refine condB_ok (by simp; omega) ?_
                conv => whnf
                simp only [Int.toNat_natCast, Nat.zero_add]
                refine condB_ok (by simp [roomG, Nat.ble_eq]; omega) ?_
                conv => whnf
                simp only [e1, e2, e3]
                refine condB_ok (by simp; omega) ?_
                conv => whnf
                simp only [Int.toNat_natCast, Nat.zero_add]
                refine condB_ok (by simp [roomG, Nat.ble_eq]; omega) ?_
                conv => whnf
                refine condB_ok (by simp; omega) ?_
                conv => whnf
                simp only [Int.toNat_natCast, Nat.zero_add]
                refine condB_ok (by simp [roomG, Nat.ble_eq]; omega) ?_
                conv => whnf
                have e5 : IntKind.i64.wrap ((i : Int) + 1) = ((i + 1 : Nat) : Int) := by rw [w64 (by omega) (by omega)]; omega
                refine ⟨q2 - 1, [(2, .ptr 0 0 0), (3, .ptr 1 0 0), (4, .ptr 2 0 0), (5, .sl 3 0 (padN n) (capp + 1)), (6, .int .i64 ((64 * j : Nat) : Int)), (7, .ptr 4 0 0), (8, .int .i64 k), (9, .int .i64 ((i + 1 : Nat) : Int))],
                  [some ⟨1, 32, fun _ _ => .int .u8 0⟩, some ⟨1, 64, u32G kt⟩, some ⟨1, 8, u32G h⟩, some ⟨1, padN n, bytesG b⟩, some ⟨1, 64, u32G (fun x => if x = k then getV (blkB b j) (4 * k) (i + 1) else Wn (blkB b j) k x)⟩], [some 0, some 1, some 2, some 3, some 4], by omega, ⟨i + 1, rfl, rfl, by omega⟩, ?_⟩
                refine .mk0 ⟨.ptr _ _ _ _ rfl, .ptr _ _ _ _ rfl, .ptr _ _ _ _ rfl, .sl _ _ _ _ _ rfl, Flat.i rfl, .ptr _ _ _ _ rfl, Flat.i rfl, Flat.i e5, trivial⟩ ⟨.old 0 0 _ _ rfl rfl ⟨rfl, Nat.le_refl _, fun i j hi hj => .eq _ _ rfl (.int _ _)⟩, .old 1 1 _ _ rfl rfl ⟨rfl, Nat.le_refl _, fun i j hi hj => .eq _ _ rfl (.int _ _)⟩, .old 2 2 _ _ rfl rfl ⟨rfl, Nat.le_refl _, fun i j hi hj => .eq _ _ rfl (.int _ _)⟩, .old 3 3 _ _ rfl rfl ⟨rfl, Nat.le_refl _, fun i j hi hj => .eq _ _ rfl (.int _ _)⟩, .old 4 4 _ _ rfl rfl ⟨rfl, Nat.le_refl _, fun x y hx hy => ?_⟩, trivial⟩ rfl rfl
                refine updU (w := fun x => if x = k then getV (blkB b j) (4 * k) i else Wn (blkB b j) k x) (w' := fun x => if x = k then getV (blkB b j) (4 * k) (i + 1) else Wn (blkB b j) k x) hy rfl ?_ (fun x hx => by simp only [if_neg hx])
                have := gatherV (B := blkB b j) (p := 4 * k) (i := i) (fun _ => hb _) he
                simp only [if_true]
                rw [← this]
                simp only [blkB, Nat.add_assoc]
                rfl
              · have he : i = 4 := by simp at he; omega
                subst he
                conv => whnf
                have e4 : IntKind.i64.wrap ((k : Int) + 1) = ((k + 1 : Nat) : Int) := by rw [w64 (by omega) (by omega)]; omega
                refine ⟨q' - 1, [(2, .ptr 0 0 0), (3, .ptr 1 0 0), (4, .ptr 2 0 0), (5, .sl 3 0 (padN n) (capp + 1)), (6, .int .i64 ((64 * j : Nat) : Int)), (7, .ptr 4 0 0), (8, .int .i64 ((k + 1 : Nat) : Int))],
                  [some ⟨1, 32, fun _ _ => .int .u8 0⟩, some ⟨1, 64, u32G kt⟩, some ⟨1, 8, u32G h⟩, some ⟨1, padN n, bytesG b⟩, some ⟨1, 64, u32G (Wn (blkB b j) (k + 1))⟩], [some 0, some 1, some 2, some 3, some 4], by omega, ⟨k + 1, rfl, rfl, by omega⟩, ?_⟩
                refine .mk0 ⟨.ptr _ _ _ _ rfl, .ptr _ _ _ _ rfl, .ptr _ _ _ _ rfl, .sl _ _ _ _ _ rfl, Flat.i rfl, .ptr _ _ _ _ rfl, Flat.i e4, trivial⟩ ⟨.old 0 0 _ _ rfl rfl ⟨rfl, Nat.le_refl _, fun i j hi hj => .eq _ _ rfl (.int _ _)⟩, .old 1 1 _ _ rfl rfl ⟨rfl, Nat.le_refl _, fun i j hi hj => .eq _ _ rfl (.int _ _)⟩, .old 2 2 _ _ rfl rfl ⟨rfl, Nat.le_refl _, fun i j hi hj => .eq _ _ rfl (.int _ _)⟩, .old 3 3 _ _ rfl rfl ⟨rfl, Nat.le_refl _, fun i j hi hj => .eq _ _ rfl (.int _ _)⟩, .old 4 4 _ _ rfl rfl ⟨rfl, Nat.le_refl _, fun x y hx hy => ?_⟩, trivial⟩ rfl rfl
                refine .eq _ _ ?_ (.int _ _)
                simp only [u32G]
                by_cases hx : x = k
                · rw [if_pos hx, show Wn (blkB b j) (k + 1) x = newW (blkB b j) k (Wn (blkB b j) k) from if_pos hx, newW, if_pos hd]
                · rw [if_neg hx, show Wn (blkB b j) (k + 1) x = Wn (blkB b j) k x from if_neg hx]
          · have hd : ¬ k < 16 := by simp at hd; omega
            conv => whnf
            have e1 : IntKind.i64.wrap ((k : Int) - 15) = ((k - 15 : Nat) : Int) := by rw [w64 (by omega) (by omega)]; omega
            have e2 : IntKind.i64.wrap ((k : Int) - 2) = ((k - 2 : Nat) : Int) := by rw [w64 (by omega) (by omega)]; omega
            have e3 : IntKind.i64.wrap ((k : Int) - 16) = ((k - 16 : Nat) : Int) := by rw [w64 (by omega) (by omega)]; omega
            have e4 : IntKind.i64.wrap ((k : Int) - 7) = ((k - 7 : Nat) : Int) := by rw [w64 (by omega) (by omega)]; omega
            simp only [e1]
            refine condB_ok (by simp; omega) ?_
            conv => whnf
            simp only [Int.toNat_natCast, Nat.zero_add]
            refine condB_ok (by simp [roomG, Nat.ble_eq]; omega) ?_
            conv => whnf
            simp only [e2]
            refine condB_ok (by simp; omega) ?_
            conv => whnf
            simp only [Int.toNat_natCast, Nat.zero_add]
            refine condB_ok (by simp [roomG, Nat.ble_eq]; omega) ?_
            conv => whnf
            simp only [e3]
            refine condB_ok (by simp; omega) ?_
            conv => whnf
            simp only [Int.toNat_natCast, Nat.zero_add]
            refine condB_ok (by simp [roomG, Nat.ble_eq]; omega) ?_
            conv => whnf
            simp only [e4]
            refine condB_ok (by simp; omega) ?_
            conv => whnf
            simp only [Int.toNat_natCast, Nat.zero_add]
            refine condB_ok (by simp [roomG, Nat.ble_eq]; omega) ?_
            conv => whnf
            refine S_rot32 _ _ ?_
            conv => whnf
            refine ⟨⟨[], rfl⟩, ?_⟩
            conv => whnf
            refine S_rot32 _ _ ?_
            conv => whnf
            refine ⟨⟨[], rfl⟩, ?_⟩
            conv => whnf
            refine S_rot32 _ _ ?_
            conv => whnf
            refine ⟨⟨[], rfl⟩, ?_⟩
            conv => whnf
            refine S_rot32 _ _ ?_
            conv => whnf
            refine ⟨⟨[], rfl⟩, ?_⟩
            conv => whnf
            refine condB_ok (by simp; omega) ?_
            conv => whnf
            simp only [Int.toNat_natCast, Nat.zero_add]
            refine condB_ok (by simp [roomG, Nat.ble_eq]; omega) ?_
            conv => whnf
            have e5 : IntKind.i64.wrap ((k : Int) + 1) = ((k + 1 : Nat) : Int) := by rw [w64 (by omega) (by omega)]; omega
            have eW : Wn (blkB b j) (k + 1) k = addU (addU (addU (Wn (blkB b j) k (k - 16)) (sigA (Wn (blkB b j) k (k - 15)))) (Wn (blkB b j) k (k - 7))) (sigB (Wn (blkB b j) k (k - 2))) := by
              rw [show Wn (blkB b j) (k + 1) k = newW (blkB b j) k (Wn (blkB b j) k) from if_pos rfl, newW, if_neg hd]
            refine ⟨q' - 1, [(2, .ptr 0 0 0), (3, .ptr 1 0 0), (4, .ptr 2 0 0), (5, .sl 3 0 (padN n) (capp + 1)), (6, .int .i64 ((64 * j : Nat) : Int)), (7, .ptr 4 0 0), (8, .int .i64 ((k + 1 : Nat) : Int))],
              [some ⟨1, 32, fun _ _ => .int .u8 0⟩, some ⟨1, 64, u32G kt⟩, some ⟨1, 8, u32G h⟩, some ⟨1, padN n, bytesG b⟩, some ⟨1, 64, u32G (Wn (blkB b j) (k + 1))⟩], [some 0, some 1, some 2, some 3, some 4], by omega, ⟨k + 1, rfl, rfl, by omega⟩, ?_⟩
            refine .mk0 ⟨.ptr _ _ _ _ rfl, .ptr _ _ _ _ rfl, .ptr _ _ _ _ rfl, .sl _ _ _ _ _ rfl, Flat.i rfl, .ptr _ _ _ _ rfl, Flat.i e5, trivial⟩ ⟨.old 0 0 _ _ rfl rfl ⟨rfl, Nat.le_refl _, fun i j hi hj => .eq _ _ rfl (.int _ _)⟩, .old 1 1 _ _ rfl rfl ⟨rfl, Nat.le_refl _, fun i j hi hj => .eq _ _ rfl (.int _ _)⟩, .old 2 2 _ _ rfl rfl ⟨rfl, Nat.le_refl _, fun i j hi hj => .eq _ _ rfl (.int _ _)⟩, .old 3 3 _ _ rfl rfl ⟨rfl, Nat.le_refl _, fun i j hi hj => .eq _ _ rfl (.int _ _)⟩, .old 4 4 _ _ rfl rfl ⟨rfl, Nat.le_refl _, fun x y hx hy => ?_⟩, trivial⟩ rfl rfl
            refine updU (w := Wn (blkB b j) k) (w' := Wn (blkB b j) (k + 1)) hy rfl ?_ (fun x hx => if_neg hx)
            rw [eW]
            exact addSwap (Wn (blkB b j) k (k - 16)) (Wn (blkB b j) k (k - 7)) (sigA (Wn (blkB b j) k (k - 15))) (sigB (Wn (blkB b j) k (k - 2)))
        · have hc : k = 64 := by simp at hc; omega
          subst hc
          conv => whnf
          generalize hW : Wn (blkB b j) 64 = w
          refine loop_wk mixed (I := fun q' l m => ∃ (k : Nat), l = [(2, .ptr 0 0 0), (3, .ptr 1 0 0), (4, .ptr 2 0 0), (5, .sl 3 0 (padN n) (capp + 1)), (6, .int .i64 ((64 * j : Nat) : Int)), (7, .ptr 4 0 0), (12, .ptr 5 0 0), (13, .int .i64 k)] ∧
              m = [some ⟨1, 32, fun _ _ => .int .u8 0⟩, some ⟨1, 64, u32G kt⟩, some ⟨1, 8, u32G h⟩, some ⟨1, padN n, bytesG b⟩, some ⟨1, 64, u32G w⟩, some ⟨1, 8, u32G (Rn h w k)⟩] ∧ q' + k = 64) 64
            (l0 := [(2, .ptr 0 0 0), (3, .ptr 1 0 0), (4, .ptr 2 0 0), (5, .sl 3 0 (padN n) (capp + 1)), (6, .int .i64 ((64 * j : Nat) : Int)), (7, .ptr 4 0 0), (12, .ptr 5 0 0), (13, .int .i64 (0 : Nat))])
            (m0 := [some ⟨1, 32, fun _ _ => .int .u8 0⟩, some ⟨1, 64, u32G kt⟩, some ⟨1, 8, u32G h⟩, some ⟨1, padN n, bytesG b⟩, some ⟨1, 64, u32G w⟩, some ⟨1, 8, u32G (Rn h w 0)⟩]) [some 0, some 1, some 2, some 3, some 4, some 5] ⟨0, rfl, rfl, rfl⟩ ?_ ?_
          · refine .mk0 ⟨.ptr _ _ _ _ rfl, .ptr _ _ _ _ rfl, .ptr _ _ _ _ rfl, .sl _ _ _ _ _ rfl, Flat.i rfl, .ptr _ _ _ _ rfl, .ptr _ _ _ _ rfl, Flat.i rfl, trivial⟩ ⟨.old 0 0 _ _ rfl rfl ⟨rfl, Nat.le_refl _, fun i j hi hj => .eq _ _ rfl (.int _ _)⟩, .old 1 1 _ _ rfl rfl ⟨rfl, Nat.le_refl _, fun i j hi hj => .eq _ _ rfl (.int _ _)⟩, .old 2 2 _ _ rfl rfl ⟨rfl, Nat.le_refl _, fun i j hi hj => .eq _ _ rfl (.int _ _)⟩, .old 3 3 _ _ rfl rfl ⟨rfl, Nat.le_refl _, fun i j hi hj => .eq _ _ rfl (.int _ _)⟩, .old 4 4 _ _ rfl rfl ⟨rfl, Nat.le_refl _, fun i j hi hj => .eq _ _ rfl (.int _ _)⟩, .old 5 5 _ _ rfl rfl ⟨rfl, Nat.le_refl _, fun i j hi hj => ?_⟩, trivial⟩ rfl rfl
            exact eightC hi hj rfl
          · rintro q' l m ⟨k, rfl, rfl, hk⟩
            conv => whnf
            refine condB_mk (fun hc => ?_) (fun hc => ?_)
            · have hc : k < 64 := by simp at hc; omega
              conv => whnf
              generalize hR : Rn h w k = r
              refine condB_ok (by simp; omega) ?_
              conv => whnf
              simp only [Int.toNat_natCast, Nat.zero_add]
              refine condB_ok (by simp [roomG, Nat.ble_eq]; omega) ?_
              conv => whnf
              refine condB_ok (by simp; omega) ?_
              conv => whnf
              simp only [Int.toNat_natCast, Nat.zero_add]
              refine condB_ok (by simp [roomG, Nat.ble_eq]; omega) ?_
              conv => whnf
              refine S_rot32 _ _ ?_
              conv => whnf
              refine ⟨⟨[], rfl⟩, ?_⟩
              conv => whnf
              refine S_rot32 _ _ ?_
              conv => whnf
              refine ⟨⟨[], rfl⟩, ?_⟩
              conv => whnf
              refine S_rot32 _ _ ?_
              conv => whnf
              refine ⟨⟨[], rfl⟩, ?_⟩
              conv => whnf
              refine S_rot32 _ _ ?_
              conv => whnf
              refine ⟨⟨[], rfl⟩, ?_⟩
              conv => whnf
              refine S_rot32 _ _ ?_
              conv => whnf
              refine ⟨⟨[], rfl⟩, ?_⟩
              conv => whnf
              refine S_rot32 _ _ ?_
              conv => whnf
              refine ⟨⟨[], rfl⟩, ?_⟩
              conv => whnf
              have e5 : IntKind.i64.wrap ((k : Int) + 1) = ((k + 1 : Nat) : Int) := by rw [w64 (by omega) (by omega)]; omega
              have eR : Rn h w (k + 1) = rnd r (kt k) (w k) := by rw [← hR, ← hkt]; rfl
              refine ⟨q' - 1, [(2, .ptr 0 0 0), (3, .ptr 1 0 0), (4, .ptr 2 0 0), (5, .sl 3 0 (padN n) (capp + 1)), (6, .int .i64 ((64 * j : Nat) : Int)), (7, .ptr 4 0 0), (12, .ptr 5 0 0), (13, .int .i64 ((k + 1 : Nat) : Int))],
                [some ⟨1, 32, fun _ _ => .int .u8 0⟩, some ⟨1, 64, u32G kt⟩, some ⟨1, 8, u32G h⟩, some ⟨1, padN n, bytesG b⟩, some ⟨1, 64, u32G w⟩, some ⟨1, 8, u32G (Rn h w (k + 1))⟩], [some 0, some 1, some 2, some 3, some 4, some 5], by omega, ⟨k + 1, rfl, rfl, by omega⟩, ?_⟩
              rw [eR]
              refine .mk0 ⟨.ptr _ _ _ _ rfl, .ptr _ _ _ _ rfl, .ptr _ _ _ _ rfl, .sl _ _ _ _ _ rfl, Flat.i rfl, .ptr _ _ _ _ rfl, .ptr _ _ _ _ rfl, Flat.i e5, trivial⟩ ⟨.old 0 0 _ _ rfl rfl ⟨rfl, Nat.le_refl _, fun i j hi hj => .eq _ _ rfl (.int _ _)⟩, .old 1 1 _ _ rfl rfl ⟨rfl, Nat.le_refl _, fun i j hi hj => .eq _ _ rfl (.int _ _)⟩, .old 2 2 _ _ rfl rfl ⟨rfl, Nat.le_refl _, fun i j hi hj => .eq _ _ rfl (.int _ _)⟩, .old 3 3 _ _ rfl rfl ⟨rfl, Nat.le_refl _, fun i j hi hj => .eq _ _ rfl (.int _ _)⟩, .old 4 4 _ _ rfl rfl ⟨rfl, Nat.le_refl _, fun i j hi hj => .eq _ _ rfl (.int _ _)⟩, .old 5 5 _ _ rfl rfl ⟨rfl, Nat.le_refl _, fun i j hi hj => ?_⟩, trivial⟩ rfl rfl
              exact eight hi hj rfl rfl rfl rfl rfl rfl rfl rfl
            · have hc : k = 64 := by simp at hc; omega
              subst hc
              conv => whnf
              generalize hR : Rn h w 64 = r
              have hNext : Hn b (j + 1) = fun i => addU (h i) (r i) := by
                rw [show Hn b (j + 1) = nextH (Hn b j) (Wn (blkB b j) 64) from rfl, hW, hH]
                funext i
                rw [nextH, hR]
              refine loop_wk mixed (I := fun q' l m => ∃ (k : Nat), l = [(2, .ptr 0 0 0), (3, .ptr 1 0 0), (4, .ptr 2 0 0), (5, .sl 3 0 (padN n) (capp + 1)), (6, .int .i64 ((64 * j : Nat) : Int)), (12, .ptr 5 0 0), (18, .int .i64 k)] ∧
                  m = [some ⟨1, 32, fun _ _ => .int .u8 0⟩, some ⟨1, 64, u32G kt⟩, some ⟨1, 8, u32G (fun i => if i < k then addU (h i) (r i) else h i)⟩, some ⟨1, padN n, bytesG b⟩, none, some ⟨1, 8, u32G r⟩] ∧ q' + k = 8) 8
                (l0 := [(2, .ptr 0 0 0), (3, .ptr 1 0 0), (4, .ptr 2 0 0), (5, .sl 3 0 (padN n) (capp + 1)), (6, .int .i64 ((64 * j : Nat) : Int)), (12, .ptr 5 0 0), (18, .int .i64 (0 : Nat))])
                (m0 := [some ⟨1, 32, fun _ _ => .int .u8 0⟩, some ⟨1, 64, u32G kt⟩, some ⟨1, 8, u32G (fun i => if i < 0 then addU (h i) (r i) else h i)⟩, some ⟨1, padN n, bytesG b⟩, none, some ⟨1, 8, u32G r⟩]) [some 0, some 1, some 2, some 3, none, some 5] ⟨0, rfl, rfl, rfl⟩ ?_ ?_
              · refine .mk0 ⟨.ptr _ _ _ _ rfl, .ptr _ _ _ _ rfl, .ptr _ _ _ _ rfl, .sl _ _ _ _ _ rfl, Flat.i rfl, .ptr _ _ _ _ rfl, Flat.i rfl, trivial⟩ ⟨.old 0 0 _ _ rfl rfl ⟨rfl, Nat.le_refl _, fun i j hi hj => .eq _ _ rfl (.int _ _)⟩, .old 1 1 _ _ rfl rfl ⟨rfl, Nat.le_refl _, fun i j hi hj => .eq _ _ rfl (.int _ _)⟩, .old 2 2 _ _ rfl rfl ⟨rfl, Nat.le_refl _, fun i j hi hj => ?_⟩, .old 3 3 _ _ rfl rfl ⟨rfl, Nat.le_refl _, fun i j hi hj => .eq _ _ rfl (.int _ _)⟩, .dead _, .old 5 5 _ _ rfl rfl ⟨rfl, Nat.le_refl _, fun i j hi hj => .eq _ _ rfl (.int _ _)⟩, trivial⟩ rfl rfl
                exact .eq _ _ (by simp only [u32G]; rw [if_neg (Nat.not_lt_zero _)]) (.int _ _)
              · rintro q' l m ⟨k, rfl, rfl, hk⟩
                conv => whnf
                refine condB_mk (fun hc => ?_) (fun hc => ?_)
                · have hc : k < 8 := by simp at hc; omega
                  conv => whnf
                  refine condB_ok (by simp; omega) ?_
                  conv => whnf
                  simp only [Int.toNat_natCast, Nat.zero_add]
                  refine condB_ok (by simp [roomG, Nat.ble_eq]; omega) ?_
                  conv => whnf
                  refine condB_ok (by simp; omega) ?_
                  conv => whnf
                  simp only [Int.toNat_natCast, Nat.zero_add]
                  refine condB_ok (by simp [roomG, Nat.ble_eq]; omega) ?_
                  conv => whnf
                  refine condB_ok (by simp; omega) ?_
                  conv => whnf
                  simp only [Int.toNat_natCast, Nat.zero_add]
                  refine condB_ok (by simp [roomG, Nat.ble_eq]; omega) ?_
                  conv => whnf
                  have e5 : IntKind.i64.wrap ((k : Int) + 1) = ((k + 1 : Nat) : Int) := by rw [w64 (by omega) (by omega)]; omega
                  refine ⟨q' - 1, [(2, .ptr 0 0 0), (3, .ptr 1 0 0), (4, .ptr 2 0 0), (5, .sl 3 0 (padN n) (capp + 1)), (6, .int .i64 ((64 * j : Nat) : Int)), (12, .ptr 5 0 0), (18, .int .i64 ((k + 1 : Nat) : Int))],
                    [some ⟨1, 32, fun _ _ => .int .u8 0⟩, some ⟨1, 64, u32G kt⟩, some ⟨1, 8, u32G (fun i => if i < k + 1 then addU (h i) (r i) else h i)⟩, some ⟨1, padN n, bytesG b⟩, none, some ⟨1, 8, u32G r⟩], [some 0, some 1, some 2, some 3, none, some 5], by omega, ⟨k + 1, rfl, rfl, by omega⟩, ?_⟩
                  refine .mk0 ⟨.ptr _ _ _ _ rfl, .ptr _ _ _ _ rfl, .ptr _ _ _ _ rfl, .sl _ _ _ _ _ rfl, Flat.i rfl, .ptr _ _ _ _ rfl, Flat.i e5, trivial⟩ ⟨.old 0 0 _ _ rfl rfl ⟨rfl, Nat.le_refl _, fun i j hi hj => .eq _ _ rfl (.int _ _)⟩, .old 1 1 _ _ rfl rfl ⟨rfl, Nat.le_refl _, fun i j hi hj => .eq _ _ rfl (.int _ _)⟩, .old 2 2 _ _ rfl rfl ⟨rfl, Nat.le_refl _, fun i j hi hj => ?_⟩, .old 3 3 _ _ rfl rfl ⟨rfl, Nat.le_refl _, fun i j hi hj => .eq _ _ rfl (.int _ _)⟩, .dead _, .old 5 5 _ _ rfl rfl ⟨rfl, Nat.le_refl _, fun i j hi hj => .eq _ _ rfl (.int _ _)⟩, trivial⟩ rfl rfl
                  exact updH hj rfl
                · have hc : k = 8 := by simp at hc; omega
                  subst hc
                  conv => whnf
                  have e6 : IntKind.i64.wrap (((64 * j : Nat) : Int) + 64) = ((64 * (j + 1) : Nat) : Int) := by rw [w64 (by omega) (by omega)]; omega
                  refine ⟨q - 1, [(2, .ptr 0 0 0), (3, .ptr 1 0 0), (4, .ptr 2 0 0), (5, .sl 3 0 (padN n) (capp + 1)), (6, .int .i64 ((64 * (j + 1) : Nat) : Int))],
                    [some ⟨1, 32, fun _ _ => .int .u8 0⟩, some ⟨1, 64, u32G kt⟩, some ⟨1, 8, u32G (Hn b (j + 1))⟩, some ⟨1, padN n, bytesG b⟩], [some 0, some 1, some 2, some 3], by omega, ⟨j + 1, rfl, rfl, by omega⟩, ?_⟩
                  rw [hNext]
                  refine .mk0 ⟨.ptr _ _ _ _ rfl, .ptr _ _ _ _ rfl, .ptr _ _ _ _ rfl, .sl _ _ _ _ _ rfl, Flat.i e6, trivial⟩ ⟨.old 0 0 _ _ rfl rfl ⟨rfl, Nat.le_refl _, fun i j hi hj => .eq _ _ rfl (.int _ _)⟩, .old 1 1 _ _ rfl rfl ⟨rfl, Nat.le_refl _, fun i j hi hj => .eq _ _ rfl (.int _ _)⟩, .old 2 2 _ _ rfl rfl ⟨rfl, Nat.le_refl _, fun i j hi hj => ?_⟩, .old 3 3 _ _ rfl rfl ⟨rfl, Nat.le_refl _, fun i j hi hj => .eq _ _ rfl (.int _ _)⟩, trivial⟩ rfl rfl
                  have hi : i < 8 := hi
                  exact .eq _ _ (by simp only [u32G]; rw [if_pos hi]) (.int _ _)
    · have hc : padN n ≤ 64 * j := by simp at hc; omega
      conv => whnf
      obtain rfl : j = padN n / 64 := by omega
      generalize hH : Hn b (padN n / 64) = h
      have hS : ∀ i, i < 32 → sumB n f i = IntKind.u8.wrap ((h (i / 4)).fdiv (2 ^ (24 - 8 * (i % 4)))) := fun i hi => by rw [sumB, hB, hH]
      refine loop_wk mixed (I := fun q' l m => ∃ (k : Nat), l = [(2, .ptr 0 0 0), (4, .ptr 1 0 0), (19, .ptr 2 0 0), (20, .int .i64 k)] ∧
          m = [some ⟨1, 32, fun _ _ => .int .u8 0⟩, some ⟨1, 8, u32G h⟩, some ⟨1, 32, bytesG (fun i => if i < k then sumB n f i else 0)⟩] ∧ q' + k = 32) 32
        (l0 := [(2, .ptr 0 0 0), (4, .ptr 1 0 0), (19, .ptr 2 0 0), (20, .int .i64 (0 : Nat))])
        (m0 := [some ⟨1, 32, fun _ _ => .int .u8 0⟩, some ⟨1, 8, u32G h⟩, some ⟨1, 32, bytesG (fun i => if i < 0 then sumB n f i else 0)⟩]) [some 0, some 2, some 4] ⟨0, rfl, rfl, rfl⟩ ?_ ?_
      · refine .mk0 ⟨.ptr _ _ _ _ rfl, .ptr _ _ _ _ rfl, .ptr _ _ _ _ rfl, Flat.i rfl, trivial⟩ ⟨.old 0 0 _ _ rfl rfl ⟨rfl, Nat.le_refl _, fun i j hi hj => .eq _ _ rfl (.int _ _)⟩, .old 1 2 _ _ rfl rfl ⟨rfl, Nat.le_refl _, fun i j hi hj => .eq _ _ rfl (.int _ _)⟩, .old 2 4 _ _ rfl rfl ⟨rfl, Nat.le_refl _, fun i j hi hj => ?_⟩, trivial⟩ rfl rfl
        have hj : j < 1 := hj
        obtain rfl : j = 0 := by omega
        exact .eq _ _ (by simp only [bytesG]; rw [if_neg (Nat.not_lt_zero _)]; rfl) (.int _ _)
      · rintro q' l m ⟨k, rfl, rfl, hk⟩
        conv => whnf
        refine condB_mk (fun hc => ?_) (fun hc => ?_)
        · have hc : k < 32 := by simp at hc; omega
          conv => whnf
          have e1 : IntKind.i64.wrap ((k : Int).tdiv 4) = ((k / 4 : Nat) : Int) := by
            rw [Int.tdiv_eq_ediv_of_nonneg (by omega), w64 (by omega) (by omega)]; omega
          have e2 : (k : Int).tmod 4 = ((k % 4 : Nat) : Int) := tmod_nat k 4
          have e3 : IntKind.i64.wrap (8 * ((k % 4 : Nat) : Int)) = ((8 * (k % 4) : Nat) : Int) := by rw [w64 (by omega) (by omega)]; omega
          have e4 : IntKind.i64.wrap (24 - ((8 * (k % 4) : Nat) : Int)) = ((24 - 8 * (k % 4) : Nat) : Int) := by rw [w64 (by omega) (by omega)]; omega
          have e4b : IntKind.u64.wrap ((24 - 8 * (k % 4) : Nat) : Int) = ((24 - 8 * (k % 4) : Nat) : Int) := by rw [wu64]; omega
          simp only [e1]
          refine condB_ok (by simp; omega) ?_
          conv => whnf
          simp only [Int.toNat_natCast, Nat.zero_add]
          refine condB_ok (by simp [roomG, Nat.ble_eq]; omega) ?_
          conv => whnf
          simp only [e2, e3, e4, e4b]
          conv => whnf
          refine condB_ok (by simp; omega) ?_
          conv => whnf
          simp only [Int.toNat_natCast, Nat.zero_add]
          refine condB_ok (by simp [roomG, Nat.ble_eq]; omega) ?_
          conv => whnf
          have e5 : IntKind.i64.wrap ((k : Int) + 1) = ((k + 1 : Nat) : Int) := by rw [w64 (by omega) (by omega)]; omega
          have e6 : min (24 - 8 * (k % 4)) IntKind.u32.bits = 24 - 8 * (k % 4) := by simp only [IntKind.bits]; omega
          refine ⟨q' - 1, [(2, .ptr 0 0 0), (4, .ptr 1 0 0), (19, .ptr 2 0 0), (20, .int .i64 ((k + 1 : Nat) : Int))],
            [some ⟨1, 32, fun _ _ => .int .u8 0⟩, some ⟨1, 8, u32G h⟩, some ⟨1, 32, bytesG (fun i => if i < k + 1 then sumB n f i else 0)⟩], [some 0, some 1, some 2], by omega, ⟨k + 1, rfl, rfl, by omega⟩, ?_⟩
          refine .mk0 ⟨.ptr _ _ _ _ rfl, .ptr _ _ _ _ rfl, .ptr _ _ _ _ rfl, Flat.i e5, trivial⟩ ⟨.old 0 0 _ _ rfl rfl ⟨rfl, Nat.le_refl _, fun i j hi hj => .eq _ _ rfl (.int _ _)⟩, .old 1 1 _ _ rfl rfl ⟨rfl, Nat.le_refl _, fun i j hi hj => .eq _ _ rfl (.int _ _)⟩, .old 2 2 _ _ rfl rfl ⟨rfl, Nat.le_refl _, fun i j hi hj => ?_⟩, trivial⟩ rfl rfl
          exact updO hj (hS k hc) e6 rfl
        · have hc : k = 32 := by simp at hc; omega
          subst hc
          conv => whnf
          exact outSum rfl

theorem S_Sum256R {m : Mem} {x : AV} {n : Nat} {f : Nat → Int} {K : AV → Mem → Prop} (hx : Shows m x n f) (hn : n ≤ 1000000) (hf : ∀ i, i < n → 0 ≤ f i ∧ f i ≤ 255) (h : ∀ s, s = sumB n f → (∀ i, 0 ≤ s i ∧ s i ≤ 255) → K (.agg (rowL s)) m) : ACall Pg F_witanref04_Sum256 [x] m K := by
  obtain ⟨cap, hl⟩ := hx
  refine lift_flat (S_Sum2560 n cap f hn hf) (.cons _ _ _ _ hl .nil) ?_
  rintro v rfl
  exact h _ rfl (sumB_lt n f)

end Go.Proofs.Ytjflfecdeicccaa
end

section
/- The keyed sum of the reference; no condition. -/
set_option linter.unusedVariables false
set_option linter.unusedSimpArgs false
set_option maxRecDepth 100000
set_option pp.maxSteps 3000
namespace Go.Proofs.Ytjflfecdeicccaa
open Go Go.Wit

theorem rowAtE {s : Nat → Int} {g : Nat → Nat → AV} {i p : Nat} {A : AV} (hi : i < 32) (hp : p = i) (hA : A = updG ⟨1, 32, g⟩ 0 0 32 ((List.range 32).map fun i => .int .u8 (s i)) p 0) : A = .int .u8 (s i) := by
  subst hp hA
  rw [updG_all (by omega) hi, List.getD_eq_getElem?_getD, List.getElem?_map, List.getElem?_range hi]
  rfl
theorem xorW {nv : Bool} {σ : Nat → Option Nat} {P : Nat → Int} {c : Int} {k i j N p : Nat} {x y : Int} {A : AV} (hj : j < 1) (hx : x = bitsV .xor .u8 y c) (hy : y = P k) (hp : p = k) (hA : A = updG ⟨1, N, bytesG (fun i => if i < k then xorB (P i) c else 0)⟩ p 0 1 [.int .u8 x] i j) :
    RV nv σ A (bytesG (fun i => if i < k + 1 then xorB (P i) c else 0) i j) := by
  subst hp
  exact updB (a := fun i => xorB (P i) c) (z := fun _ => 0) hj (by rw [hx, hy]; rfl) hA
theorem zeroW {nv : Bool} {σ : Nat → Option Nat} {P : Nat → Int} {c : Int} {i j : Nat} {A : AV} (hj : j < 1) (hA : A = [AV.int IntKind.u8 0].getD j AV.un) : RV nv σ A (bytesG (fun i => if i < 0 then xorB (P i) c else 0) i j) := by
  obtain rfl : j = 0 := by omega
  exact zeroB (j := 0) (a := fun i => xorB (P i) c) (z := fun _ => 0) (hA.trans rfl)
set_option maxHeartbeats 1000000 in
theorem S_RMac0 (n c1 : Nat) (f : Nat → Int) (k c2 : Nat) (g : Nat → Int) (hn : n ≤ 900000) (hk : k ≤ 900000) (hf : ∀ i, i < n → 0 ≤ f i ∧ f i ≤ 255) (hg : ∀ i, i < k → 0 ≤ g i ∧ g i ≤ 255) :
    ACall Pg F_witanref04_Mac [.vsl 1 n c1 (bytesG f), .vsl 1 k c2 (bytesG g)] [] (fun v _ => v = .agg (rowL (macB n f k g)) ∧ Flat true v) := by
  have hP : ∀ i, 64 < n → keyP n f i = if i < 32 then sumB n f i else 0 := fun i h => by simp only [keyP, keyN, keyG, if_pos h]
  have hP' : ∀ i, ¬ 64 < n → keyP n f i = if i < n then f i else 0 := fun i h => by simp only [keyP, keyN, keyG, if_neg h]
  have hM : macB n f k g = sumB 96 (outF (keyP n f) (sumB (64 + k) (inF (keyP n f) g))) := rfl
  generalize keyP n f = P at *
  generalize hM2 : macB n f k g = M at *
  refine B_witanref04_Mac ⟨rfl, ?_⟩
  conv => whnf
  repeat (refine ⟨⟨_, rfl⟩, ?_⟩; conv => whnf)
  refine condB_mk (fun hc => ?_) (fun hc => ?_)
  · have hc : 64 < n := by simp at hc; omega
    have hPs : ∀ i, i < 32 → P i = sumB n f i := fun i h => by rw [hP i hc, if_pos h]
    have hP0 : ∀ i, ¬ i < 32 → P i = 0 := fun i h => by rw [hP i hc, if_neg h]
    conv => whnf
    repeat (refine ⟨⟨_, rfl⟩, ?_⟩; conv => whnf)
    refine S_Sum256R (f := f) Shows.vsl (by omega) hf (fun s hs hsb => ?_)
    rw [← hs] at hPs
    rw [rowL]
    conv => whnf
    repeat (refine ⟨⟨_, rfl⟩, ?_⟩; conv => whnf)
    obtain ⟨cap0, hcap0⟩ : ∃ c : Nat, c = 32 := ⟨_, rfl⟩
    refine loop_wk mixed (I := fun q l m => ∃ (j : Nat), l = [(0, .sl 3 0 32 32), (1, .vsl 1 k c2 (bytesG g)), (4, .ptr 0 0 0), (5, .ptr 1 0 0), (6, .ptr 2 0 0), (8, .int .i64 j)] ∧ m = [some ⟨1, 32, fun _ _ => .int .u8 0⟩, some ⟨1, 64, bytesG (fun i => if i < j then xorB (P i) 54 else 0)⟩, some ⟨1, 64, bytesG (fun i => if i < j then xorB (P i) 92 else 0)⟩, some ⟨1, 32, bytesG s⟩] ∧ q + j = 64) 64
      (l0 := [(0, .sl 3 0 32 32), (1, .vsl 1 k c2 (bytesG g)), (4, .ptr 0 0 0), (5, .ptr 1 0 0), (6, .ptr 2 0 0), (8, .int .i64 (0 : Nat))]) (m0 := [some ⟨1, 32, fun _ _ => .int .u8 0⟩, some ⟨1, 64, bytesG (fun i => if i < 0 then xorB (P i) 54 else 0)⟩, some ⟨1, 64, bytesG (fun i => if i < 0 then xorB (P i) 92 else 0)⟩, some ⟨1, 32, bytesG s⟩]) [some 0, some 1, some 2, some 3] ⟨0, rfl, rfl, rfl⟩ ?_ ?_
    · exact .mk0 ⟨.sl _ _ _ _ _ rfl, .eq _ _ rfl (.vsl _ _ _ _ rfl (fun _ _ _ _ => .int _ _)), .ptr _ _ _ _ rfl, .ptr _ _ _ _ rfl, .ptr _ _ _ _ rfl, Flat.i rfl, trivial⟩ ⟨.old 0 0 _ _ rfl rfl ⟨rfl, Nat.le_refl _, fun i j hi hj => oneU0 hj rfl⟩, .old 1 1 _ _ rfl rfl ⟨rfl, Nat.le_refl _, fun i j hi hj => zeroW hj rfl⟩, .old 2 2 _ _ rfl rfl ⟨rfl, Nat.le_refl _, fun i j hi hj => zeroW hj rfl⟩, .old 3 3 _ _ rfl rfl ⟨rfl, Nat.le_refl _, fun i j hi hj => sumBlk hi hj rfl⟩, trivial⟩ rfl rfl
    · rintro q l m ⟨j, rfl, rfl, hq⟩
      conv => whnf
      repeat (refine ⟨⟨_, rfl⟩, ?_⟩; conv => whnf)
      refine condB_mk (fun hb => ?_) (fun hb => ?_)
      · have hb : j < 64 := by simp at hb; omega
        conv => whnf
        repeat (refine ⟨⟨_, rfl⟩, ?_⟩; conv => whnf)
        refine condB_mk (fun hb2 => ?_) (fun hb2 => ?_)
        · have hb2 : j < 32 := by simp at hb2; omega
          conv => whnf
          repeat (refine ⟨⟨_, rfl⟩, ?_⟩; conv => whnf)
          refine condB_ok (by simp; omega) ?_
          conv => whnf
          repeat (refine ⟨⟨_, rfl⟩, ?_⟩; conv => whnf)
          refine condB_ok (by simp [roomG, Nat.ble_eq]; omega) ?_
          conv => whnf
          repeat (refine ⟨⟨_, rfl⟩, ?_⟩; conv => whnf)
          refine condB_ok (by simp; omega) ?_
          conv => whnf
          repeat (refine ⟨⟨_, rfl⟩, ?_⟩; conv => whnf)
          refine condB_ok (by simp [roomG, Nat.ble_eq]; omega) ?_
          conv => whnf
          repeat (refine ⟨⟨_, rfl⟩, ?_⟩; conv => whnf)
          refine condB_ok (by simp; omega) ?_
          conv => whnf
          repeat (refine ⟨⟨_, rfl⟩, ?_⟩; conv => whnf)
          refine condB_ok (by simp [roomG, Nat.ble_eq]; omega) ?_
          conv => whnf
          repeat (refine ⟨⟨_, rfl⟩, ?_⟩; conv => whnf)
          have e5 : IntKind.i64.wrap ((j : Int) + 1) = ((j + 1 : Nat) : Int) := by rw [w64 (by omega) (by omega)]; omega
          refine ⟨q - 1, [(0, .sl 3 0 32 32), (1, .vsl 1 k c2 (bytesG g)), (4, .ptr 0 0 0), (5, .ptr 1 0 0), (6, .ptr 2 0 0), (8, .int .i64 ((j + 1 : Nat) : Int))], [some ⟨1, 32, fun _ _ => .int .u8 0⟩, some ⟨1, 64, bytesG (fun i => if i < j + 1 then xorB (P i) 54 else 0)⟩, some ⟨1, 64, bytesG (fun i => if i < j + 1 then xorB (P i) 92 else 0)⟩, some ⟨1, 32, bytesG s⟩], [some 0, some 1, some 2, some 3], by omega, ⟨j + 1, rfl, rfl, by omega⟩, ?_⟩
          exact .mk0 ⟨.sl _ _ _ _ _ rfl, .eq _ _ rfl (.vsl _ _ _ _ rfl (fun _ _ _ _ => .int _ _)), .ptr _ _ _ _ rfl, .ptr _ _ _ _ rfl, .ptr _ _ _ _ rfl, Flat.i e5, trivial⟩ ⟨.old 0 0 _ _ rfl rfl ⟨rfl, Nat.le_refl _, fun i j hi hj => .eq _ _ rfl (.int _ _)⟩, .old 1 1 _ _ rfl rfl ⟨rfl, Nat.le_refl _, fun a b ha hb => xorW hb rfl (by rw [Nat.zero_add]; exact (hPs j hb2).symm) (Nat.zero_add _) rfl⟩, .old 2 2 _ _ rfl rfl ⟨rfl, Nat.le_refl _, fun a b ha hb => xorW hb rfl (by rw [Nat.zero_add]; exact (hPs j hb2).symm) (Nat.zero_add _) rfl⟩, .old 3 3 _ _ rfl rfl ⟨rfl, Nat.le_refl _, fun i j hi hj => .eq _ _ rfl (.int _ _)⟩, trivial⟩ rfl rfl
        · have hb2 : ¬ j < 32 := by simp at hb2; omega
          conv => whnf
          repeat (refine ⟨⟨_, rfl⟩, ?_⟩; conv => whnf)
          refine condB_ok (by simp; omega) ?_
          conv => whnf
          repeat (refine ⟨⟨_, rfl⟩, ?_⟩; conv => whnf)
          refine condB_ok (by simp [roomG, Nat.ble_eq]; omega) ?_
          conv => whnf
          repeat (refine ⟨⟨_, rfl⟩, ?_⟩; conv => whnf)
          refine condB_ok (by simp; omega) ?_
          conv => whnf
          repeat (refine ⟨⟨_, rfl⟩, ?_⟩; conv => whnf)
          refine condB_ok (by simp [roomG, Nat.ble_eq]; omega) ?_
          conv => whnf
          repeat (refine ⟨⟨_, rfl⟩, ?_⟩; conv => whnf)
          have e5 : IntKind.i64.wrap ((j : Int) + 1) = ((j + 1 : Nat) : Int) := by rw [w64 (by omega) (by omega)]; omega
          refine ⟨q - 1, [(0, .sl 3 0 32 32), (1, .vsl 1 k c2 (bytesG g)), (4, .ptr 0 0 0), (5, .ptr 1 0 0), (6, .ptr 2 0 0), (8, .int .i64 ((j + 1 : Nat) : Int))], [some ⟨1, 32, fun _ _ => .int .u8 0⟩, some ⟨1, 64, bytesG (fun i => if i < j + 1 then xorB (P i) 54 else 0)⟩, some ⟨1, 64, bytesG (fun i => if i < j + 1 then xorB (P i) 92 else 0)⟩, some ⟨1, 32, bytesG s⟩], [some 0, some 1, some 2, some 3], by omega, ⟨j + 1, rfl, rfl, by omega⟩, ?_⟩
          exact .mk0 ⟨.sl _ _ _ _ _ rfl, .eq _ _ rfl (.vsl _ _ _ _ rfl (fun _ _ _ _ => .int _ _)), .ptr _ _ _ _ rfl, .ptr _ _ _ _ rfl, .ptr _ _ _ _ rfl, Flat.i e5, trivial⟩ ⟨.old 0 0 _ _ rfl rfl ⟨rfl, Nat.le_refl _, fun i j hi hj => .eq _ _ rfl (.int _ _)⟩, .old 1 1 _ _ rfl rfl ⟨rfl, Nat.le_refl _, fun a b ha hb => xorW hb rfl (hP0 j hb2).symm (Nat.zero_add _) rfl⟩, .old 2 2 _ _ rfl rfl ⟨rfl, Nat.le_refl _, fun a b ha hb => xorW hb rfl (hP0 j hb2).symm (Nat.zero_add _) rfl⟩, .old 3 3 _ _ rfl rfl ⟨rfl, Nat.le_refl _, fun i j hi hj => .eq _ _ rfl (.int _ _)⟩, trivial⟩ rfl rfl
      · have hb : j = 64 := by simp at hb; omega
        subst hb
        conv => whnf
        repeat (refine ⟨⟨_, rfl⟩, ?_⟩; conv => whnf)
        refine S_join2 (n := 64) (k := k) (f := fun i => if i < 64 then xorB (P i) 54 else 0) (g := g) (ShowsB.sl rfl (Nat.le_refl 2) (fun i hi => ?_)) (by decide) (by omega) (fun cap2 h0 hh0 => ?_)
        · have : i = 0 ∨ i = 1 := by omega
          rcases this with rfl | rfl
          · exact Shows.sl rfl (Nat.le_refl _) fun i hi => by rw [Nat.zero_add]; rfl
          · exact Shows.vsl
        conv => whnf
        repeat (refine ⟨⟨_, rfl⟩, ?_⟩; conv => whnf)
        refine S_Sum256R (n := 64 + k) (f := inF P g) (Shows.sl rfl (Nat.le_of_eq (Nat.zero_add _)) fun i hi => ?_) (by omega) (fun i hi => ?_) (fun s1 hs1 hsb1 => ?_)
        · rw [Nat.zero_add, hh0]; unfold inF catB
          by_cases h : i < 64
          · rw [if_pos h, if_pos h]; exact (if_pos h).symm
          · rw [if_neg h, if_neg h]
        · unfold inF; split
          · exact xorB_lt _ _
          · exact hg _ (by omega)
        rw [rowL]
        conv => whnf
        repeat (refine ⟨⟨_, rfl⟩, ?_⟩; conv => whnf)
        refine S_join2 (n := 64) (k := 32) (f := fun i => if i < 64 then xorB (P i) 92 else 0) (g := s1) (ShowsB.sl rfl (Nat.le_refl 2) (fun i hi => ?_)) (by decide) (by decide) (fun cap3 h1 hh1 => ?_)
        · have : i = 0 ∨ i = 1 := by omega
          rcases this with rfl | rfl
          · exact Shows.sl rfl (Nat.le_refl _) fun i hi => by rw [Nat.zero_add]; rfl
          · exact Shows.any rfl (Nat.le_refl _) fun i hi => rowAtE hi (by omega) rfl
        conv => whnf
        repeat (refine ⟨⟨_, rfl⟩, ?_⟩; conv => whnf)
        refine S_Sum256R (n := 96) (f := outF P s1) (Shows.sl rfl (Nat.le_of_eq (Nat.zero_add _)) fun i hi => ?_) (by decide) (fun i hi => ?_) (fun s2 hs2 hsb2 => ?_)
        · rw [Nat.zero_add, hh1]; unfold outF catB
          by_cases h : i < 64
          · rw [if_pos h, if_pos h]; exact (if_pos h).symm
          · rw [if_neg h, if_neg h]
        · unfold outF; split
          · exact xorB_lt _ _
          · exact hsb1 _
        rw [rowL]
        conv => whnf
        repeat (refine ⟨⟨_, rfl⟩, ?_⟩; conv => whnf)
        have e9 : s2 = M := by rw [hs2, hM, hs1]
        subst e9
        exact outRow2 rfl
  · have hc : ¬ 64 < n := by simp at hc; omega
    have hPs : ∀ i, i < n → P i = f i := fun i h => by rw [hP' i hc, if_pos h]
    have hP0 : ∀ i, ¬ i < n → P i = 0 := fun i h => by rw [hP' i hc, if_neg h]
    conv => whnf
    repeat (refine ⟨⟨_, rfl⟩, ?_⟩; conv => whnf)
    refine loop_wk mixed (I := fun q l m => ∃ (j : Nat), l = [(0, .vsl 1 n c1 (bytesG f)), (1, .vsl 1 k c2 (bytesG g)), (4, .ptr 0 0 0), (5, .ptr 1 0 0), (6, .ptr 2 0 0), (8, .int .i64 j)] ∧ m = [some ⟨1, 32, fun _ _ => .int .u8 0⟩, some ⟨1, 64, bytesG (fun i => if i < j then xorB (P i) 54 else 0)⟩, some ⟨1, 64, bytesG (fun i => if i < j then xorB (P i) 92 else 0)⟩] ∧ q + j = 64) 64
      (l0 := [(0, .vsl 1 n c1 (bytesG f)), (1, .vsl 1 k c2 (bytesG g)), (4, .ptr 0 0 0), (5, .ptr 1 0 0), (6, .ptr 2 0 0), (8, .int .i64 (0 : Nat))]) (m0 := [some ⟨1, 32, fun _ _ => .int .u8 0⟩, some ⟨1, 64, bytesG (fun i => if i < 0 then xorB (P i) 54 else 0)⟩, some ⟨1, 64, bytesG (fun i => if i < 0 then xorB (P i) 92 else 0)⟩]) [some 0, some 1, some 2] ⟨0, rfl, rfl, rfl⟩ ?_ ?_
    · exact .mk0 ⟨.eq _ _ rfl (.vsl _ _ _ _ rfl (fun _ _ _ _ => .int _ _)), .eq _ _ rfl (.vsl _ _ _ _ rfl (fun _ _ _ _ => .int _ _)), .ptr _ _ _ _ rfl, .ptr _ _ _ _ rfl, .ptr _ _ _ _ rfl, Flat.i rfl, trivial⟩ ⟨.old 0 0 _ _ rfl rfl ⟨rfl, Nat.le_refl _, fun i j hi hj => oneU0 hj rfl⟩, .old 1 1 _ _ rfl rfl ⟨rfl, Nat.le_refl _, fun i j hi hj => zeroW hj rfl⟩, .old 2 2 _ _ rfl rfl ⟨rfl, Nat.le_refl _, fun i j hi hj => zeroW hj rfl⟩, trivial⟩ rfl rfl
    · rintro q l m ⟨j, rfl, rfl, hq⟩
      conv => whnf
      repeat (refine ⟨⟨_, rfl⟩, ?_⟩; conv => whnf)
      refine condB_mk (fun hb => ?_) (fun hb => ?_)
      · have hb : j < 64 := by simp at hb; omega
        conv => whnf
        repeat (refine ⟨⟨_, rfl⟩, ?_⟩; conv => whnf)
        refine condB_mk (fun hb2 => ?_) (fun hb2 => ?_)
        · have hb2 : j < n := by simp at hb2; omega
          conv => whnf
          repeat (refine ⟨⟨_, rfl⟩, ?_⟩; conv => whnf)
          refine condB_ok (by simp; omega) ?_
          conv => whnf
          repeat (refine ⟨⟨_, rfl⟩, ?_⟩; conv => whnf)
          refine condB_ok (by simp; omega) ?_
          conv => whnf
          repeat (refine ⟨⟨_, rfl⟩, ?_⟩; conv => whnf)
          refine condB_ok (by simp [roomG, Nat.ble_eq]; omega) ?_
          conv => whnf
          repeat (refine ⟨⟨_, rfl⟩, ?_⟩; conv => whnf)
          refine condB_ok (by simp; omega) ?_
          conv => whnf
          repeat (refine ⟨⟨_, rfl⟩, ?_⟩; conv => whnf)
          refine condB_ok (by simp [roomG, Nat.ble_eq]; omega) ?_
          conv => whnf
          repeat (refine ⟨⟨_, rfl⟩, ?_⟩; conv => whnf)
          have e5 : IntKind.i64.wrap ((j : Int) + 1) = ((j + 1 : Nat) : Int) := by rw [w64 (by omega) (by omega)]; omega
          refine ⟨q - 1, [(0, .vsl 1 n c1 (bytesG f)), (1, .vsl 1 k c2 (bytesG g)), (4, .ptr 0 0 0), (5, .ptr 1 0 0), (6, .ptr 2 0 0), (8, .int .i64 ((j + 1 : Nat) : Int))], [some ⟨1, 32, fun _ _ => .int .u8 0⟩, some ⟨1, 64, bytesG (fun i => if i < j + 1 then xorB (P i) 54 else 0)⟩, some ⟨1, 64, bytesG (fun i => if i < j + 1 then xorB (P i) 92 else 0)⟩], [some 0, some 1, some 2], by omega, ⟨j + 1, rfl, rfl, by omega⟩, ?_⟩
          exact .mk0 ⟨.eq _ _ rfl (.vsl _ _ _ _ rfl (fun _ _ _ _ => .int _ _)), .eq _ _ rfl (.vsl _ _ _ _ rfl (fun _ _ _ _ => .int _ _)), .ptr _ _ _ _ rfl, .ptr _ _ _ _ rfl, .ptr _ _ _ _ rfl, Flat.i e5, trivial⟩ ⟨.old 0 0 _ _ rfl rfl ⟨rfl, Nat.le_refl _, fun i j hi hj => .eq _ _ rfl (.int _ _)⟩, .old 1 1 _ _ rfl rfl ⟨rfl, Nat.le_refl _, fun a b ha hb => xorW hb rfl (hPs j hb2).symm (Nat.zero_add _) rfl⟩, .old 2 2 _ _ rfl rfl ⟨rfl, Nat.le_refl _, fun a b ha hb => xorW hb rfl (hPs j hb2).symm (Nat.zero_add _) rfl⟩, trivial⟩ rfl rfl
        · have hb2 : ¬ j < n := by simp at hb2; omega
          conv => whnf
          repeat (refine ⟨⟨_, rfl⟩, ?_⟩; conv => whnf)
          refine condB_ok (by simp; omega) ?_
          conv => whnf
          repeat (refine ⟨⟨_, rfl⟩, ?_⟩; conv => whnf)
          refine condB_ok (by simp [roomG, Nat.ble_eq]; omega) ?_
          conv => whnf
          repeat (refine ⟨⟨_, rfl⟩, ?_⟩; conv => whnf)
          refine condB_ok (by simp; omega) ?_
          conv => whnf
          repeat (refine ⟨⟨_, rfl⟩, ?_⟩; conv => whnf)
          refine condB_ok (by simp [roomG, Nat.ble_eq]; omega) ?_
          conv => whnf
          repeat (refine ⟨⟨_, rfl⟩, ?_⟩; conv => whnf)
          have e5 : IntKind.i64.wrap ((j : Int) + 1) = ((j + 1 : Nat) : Int) := by rw [w64 (by omega) (by omega)]; omega
          refine ⟨q - 1, [(0, .vsl 1 n c1 (bytesG f)), (1, .vsl 1 k c2 (bytesG g)), (4, .ptr 0 0 0), (5, .ptr 1 0 0), (6, .ptr 2 0 0), (8, .int .i64 ((j + 1 : Nat) : Int))], [some ⟨1, 32, fun _ _ => .int .u8 0⟩, some ⟨1, 64, bytesG (fun i => if i < j + 1 then xorB (P i) 54 else 0)⟩, some ⟨1, 64, bytesG (fun i => if i < j + 1 then xorB (P i) 92 else 0)⟩], [some 0, some 1, some 2], by omega, ⟨j + 1, rfl, rfl, by omega⟩, ?_⟩
          exact .mk0 ⟨.eq _ _ rfl (.vsl _ _ _ _ rfl (fun _ _ _ _ => .int _ _)), .eq _ _ rfl (.vsl _ _ _ _ rfl (fun _ _ _ _ => .int _ _)), .ptr _ _ _ _ rfl, .ptr _ _ _ _ rfl, .ptr _ _ _ _ rfl, Flat.i e5, trivial⟩ ⟨.old 0 0 _ _ rfl rfl ⟨rfl, Nat.le_refl _, fun i j hi hj => .eq _ _ rfl (.int _ _)⟩, .old 1 1 _ _ rfl rfl ⟨rfl, Nat.le_refl _, fun a b ha hb => xorW hb rfl (hP0 j hb2).symm (Nat.zero_add _) rfl⟩, .old 2 2 _ _ rfl rfl ⟨rfl, Nat.le_refl _, fun a b ha hb => xorW hb rfl (hP0 j hb2).symm (Nat.zero_add _) rfl⟩, trivial⟩ rfl rfl
      · have hb : j = 64 := by simp at hb; omega
        subst hb
        conv => whnf
        repeat (refine ⟨⟨_, rfl⟩, ?_⟩; conv => whnf)
        refine S_join2 (n := 64) (k := k) (f := fun i => if i < 64 then xorB (P i) 54 else 0) (g := g) (ShowsB.sl rfl (Nat.le_refl 2) (fun i hi => ?_)) (by decide) (by omega) (fun cap2 h0 hh0 => ?_)
        · have : i = 0 ∨ i = 1 := by omega
          rcases this with rfl | rfl
          · exact Shows.sl rfl (Nat.le_refl _) fun i hi => by rw [Nat.zero_add]; rfl
          · exact Shows.vsl
        conv => whnf
        repeat (refine ⟨⟨_, rfl⟩, ?_⟩; conv => whnf)
        refine S_Sum256R (n := 64 + k) (f := inF P g) (Shows.sl rfl (Nat.le_of_eq (Nat.zero_add _)) fun i hi => ?_) (by omega) (fun i hi => ?_) (fun s1 hs1 hsb1 => ?_)
        · rw [Nat.zero_add, hh0]; unfold inF catB
          by_cases h : i < 64
          · rw [if_pos h, if_pos h]; exact (if_pos h).symm
          · rw [if_neg h, if_neg h]
        · unfold inF; split
          · exact xorB_lt _ _
          · exact hg _ (by omega)
        rw [rowL]
        conv => whnf
        repeat (refine ⟨⟨_, rfl⟩, ?_⟩; conv => whnf)
        refine S_join2 (n := 64) (k := 32) (f := fun i => if i < 64 then xorB (P i) 92 else 0) (g := s1) (ShowsB.sl rfl (Nat.le_refl 2) (fun i hi => ?_)) (by decide) (by decide) (fun cap3 h1 hh1 => ?_)
        · have : i = 0 ∨ i = 1 := by omega
          rcases this with rfl | rfl
          · exact Shows.sl rfl (Nat.le_refl _) fun i hi => by rw [Nat.zero_add]; rfl
          · exact Shows.any rfl (Nat.le_refl _) fun i hi => rowAtE hi (by omega) rfl
        conv => whnf
        repeat (refine ⟨⟨_, rfl⟩, ?_⟩; conv => whnf)
        refine S_Sum256R (n := 96) (f := outF P s1) (Shows.sl rfl (Nat.le_of_eq (Nat.zero_add _)) fun i hi => ?_) (by decide) (fun i hi => ?_) (fun s2 hs2 hsb2 => ?_)
        · rw [Nat.zero_add, hh1]; unfold outF catB
          by_cases h : i < 64
          · rw [if_pos h, if_pos h]; exact (if_pos h).symm
          · rw [if_neg h, if_neg h]
        · unfold outF; split
          · exact xorB_lt _ _
          · exact hsb1 _
        rw [rowL]
        conv => whnf
        repeat (refine ⟨⟨_, rfl⟩, ?_⟩; conv => whnf)
        have e9 : s2 = M := by rw [hs2, hM, hs1]
        subst e9
        exact outRow2 rfl
theorem S_RMac {m : Mem} {x y : AV} {n k : Nat} {f g : Nat → Int} {K : AV → Mem → Prop} (hx : Shows m x n f) (hy : Shows m y k g) (hn : n ≤ 900000) (hk : k ≤ 900000) (hf : ∀ i, i < n → 0 ≤ f i ∧ f i ≤ 255) (hg : ∀ i, i < k → 0 ≤ g i ∧ g i ≤ 255)
    (h : ∀ s, s = macB n f k g → (∀ i, 0 ≤ s i ∧ s i ≤ 255) → K (.agg (rowL s)) m) : ACall Pg F_witanref04_Mac [x, y] m K := by
  obtain ⟨c1, h1⟩ := hx
  obtain ⟨c2, h2⟩ := hy
  refine lift_flat (S_RMac0 n c1 f k c2 g hn hk hf hg) (.cons _ _ _ _ h1 (.cons _ _ _ _ h2 .nil)) ?_
  rintro v rfl
  exact h _ rfl (sumB_lt _ _)
end Go.Proofs.Ytjflfecdeicccaa
end

section
/- The keyed sum of the program; no condition. -/
set_option linter.unusedVariables false
set_option linter.unusedSimpArgs false
set_option maxRecDepth 100000
set_option pp.maxSteps 300
namespace Go.Proofs.Ytjflfecdeicccaa
open Go Go.Wit

set_option maxHeartbeats 1000000 in
theorem S_Mac0 (n c1 : Nat) (f : Nat → Int) (k c2 : Nat) (g : Nat → Int) (hn : n ≤ 900000) (hk : k ≤ 900000) (hf : ∀ i, i < n → 0 ≤ f i ∧ f i ≤ 255) (hg : ∀ i, i < k → 0 ≤ g i ∧ g i ≤ 255) :
    ACall Pg F_sha_Mac [.vsl 1 n c1 (bytesG f), .vsl 1 k c2 (bytesG g)] [] (fun v _ => v = .agg (rowL (macB n f k g)) ∧ Flat true v) := by
  have hP : ∀ i, 64 < n → keyP n f i = if i < 32 then sumB n f i else 0 := fun i h => by simp only [keyP, keyN, keyG, if_pos h]
  have hP' : ∀ i, ¬ 64 < n → keyP n f i = if i < n then f i else 0 := fun i h => by simp only [keyP, keyN, keyG, if_neg h]
  have hM : macB n f k g = sumB 96 (outF (keyP n f) (sumB (64 + k) (inF (keyP n f) g))) := rfl
  generalize keyP n f = P at *
  generalize hM2 : macB n f k g = M at *
  refine B_sha_Mac ⟨rfl, ?_⟩
  conv => whnf
  repeat (refine ⟨⟨_, rfl⟩, ?_⟩; conv => whnf)
  refine condB_mk (fun hc => ?_) (fun hc => ?_)
  · have hc : 64 < n := by simp at hc; omega
    conv => whnf
    repeat (refine ⟨⟨_, rfl⟩, ?_⟩; conv => whnf)
    refine S_SumR (f := f) Shows.vsl (by omega) hf (fun s hs hsb => ?_)
    rw [rowL]
    conv => whnf
    repeat (refine ⟨⟨_, rfl⟩, ?_⟩; conv => whnf)
    refine loop_wk mixed (I := fun q l m => ∃ (j : Nat), l = [(1, .vsl 1 k c2 (bytesG g)), (4, .ptr 0 0 0), (6, .sl 1 0 64 64), (7, .sl 2 0 64 64), (25, .int .i64 (64 : Nat)), (26, .int .i64 j)] ∧
        m = [some ⟨1, 32, fun _ _ => .int .u8 0⟩, some ⟨1, 64, bytesG (fun i => if i < j then xorB (P i) 54 else P i)⟩, some ⟨1, 64, bytesG (fun i => if i < j then xorB (P i) 92 else P i)⟩] ∧ q + j = 64) 64
      (l0 := [(1, .vsl 1 k c2 (bytesG g)), (4, .ptr 0 0 0), (6, .sl 1 0 64 64), (7, .sl 2 0 64 64), (25, .int .i64 (64 : Nat)), (26, .int .i64 (0 : Nat))]) (m0 := [some ⟨1, 32, fun _ _ => .int .u8 0⟩, some ⟨1, 64, bytesG (fun i => if i < 0 then xorB (P i) 54 else P i)⟩, some ⟨1, 64, bytesG (fun i => if i < 0 then xorB (P i) 92 else P i)⟩]) [some 0, some 2, some 3] ⟨0, rfl, rfl, rfl⟩ ?_ ?_
    · refine .mk0 ⟨.eq _ _ rfl (.vsl _ _ _ _ rfl (fun _ _ _ _ => .int _ _)), .ptr _ _ _ _ rfl, .sl _ _ _ _ _ rfl, .sl _ _ _ _ _ rfl, Flat.i rfl, Flat.i rfl, trivial⟩ ⟨.old 0 0 _ _ rfl rfl ⟨rfl, Nat.le_refl _, fun i j hi hj => oneU0 hj rfl⟩, .old 1 2 _ _ rfl rfl ⟨rfl, Nat.le_refl _, fun i j hi hj => ?_⟩, .old 2 3 _ _ rfl rfl ⟨rfl, Nat.le_refl _, fun i j hi hj => ?_⟩, trivial⟩ rfl rfl
      · have hj : j < 1 := hj
        obtain rfl : j = 0 := by omega
        exact keyW2 (P := P) (s := s) (a := fun i => xorB (P i) 54) hj (by rw [hP i hc, hs]) rfl
      · have hj : j < 1 := hj
        obtain rfl : j = 0 := by omega
        exact keyW2 (P := P) (s := s) (a := fun i => xorB (P i) 92) hj (by rw [hP i hc, hs]) rfl
    · rintro q l m ⟨j, rfl, rfl, hq⟩
      conv => whnf
      repeat (refine ⟨⟨_, rfl⟩, ?_⟩; conv => whnf)
      refine condB_mk (fun hb => ?_) (fun hb => ?_)
      · have hb : j < 64 := by simp at hb; omega
        conv => whnf
        repeat (refine ⟨⟨_, rfl⟩, ?_⟩; conv => whnf)
        refine condB_ok (by simp; omega) ?_
        conv => whnf
        repeat (refine ⟨⟨_, rfl⟩, ?_⟩; conv => whnf)
        simp only [Int.toNat_natCast, Nat.zero_add]
        refine condB_ok (by simp [roomG, Nat.ble_eq]; omega) ?_
        conv => whnf
        repeat (refine ⟨⟨_, rfl⟩, ?_⟩; conv => whnf)
        refine condB_ok (by simp; omega) ?_
        conv => whnf
        repeat (refine ⟨⟨_, rfl⟩, ?_⟩; conv => whnf)
        simp only [Int.toNat_natCast, Nat.zero_add]
        refine condB_ok (by simp [roomG, Nat.ble_eq]; omega) ?_
        conv => whnf
        repeat (refine ⟨⟨_, rfl⟩, ?_⟩; conv => whnf)
        refine condB_ok (by simp; omega) ?_
        conv => whnf
        repeat (refine ⟨⟨_, rfl⟩, ?_⟩; conv => whnf)
        simp only [Int.toNat_natCast, Nat.zero_add]
        refine condB_ok (by simp [roomG, Nat.ble_eq]; omega) ?_
        conv => whnf
        repeat (refine ⟨⟨_, rfl⟩, ?_⟩; conv => whnf)
        refine condB_ok (by simp; omega) ?_
        conv => whnf
        repeat (refine ⟨⟨_, rfl⟩, ?_⟩; conv => whnf)
        simp only [Int.toNat_natCast, Nat.zero_add]
        refine condB_ok (by simp [roomG, Nat.ble_eq]; omega) ?_
        conv => whnf
        repeat (refine ⟨⟨_, rfl⟩, ?_⟩; conv => whnf)
        have e5 : IntKind.i64.wrap ((j : Int) + 1) = ((j + 1 : Nat) : Int) := by rw [w64 (by omega) (by omega)]; omega
        have e6 : ∀ x, bitsV .xor .u8 (if j < j then x else P j) 54 = xorB (P j) 54 := fun x => by rw [if_neg (Nat.lt_irrefl _)]; rfl
        have e7 : ∀ x, bitsV .xor .u8 (if j < j then x else P j) 92 = xorB (P j) 92 := fun x => by rw [if_neg (Nat.lt_irrefl _)]; rfl
        refine ⟨q - 1, [(1, .vsl 1 k c2 (bytesG g)), (4, .ptr 0 0 0), (6, .sl 1 0 64 64), (7, .sl 2 0 64 64), (25, .int .i64 (64 : Nat)), (26, .int .i64 ((j + 1 : Nat) : Int))], [some ⟨1, 32, fun _ _ => .int .u8 0⟩, some ⟨1, 64, bytesG (fun i => if i < j + 1 then xorB (P i) 54 else P i)⟩, some ⟨1, 64, bytesG (fun i => if i < j + 1 then xorB (P i) 92 else P i)⟩], [some 0, some 1, some 2], by omega, ⟨j + 1, rfl, rfl, by omega⟩, ?_⟩
        refine .mk0 ⟨.eq _ _ rfl (.vsl _ _ _ _ rfl (fun _ _ _ _ => .int _ _)), .ptr _ _ _ _ rfl, .sl _ _ _ _ _ rfl, .sl _ _ _ _ _ rfl, Flat.i rfl, Flat.i e5, trivial⟩ ⟨.old 0 0 _ _ rfl rfl ⟨rfl, Nat.le_refl _, fun i j hi hj => .eq _ _ rfl (.int _ _)⟩, .old 1 1 _ _ rfl rfl ⟨rfl, Nat.le_refl _, fun a b ha hb => ?_⟩, .old 2 2 _ _ rfl rfl ⟨rfl, Nat.le_refl _, fun a b ha hb => ?_⟩, trivial⟩ rfl rfl
        · exact updB (a := fun i => xorB (P i) 54) (z := P) hb (e6 _) rfl
        · exact updB (a := fun i => xorB (P i) 92) (z := P) hb (e7 _) rfl
      · have hb : j = 64 := by simp at hb; omega
        subst hb
        conv => whnf
        repeat (refine ⟨⟨_, rfl⟩, ?_⟩; conv => whnf)
        refine condB_ok (app_ok (by simp) rfl rfl (by omega) (by omega)) (fun cap1 hcap1 => ?_)
        conv => whnf
        repeat (refine ⟨⟨_, rfl⟩, ?_⟩; conv => whnf)
        refine S_SumR (n := 64 + k) (f := inF P g) (Shows.any rfl (by simp) (fun i hi => ?_)) (by omega) (fun i hi => ?_) (fun s1 hs1 hsb1 => ?_)
        · exact catP (fun i h => by simp only [inF, if_pos h]) (fun i h => by simp only [inF]; rw [if_neg (by omega), show 64 + i - 64 = i by omega]) (k := k) (fun i h => rfl) hi
        · by_cases h : i < 64
          · simp only [inF, if_pos h]; exact xorB_lt _ _
          · simp only [inF, if_neg h]; exact hg _ (by omega)
        rw [rowL]
        conv => whnf
        repeat (refine ⟨⟨_, rfl⟩, ?_⟩; conv => whnf)
        intro cap2 hcap2
        conv => whnf
        repeat (refine ⟨⟨_, rfl⟩, ?_⟩; conv => whnf)
        refine S_SumR (n := 96) (f := outF P s1) (Shows.any rfl (by simp) (fun i hi => ?_)) (by omega) (fun i hi => ?_) (fun s2 hs2 hsb2 => ?_)
        · exact catP (fun i h => by simp only [outF, if_pos h]) (fun i h => by simp only [outF]; rw [if_neg (by omega), show 64 + i - 64 = i by omega]) (k := 32) (fun i h => rowAt h rfl) hi
        · by_cases h : i < 64
          · simp only [outF, if_pos h]; exact xorB_lt _ _
          · simp only [outF, if_neg h]; exact hsb1 _
        rw [rowL]
        conv => whnf
        repeat (refine ⟨⟨_, rfl⟩, ?_⟩; conv => whnf)
        have e9 : s2 = M := by rw [hs2, hM, hs1]
        subst e9
        exact outRow2 rfl
  · have hc : ¬ 64 < n := by simp at hc; omega
    conv => whnf
    repeat (refine ⟨⟨_, rfl⟩, ?_⟩; conv => whnf)
    refine loop_wk mixed (I := fun q l m => ∃ (j : Nat), l = [(1, .vsl 1 k c2 (bytesG g)), (4, .ptr 0 0 0), (6, .sl 1 0 64 64), (7, .sl 2 0 64 64), (25, .int .i64 (64 : Nat)), (26, .int .i64 j)] ∧
        m = [some ⟨1, 32, fun _ _ => .int .u8 0⟩, some ⟨1, 64, bytesG (fun i => if i < j then xorB (P i) 54 else P i)⟩, some ⟨1, 64, bytesG (fun i => if i < j then xorB (P i) 92 else P i)⟩] ∧ q + j = 64) 64
      (l0 := [(1, .vsl 1 k c2 (bytesG g)), (4, .ptr 0 0 0), (6, .sl 1 0 64 64), (7, .sl 2 0 64 64), (25, .int .i64 (64 : Nat)), (26, .int .i64 (0 : Nat))]) (m0 := [some ⟨1, 32, fun _ _ => .int .u8 0⟩, some ⟨1, 64, bytesG (fun i => if i < 0 then xorB (P i) 54 else P i)⟩, some ⟨1, 64, bytesG (fun i => if i < 0 then xorB (P i) 92 else P i)⟩]) [some 0, some 1, some 2] ⟨0, rfl, rfl, rfl⟩ ?_ ?_
    · refine .mk0 ⟨.eq _ _ rfl (.vsl _ _ _ _ rfl (fun _ _ _ _ => .int _ _)), .ptr _ _ _ _ rfl, .sl _ _ _ _ _ rfl, .sl _ _ _ _ _ rfl, Flat.i rfl, Flat.i rfl, trivial⟩ ⟨.old 0 0 _ _ rfl rfl ⟨rfl, Nat.le_refl _, fun i j hi hj => oneU0 hj rfl⟩, .old 1 1 _ _ rfl rfl ⟨rfl, Nat.le_refl _, fun i j hi hj => ?_⟩, .old 2 2 _ _ rfl rfl ⟨rfl, Nat.le_refl _, fun i j hi hj => ?_⟩, trivial⟩ rfl rfl
      · have hj : j < 1 := hj
        obtain rfl : j = 0 := by omega
        exact keyW1 (P := P) (f := f) (n := n) (a := fun i => xorB (P i) 54) hj (by omega) (hP' i hc) rfl
      · have hj : j < 1 := hj
        obtain rfl : j = 0 := by omega
        exact keyW1 (P := P) (f := f) (n := n) (a := fun i => xorB (P i) 92) hj (by omega) (hP' i hc) rfl
    · rintro q l m ⟨j, rfl, rfl, hq⟩
      conv => whnf
      repeat (refine ⟨⟨_, rfl⟩, ?_⟩; conv => whnf)
      refine condB_mk (fun hb => ?_) (fun hb => ?_)
      · have hb : j < 64 := by simp at hb; omega
        conv => whnf
        repeat (refine ⟨⟨_, rfl⟩, ?_⟩; conv => whnf)
        refine condB_ok (by simp; omega) ?_
        conv => whnf
        repeat (refine ⟨⟨_, rfl⟩, ?_⟩; conv => whnf)
        simp only [Int.toNat_natCast, Nat.zero_add]
        refine condB_ok (by simp [roomG, Nat.ble_eq]; omega) ?_
        conv => whnf
        repeat (refine ⟨⟨_, rfl⟩, ?_⟩; conv => whnf)
        refine condB_ok (by simp; omega) ?_
        conv => whnf
        repeat (refine ⟨⟨_, rfl⟩, ?_⟩; conv => whnf)
        simp only [Int.toNat_natCast, Nat.zero_add]
        refine condB_ok (by simp [roomG, Nat.ble_eq]; omega) ?_
        conv => whnf
        repeat (refine ⟨⟨_, rfl⟩, ?_⟩; conv => whnf)
        refine condB_ok (by simp; omega) ?_
        conv => whnf
        repeat (refine ⟨⟨_, rfl⟩, ?_⟩; conv => whnf)
        simp only [Int.toNat_natCast, Nat.zero_add]
        refine condB_ok (by simp [roomG, Nat.ble_eq]; omega) ?_
        conv => whnf
        repeat (refine ⟨⟨_, rfl⟩, ?_⟩; conv => whnf)
        refine condB_ok (by simp; omega) ?_
        conv => whnf
        repeat (refine ⟨⟨_, rfl⟩, ?_⟩; conv => whnf)
        simp only [Int.toNat_natCast, Nat.zero_add]
        refine condB_ok (by simp [roomG, Nat.ble_eq]; omega) ?_
        conv => whnf
        repeat (refine ⟨⟨_, rfl⟩, ?_⟩; conv => whnf)
        have e5 : IntKind.i64.wrap ((j : Int) + 1) = ((j + 1 : Nat) : Int) := by rw [w64 (by omega) (by omega)]; omega
        have e6 : ∀ x, bitsV .xor .u8 (if j < j then x else P j) 54 = xorB (P j) 54 := fun x => by rw [if_neg (Nat.lt_irrefl _)]; rfl
        have e7 : ∀ x, bitsV .xor .u8 (if j < j then x else P j) 92 = xorB (P j) 92 := fun x => by rw [if_neg (Nat.lt_irrefl _)]; rfl
        refine ⟨q - 1, [(1, .vsl 1 k c2 (bytesG g)), (4, .ptr 0 0 0), (6, .sl 1 0 64 64), (7, .sl 2 0 64 64), (25, .int .i64 (64 : Nat)), (26, .int .i64 ((j + 1 : Nat) : Int))], [some ⟨1, 32, fun _ _ => .int .u8 0⟩, some ⟨1, 64, bytesG (fun i => if i < j + 1 then xorB (P i) 54 else P i)⟩, some ⟨1, 64, bytesG (fun i => if i < j + 1 then xorB (P i) 92 else P i)⟩], [some 0, some 1, some 2], by omega, ⟨j + 1, rfl, rfl, by omega⟩, ?_⟩
        refine .mk0 ⟨.eq _ _ rfl (.vsl _ _ _ _ rfl (fun _ _ _ _ => .int _ _)), .ptr _ _ _ _ rfl, .sl _ _ _ _ _ rfl, .sl _ _ _ _ _ rfl, Flat.i rfl, Flat.i e5, trivial⟩ ⟨.old 0 0 _ _ rfl rfl ⟨rfl, Nat.le_refl _, fun i j hi hj => .eq _ _ rfl (.int _ _)⟩, .old 1 1 _ _ rfl rfl ⟨rfl, Nat.le_refl _, fun a b ha hb => ?_⟩, .old 2 2 _ _ rfl rfl ⟨rfl, Nat.le_refl _, fun a b ha hb => ?_⟩, trivial⟩ rfl rfl
        · exact updB (a := fun i => xorB (P i) 54) (z := P) hb (e6 _) rfl
        · exact updB (a := fun i => xorB (P i) 92) (z := P) hb (e7 _) rfl
      · have hb : j = 64 := by simp at hb; omega
        subst hb
        conv => whnf
        repeat (refine ⟨⟨_, rfl⟩, ?_⟩; conv => whnf)
        refine condB_ok (app_ok (by simp) rfl rfl (by omega) (by omega)) (fun cap1 hcap1 => ?_)
        conv => whnf
        repeat (refine ⟨⟨_, rfl⟩, ?_⟩; conv => whnf)
        refine S_SumR (n := 64 + k) (f := inF P g) (Shows.any rfl (by simp) (fun i hi => ?_)) (by omega) (fun i hi => ?_) (fun s1 hs1 hsb1 => ?_)
        · exact catP (fun i h => by simp only [inF, if_pos h]) (fun i h => by simp only [inF]; rw [if_neg (by omega), show 64 + i - 64 = i by omega]) (k := k) (fun i h => rfl) hi
        · by_cases h : i < 64
          · simp only [inF, if_pos h]; exact xorB_lt _ _
          · simp only [inF, if_neg h]; exact hg _ (by omega)
        rw [rowL]
        conv => whnf
        repeat (refine ⟨⟨_, rfl⟩, ?_⟩; conv => whnf)
        intro cap2 hcap2
        conv => whnf
        repeat (refine ⟨⟨_, rfl⟩, ?_⟩; conv => whnf)
        refine S_SumR (n := 96) (f := outF P s1) (Shows.any rfl (by simp) (fun i hi => ?_)) (by omega) (fun i hi => ?_) (fun s2 hs2 hsb2 => ?_)
        · exact catP (fun i h => by simp only [outF, if_pos h]) (fun i h => by simp only [outF]; rw [if_neg (by omega), show 64 + i - 64 = i by omega]) (k := 32) (fun i h => rowAt h rfl) hi
        · by_cases h : i < 64
          · simp only [outF, if_pos h]; exact xorB_lt _ _
          · simp only [outF, if_neg h]; exact hsb1 _
        rw [rowL]
        conv => whnf
        repeat (refine ⟨⟨_, rfl⟩, ?_⟩; conv => whnf)
        have e9 : s2 = M := by rw [hs2, hM, hs1]
        subst e9
        exact outRow2 rfl

theorem S_Mac {m : Mem} {x y : AV} {n k : Nat} {f g : Nat → Int} {K : AV → Mem → Prop} (hx : Shows m x n f) (hy : Shows m y k g) (hn : n ≤ 900000) (hk : k ≤ 900000) (hf : ∀ i, i < n → 0 ≤ f i ∧ f i ≤ 255) (hg : ∀ i, i < k → 0 ≤ g i ∧ g i ≤ 255)
    (h : ∀ s, s = macB n f k g → (∀ i, 0 ≤ s i ∧ s i ≤ 255) → K (.agg (rowL s)) m) : ACall Pg F_sha_Mac [x, y] m K := by
  obtain ⟨c1, hl⟩ := hx
  obtain ⟨c2, hl2⟩ := hy
  refine lift_flat (S_Mac0 n c1 f k c2 g hn hk hf hg) (.cons _ _ _ _ hl (.cons _ _ _ _ hl2 .nil)) ?_
  rintro v rfl
  exact h _ rfl (sumB_lt _ _)

end Go.Proofs.Ytjflfecdeicccaa
end

section
/- The sum of the text abc; no condition. -/
set_option linter.unusedVariables false
set_option linter.unusedSimpArgs false
set_option maxRecDepth 100000
set_option pp.maxSteps 300
namespace Go.Proofs.Ytjflfecdeicccaa
open Go Go.Wit

def abcL : List Int := [97, 98, 99]
def abcW : List Int := [1633837952, 0, 0, 0, 0, 0, 0, 0, 0, 0, 0, 0, 0, 0, 0, 24, 1633837952, 983040, 2108187653, 1610613702, 1050508152, 25426944, 316456923, 3806512014, 3357629466, 3073800610, 3854317833, 845560923, 2636160359, 3968280267, 1881225380, 3552024379, 2482346367, 996719219, 2952069057, 4043988066, 176896406, 1924104970, 2483675966, 610538786, 2672279444, 4037431130, 1042573945, 657669027, 206005234, 2215296807, 2049510749, 106709978, 4215179723, 3430291419, 3118885940, 2845390439, 2226839261, 3256115900, 344409900, 2987358873, 4015503821, 3957764664, 2682456414, 2025622859, 2755645205, 1720397816, 4004225740, 313650667]
def abcR : List (List Int) := [[1779033703, 3144134277, 1013904242, 2773480762, 1359893119, 2600822924, 528734635, 1541459225],
  [1567288269, 1779033703, 3144134277, 1013904242, 4197074466, 1359893119, 2600822924, 528734635],
  [1516951981, 1567288269, 1779033703, 3144134277, 2026797449, 4197074466, 1359893119, 2600822924],
  [3368241063, 1516951981, 1567288269, 1779033703, 4180228587, 2026797449, 4197074466, 1359893119],
  [3578852966, 3368241063, 1516951981, 1567288269, 618661968, 4180228587, 2026797449, 4197074466],
  [71342698, 3578852966, 3368241063, 1516951981, 1135452741, 618661968, 4180228587, 2026797449],
  [725748213, 71342698, 3578852966, 3368241063, 1900175533, 1135452741, 618661968, 4180228587],
  [3842179968, 725748213, 71342698, 3578852966, 2603066369, 1900175533, 1135452741, 618661968],
  [2241887071, 3842179968, 725748213, 71342698, 207977081, 2603066369, 1900175533, 1135452741],
  [2382687417, 2241887071, 3842179968, 725748213, 852110732, 207977081, 2603066369, 1900175533],
  [2357671019, 2382687417, 2241887071, 3842179968, 482944406, 852110732, 207977081, 2603066369],
  [1201185780, 2357671019, 2382687417, 2241887071, 1131095016, 482944406, 852110732, 207977081],
  [4146054569, 1201185780, 2357671019, 2382687417, 2171590377, 1131095016, 482944406, 852110732],
  [2274437520, 4146054569, 1201185780, 2357671019, 509051416, 2171590377, 1131095016, 482944406],
  [3643992854, 2274437520, 4146054569, 1201185780, 1952073950, 509051416, 2171590377, 1131095016],
  [3227803614, 3643992854, 2274437520, 4146054569, 194179596, 1952073950, 509051416, 2171590377],
  [2969183118, 3227803614, 3643992854, 2274437520, 123276749, 194179596, 1952073950, 509051416],
  [567974555, 2969183118, 3227803614, 3643992854, 2150900380, 123276749, 194179596, 1952073950],
  [3271285201, 567974555, 2969183118, 3227803614, 2221859924, 2150900380, 123276749, 194179596],
  [4269243327, 3271285201, 567974555, 2969183118, 3431569761, 2221859924, 2150900380, 123276749],
  [3790736435, 4269243327, 3271285201, 567974555, 2959311225, 3431569761, 2221859924, 2150900380],
  [2647034723, 3790736435, 4269243327, 3271285201, 2329577776, 2959311225, 3431569761, 2221859924],
  [3261099373, 2647034723, 3790736435, 4269243327, 3777329520, 2329577776, 2959311225, 3431569761],
  [2812502591, 3261099373, 2647034723, 3790736435, 1240797514, 3777329520, 2329577776, 2959311225],
  [3319086477, 2812502591, 3261099373, 2647034723, 2856829767, 1240797514, 3777329520, 2329577776],
  [472655928, 3319086477, 2812502591, 3261099373, 673443729, 2856829767, 1240797514, 3777329520],
  [3454534525, 472655928, 3319086477, 2812502591, 339230094, 673443729, 2856829767, 1240797514],
  [3056518332, 3454534525, 472655928, 3319086477, 3343672598, 339230094, 673443729, 2856829767],
  [2010346792, 3056518332, 3454534525, 472655928, 3992961016, 3343672598, 339230094, 673443729],
  [909411017, 2010346792, 3056518332, 3454534525, 1628611511, 3992961016, 3343672598, 339230094],
  [2684750640, 909411017, 2010346792, 3056518332, 2917635127, 1628611511, 3992961016, 3343672598],
  [3935906338, 2684750640, 909411017, 2010346792, 17410874, 2917635127, 1628611511, 3992961016],
  [1941126133, 3935906338, 2684750640, 909411017, 3126399250, 17410874, 2917635127, 1628611511],
  [2564891911, 1941126133, 3935906338, 2684750640, 2631529974, 3126399250, 17410874, 2917635127],
  [4267724277, 2564891911, 1941126133, 3935906338, 1495571923, 2631529974, 3126399250, 17410874],
  [2846323596, 4267724277, 2564891911, 1941126133, 140458035, 1495571923, 2631529974, 3126399250],
  [1705037796, 2846323596, 4267724277, 2564891911, 4105175766, 140458035, 1495571923, 2631529974],
  [1101421745, 1705037796, 2846323596, 4267724277, 124953195, 4105175766, 140458035, 1495571923],
  [887035396, 1101421745, 1705037796, 2846323596, 2768741693, 124953195, 4105175766, 140458035],
  [1841658506, 887035396, 1101421745, 1705037796, 4034403272, 2768741693, 124953195, 4105175766],
  [2045405306, 1841658506, 887035396, 1101421745, 519815328, 4034403272, 2768741693, 124953195],
  [3597076326, 2045405306, 1841658506, 887035396, 641019235, 519815328, 4034403272, 2768741693],
  [3745932591, 3597076326, 2045405306, 1841658506, 2206934801, 641019235, 519815328, 4034403272],
  [397020670, 3745932591, 3597076326, 2045405306, 3737995029, 2206934801, 641019235, 519815328],
  [2638983059, 397020670, 3745932591, 3597076326, 4255271982, 3737995029, 2206934801, 641019235],
  [643991573, 2638983059, 397020670, 3745932591, 2819559920, 4255271982, 3737995029, 2206934801],
  [1923828625, 643991573, 2638983059, 397020670, 3077922209, 2819559920, 4255271982, 3737995029],
  [2706117808, 1923828625, 643991573, 2638983059, 3581645993, 3077922209, 2819559920, 4255271982],
  [1098003085, 2706117808, 1923828625, 643991573, 4274981830, 3581645993, 3077922209, 2819559920],
  [91585771, 1098003085, 2706117808, 1923828625, 3178315832, 4274981830, 3581645993, 3077922209],
  [4045142696, 91585771, 1098003085, 2706117808, 1851537676, 3178315832, 4274981830, 3581645993],
  [2047150241, 4045142696, 91585771, 1098003085, 1391578359, 1851537676, 3178315832, 4274981830],
  [2288941602, 2047150241, 4045142696, 91585771, 1227037726, 1391578359, 1851537676, 3178315832],
  [270520975, 2288941602, 2047150241, 4045142696, 1386118400, 1227037726, 1391578359, 1851537676],
  [4117770203, 270520975, 2288941602, 2047150241, 2672265155, 1386118400, 1227037726, 1391578359],
  [1053056219, 4117770203, 270520975, 2288941602, 3842906959, 2672265155, 1386118400, 1227037726],
  [952932627, 1053056219, 4117770203, 270520975, 1422599787, 3842906959, 2672265155, 1386118400],
  [4241590395, 952932627, 1053056219, 4117770203, 2606665836, 1422599787, 3842906959, 2672265155],
  [3227702383, 4241590395, 952932627, 1053056219, 2118385806, 2606665836, 1422599787, 3842906959],
  [4290184306, 3227702383, 4241590395, 952932627, 1837350854, 2118385806, 2606665836, 1422599787],
  [3064893439, 4290184306, 3227702383, 4241590395, 2988158269, 1837350854, 2118385806, 2606665836],
  [3093179625, 3064893439, 4290184306, 3227702383, 2518632596, 2988158269, 1837350854, 2118385806],
  [80891244, 3093179625, 3064893439, 4290184306, 2492278198, 2518632596, 2988158269, 1837350854],
  [3550093669, 80891244, 3093179625, 3064893439, 4212265488, 2492278198, 2518632596, 2988158269],
  [1349398616, 3550093669, 80891244, 3093179625, 1593118500, 4212265488, 2492278198, 2518632596]]
def abcF (i : Nat) : Int := abcL.getD i 0
def wF (i : Nat) : Int := abcW.getD i 0
def rF (k i : Nat) : Int := (abcR.getD k []).getD i 0

theorem abc_words : ∀ k : Fin 64, newW (blkB (padF 3 abcF) 0) k.val wF = wF k.val := by decide +kernel
theorem abc_rounds : ∀ k : Fin 64, ∀ i : Fin 8, rnd (rF k.val) (kTab k.val) (wF k.val) i.val = rF (k.val + 1) i.val := by decide +kernel
theorem abc_start : ∀ i : Fin 8, hTab i.val = rF 0 i.val := by decide +kernel
theorem abc_blocks : padN 3 / 64 = 1 := by decide +kernel

theorem newW_congr {b w w' : Nat → Int} {k : Nat} (h : ∀ i, i < k → w i = w' i) : newW b k w = newW b k w' := by
  unfold newW
  by_cases hk : k < 16
  · rw [if_pos hk, if_pos hk]
  · rw [if_neg hk, if_neg hk, h (k - 16) (by omega), h (k - 15) (by omega), h (k - 7) (by omega), h (k - 2) (by omega)]

theorem Wn_eval {b w : Nat → Int} (h : ∀ k, k < 64 → newW b k w = w k) : ∀ k, k ≤ 64 → ∀ i, i < k → Wn b k i = w i
  | 0, _, i, hi => absurd hi (Nat.not_lt_zero _)
  | k + 1, hk, i, hi => by
    by_cases e : i = k
    · rw [show Wn b (k + 1) i = newW b k (Wn b k) from if_pos e, newW_congr (Wn_eval h k (by omega)), h k (by omega), e]
    · rw [show Wn b (k + 1) i = Wn b k i from if_neg e]
      exact Wn_eval h k (by omega) i (by omega)

theorem rnd_congr {v v' : Nat → Int} {a b : Int} (h : ∀ i, i < 8 → v i = v' i) : ∀ i, i < 8 → rnd v a b i = rnd v' a b i := by
  intro i hi
  have : i = 0 ∨ i = 1 ∨ i = 2 ∨ i = 3 ∨ i = 4 ∨ i = 5 ∨ i = 6 ∨ i = 7 := by omega
  rcases this with rfl | rfl | rfl | rfl | rfl | rfl | rfl | rfl <;> simp only [rnd, oneU, twoU, h 0 (by omega), h 1 (by omega), h 2 (by omega), h 3 (by omega), h 4 (by omega), h 5 (by omega), h 6 (by omega), h 7 (by omega)]

theorem Rn_eval {h w : Nat → Int} {w' : Nat → Int} {r : Nat → Nat → Int} (h0 : ∀ i, i < 8 → h i = r 0 i) (hw : ∀ i, i < 64 → w i = w' i) (hs : ∀ k, k < 64 → ∀ i, i < 8 → rnd (r k) (kTab k) (w' k) i = r (k + 1) i) : ∀ k, k ≤ 64 → ∀ i, i < 8 → Rn h w k i = r k i
  | 0, _, i, hi => h0 i hi
  | k + 1, hk, i, hi => by
    rw [show Rn h w (k + 1) i = rnd (Rn h w k) (kTab k) (w k) i from rfl, rnd_congr (Rn_eval h0 hw hs k (by omega)) i hi, hw k (by omega)]
    exact hs k (by omega) i hi

theorem abc_end (i : Nat) (hi : i < 8) : Hn (padF 3 abcF) (padN 3 / 64) i = addU (rF 0 i) (rF 64 i) := by
  rw [abc_blocks]
  show addU (hTab i) (Rn hTab (Wn (blkB (padF 3 abcF) 0) 64) 64 i) = _
  rw [abc_start ⟨i, hi⟩, Rn_eval (w' := wF) (r := rF) (fun i hi => abc_start ⟨i, hi⟩) (Wn_eval (fun k hk => abc_words ⟨k, hk⟩) 64 (Nat.le_refl _)) (fun k hk i hi => abc_rounds ⟨k, hk⟩ ⟨i, hi⟩) 64 (Nat.le_refl _) i hi]

theorem abc_byte (i : Nat) (hi : i < 32) : sumB 3 abcF i = IntKind.u8.wrap ((addU (rF 0 (i / 4)) (rF 64 (i / 4))).fdiv (2 ^ (24 - 8 * (i % 4)))) := by
  rw [sumB, abc_end _ (by omega)]
theorem abc_0 : sumB 3 abcF 0 = 186 := by rw [abc_byte 0 (by omega)]; decide +kernel
theorem abc_1 : sumB 3 abcF 1 = 120 := by rw [abc_byte 1 (by omega)]; decide +kernel
theorem abc_31 : sumB 3 abcF 31 = 173 := by rw [abc_byte 31 (by omega)]; decide +kernel

theorem wakes_of {f s : Nat → Int} (hf : ∀ i, i < 3 → AV.int .u8 (f i) = .int .u8 (abcL.getD i 0)) (hS : ∀ {m : Mem} {x : AV} {K : AV → Mem → Prop}, Shows m x 3 f → K (.agg (rowL s)) m → ACall Pg F_sha_Sum [x] m K) (h0 : s 0 = 186) (h1 : s 1 = 120) (h2 : s 31 = 173) :
    ACall Pg F_witanlaw04_wakes [] [] (fun v _ => v = .bool true ∧ Flat true v) := by
  refine B_witanlaw04_wakes ⟨rfl, ?_⟩
  conv => whnf
  refine hS (Shows.look (fun i hi => ?_)) ?_
  · have : i = 0 ∨ i = 1 ∨ i = 2 := by omega
    rcases this with rfl | rfl | rfl <;> exact (hf _ (by omega)).symm
  clear hS
  obtain ⟨s', rfl⟩ : ∃ s' : Nat → Int, s = fun i => bif Nat.beq i 0 then 186 else bif Nat.beq i 1 then 120 else bif Nat.beq i 31 then 173 else s' i := by
    refine ⟨s, funext fun i => ?_⟩
    by_cases e0 : i = 0
    · subst e0; exact h0
    by_cases e1 : i = 1
    · subst e1; exact h1
    by_cases e2 : i = 31
    · subst e2; exact h2
    have g : ∀ a b : Nat, a ≠ b → Nat.beq a b = false := fun a b h => by
      cases hb : Nat.beq a b with
      | false => rfl
      | true => exact absurd (Nat.eq_of_beq_eq_true hb) h
    simp only [g _ _ e0, g _ _ e1, g _ _ e2, cond_false]
  rw [rowL]
  conv => whnf
  exact ⟨rfl, .bool _⟩

theorem S_wakes0 : ACall Pg F_witanlaw04_wakes [] [] (fun v _ => v = .bool true ∧ Flat true v) := by
  refine wakes_of (f := abcF) (s := sumB 3 abcF) (fun i hi => rfl) (fun hx h => S_Sum hx (by omega) (fun i hi => ?_) h) abc_0 abc_1 abc_31
  have : ∀ i : Fin 3, 0 ≤ abcF i.val ∧ abcF i.val ≤ 255 := by decide +kernel
  exact this ⟨i, hi⟩

theorem S_wakes {m : Mem} {K : AV → Mem → Prop} (h : K (.bool true) m) : ACall Pg F_witanlaw04_wakes [] m K := by
  refine lift_flat S_wakes0 .nil ?_
  rintro v rfl
  exact h

end Go.Proofs.Ytjflfecdeicccaa
end

