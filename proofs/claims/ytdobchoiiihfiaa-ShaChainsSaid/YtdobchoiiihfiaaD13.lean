/- Sums: turned words, numbers of bytes, texts made whole blocks; no condition. -/
import Derived.Test.YtdobchoiiihfiaaD4
set_option linter.unusedVariables false
set_option linter.unusedSimpArgs false
set_option maxRecDepth 100000
set_option pp.maxSteps 300
namespace Go.Proofs.Ytdobchoiiihfiaa
open Go Go.Wit

def rotI (x k : Int) : Int := bitsV .or .u32 (IntKind.u32.wrap (x * 2 ^ (min (bitsV .and .u64 (IntKind.u64.wrap k) 31).toNat IntKind.u32.bits))) (x.fdiv (2 ^ (min (IntKind.u64.wrap (32 - bitsV .and .u64 (IntKind.u64.wrap k) 31)).toNat IntKind.u32.bits)))

theorem S_rot {m : Mem} {K : AV → Mem → Prop} (x k : Int) (h : K (.int .u32 (rotI x k)) m) : ACall Pg F_bits_RotateLeft32 [.int .u32 x, .int .i64 k] m K := by
  refine B_bits_RotateLeft32 ⟨rfl, ?_⟩
  conv => whnf
  have h0 : 0 ≤ bitsV .and .u64 (IntKind.u64.wrap k) 31 := by
    show 0 ≤ IntKind.u64.wrap _
    rw [wu64]; omega
  have h1 : 0 ≤ IntKind.u64.wrap (32 - bitsV .and .u64 (IntKind.u64.wrap k) 31) := by rw [wu64]; omega
  refine condB_ok (by simpa using h1) ?_
  conv => whnf
  exact h

theorem S_rot32 {m : Mem} {K : AV → Mem → Prop} (x k : Int) (h : K (.int .u32 (rotI x (IntKind.i64.wrap (0 - k)))) m) : ACall Pg F_witanref04_rot32 [.int .u32 x, .int .i64 k] m K := by
  refine B_witanref04_rot32 ⟨rfl, ?_⟩
  conv => whnf
  refine S_rot _ _ ?_
  conv => whnf
  exact h

theorem catW {nv : Bool} {σ : Nat → Option Nat} {N k : Nat} {g g' : Nat → Int} {h : Nat → Nat → AV} {A B : AV} {i j : Nat} (hA : A = catG N (bytesG g) h i j) (hB : B = bytesG g' i j) (h1 : ∀ i, i < N → g' i = g i) (h2 : ∀ i, i < k → h i 0 = .int .u8 (g' (N + i))) (hi : i < N + k) (hj : j < 1) :
    RV nv σ A B := by
  subst hA hB
  obtain rfl : j = 0 := by omega
  by_cases hN : i < N
  · have : catG N (bytesG g) h i 0 = bytesG g' i 0 := by rw [catG_lt hN]; simp only [bytesG, h1 i hN]
    rw [this]; exact .eq _ _ rfl (.int _ _)
  · have : catG N (bytesG g) h i 0 = bytesG g' i 0 := by
      rw [catG_ge (by omega), h2 _ (by omega)]
      simp only [bytesG]
      congr 2; omega
    rw [this]; exact .eq _ _ rfl (.int _ _)

theorem or_byteU {a b : Int} (ha : 0 ≤ a ∧ a < 72057594037927936) (hb : 0 ≤ b ∧ b ≤ 255) : bitsV .or .u64 (a * 256) b = a * 256 + b := by
  obtain ⟨A, rfl⟩ : ∃ A : Nat, a = A := ⟨a.toNat, by omega⟩
  obtain ⟨B, rfl⟩ : ∃ B : Nat, b = B := ⟨b.toNat, by omega⟩
  have h1 : BitVec.ofInt 64 ((A : Int) * 256) = BitVec.ofNat 64 (256 * A) := by
    rw [show ((A : Int) * 256) = ((256 * A : Nat) : Int) by omega, BitVec.ofInt_natCast]
  have h2 : BitVec.ofInt 64 (B : Int) = BitVec.ofNat 64 B := BitVec.ofInt_natCast _ _
  show IntKind.u64.wrap ((BitVec.ofInt 64 ((A : Int) * 256) ||| BitVec.ofInt 64 (B : Int)).toNat) = _
  rw [h1, h2, BitVec.toNat_or, BitVec.toNat_ofNat, BitVec.toNat_ofNat, Nat.mod_eq_of_lt (by omega), Nat.mod_eq_of_lt (by omega)]
  have h3 := Nat.two_pow_add_eq_or_of_lt (i := 8) (b := B) (by omega) A
  rw [show (256 : Nat) = 2 ^ 8 from rfl, ← h3, wu64]
  omega

theorem S_high0 (n cap : Nat) (f : Nat → Int) (hn : n ≤ 7) (hf : ∀ i, i < n → 0 ≤ f i ∧ f i ≤ 255) : ACall Pg F_sha_high [.vsl 1 n cap (bytesG f)] [] (fun v _ => v = .int .u64 (getV f 0 n) ∧ Flat true v) := by
  refine B_sha_high ⟨rfl, ?_⟩
  conv => whnf
  refine loop_wk mixed (I := fun q l m => ∃ (k : Nat), l = [(3, .int .u64 (getV f 0 k)), (6, .vsl 1 n cap (bytesG f)), (7, .int .i64 n), (8, .int .i64 k)] ∧ m = [] ∧ q + k = n) n
    (l0 := [(3, .int .u64 0), (6, .vsl 1 n cap (bytesG f)), (7, .int .i64 n), (8, .int .i64 (0 : Nat))]) (m0 := []) [] ⟨0, rfl, rfl, rfl⟩ ?_ ?_
  · exact .mk0 ⟨Flat.i rfl, .eq _ _ rfl (.vsl _ _ _ _ rfl (fun _ _ _ _ => .int _ _)), Flat.i rfl, Flat.i rfl, trivial⟩ trivial rfl rfl
  · rintro q l m ⟨k, rfl, rfl, hq⟩
    conv => whnf
    refine condB_mk (fun hb => ?_) (fun hb => ?_)
    · have hb : k < n := by simpa using hb
      conv => whnf
      refine condB_ok (by simp; omega) ?_
      conv => whnf
      obtain ⟨g1, g2⟩ := getV_lt (f := f) (p := 0) (k := k) (fun i hi => hf i (by omega))
      have g3 : (256 : Int) ^ k ≤ 256 ^ 6 := by
        have : 256 ^ k ≤ 256 ^ 6 := Nat.pow_le_pow_right (by omega) (by omega)
        exact_mod_cast this
      have g4 := hf k (by omega)
      rw [w64 (n := (k : Int) + 1) (by omega) (by omega), show min (Int.toNat 8) IntKind.u64.bits = 8 from rfl, Int.toNat_natCast,
        show IntKind.u64.wrap (f k) = f k by rw [wu64]; omega, show IntKind.u64.wrap (getV f 0 k * 2 ^ 8) = getV f 0 k * 256 by rw [wu64]; omega]
      refine ⟨q - 1, [(3, .int .u64 (getV f 0 (k + 1))), (6, .vsl 1 n cap (bytesG f)), (7, .int .i64 n), (8, .int .i64 ((k + 1 : Nat) : Int))], [], [], by omega, ⟨k + 1, rfl, rfl, by omega⟩, ?_⟩
      exact .mk0 ⟨Flat.i (by rw [or_byteU (by omega) g4, getV, Nat.zero_add]), .eq _ _ rfl (.vsl _ _ _ _ rfl (fun _ _ _ _ => .int _ _)), Flat.i rfl, Flat.i (by omega), trivial⟩ trivial rfl rfl
    · have hb : k = n := by simp at hb; omega
      subst hb
      conv => whnf
      exact ⟨rfl, .int _ _⟩

theorem S_high {m : Mem} {x : AV} {n : Nat} {f : Nat → Int} {K : AV → Mem → Prop} (hx : Shows m x n f) (hn : n ≤ 7) (hf : ∀ i, i < n → 0 ≤ f i ∧ f i ≤ 255) (h : K (.int .u64 (getV f 0 n)) m) : ACall Pg F_sha_high [x] m K := by
  obtain ⟨cap, hl⟩ := hx
  refine lift_flat (S_high0 n cap f hn hf) (.cons _ _ _ _ hl .nil) ?_
  rintro v rfl
  exact h

/-- A text made whole blocks. -/
def padN (n : Nat) : Nat := (n + 72) / 64 * 64
def padF (n : Nat) (f : Nat → Int) (i : Nat) : Int := if i < n then f i else if i = n then 128 else if i < padN n - 8 then 0 else ((8 * n : Nat) : Int) / 2 ^ (8 * (padN n - 1 - i)) % 256

theorem padF_lt {n : Nat} {f : Nat → Int} (hf : ∀ i, i < n → 0 ≤ f i ∧ f i ≤ 255) (i : Nat) : 0 ≤ padF n f i ∧ padF n f i ≤ 255 := by
  unfold padF
  split
  · rename_i h; exact hf i h
  · split
    · omega
    · split <;> omega

theorem padN_ge (n : Nat) : n + 9 ≤ padN n ∧ padN n % 64 = 0 ∧ padN n ≤ n + 72 := by unfold padN; omega

theorem tmod_nat (a b : Nat) : ((a : Int).tmod (b : Int)) = ((a % b : Nat) : Int) := by rw [Int.tmod_eq_emod_of_nonneg (by omega)]; simp

theorem S_padded0 (n cap : Nat) (f : Nat → Int) (hn : n ≤ 1000000) : ACall Pg F_sha_padded [.vsl 1 n cap (bytesG f)] [] (fun v m' => ∃ n' f', (n' = padN n ∧ f' = padF n f) ∧ RetB n' f' v m') := by
  obtain ⟨p1, p2, p3⟩ := padN_ge n
  refine B_sha_padded ⟨rfl, ?_⟩
  conv => whnf
  refine condB_ok (app_ok rfl rfl rfl (by omega) (by omega)) (fun cap1 hcap1 => ?_)
  conv => whnf
  refine condB_ok (app_ok (by simp) rfl rfl (by omega) (by omega)) (fun cap2 hcap2 => ?_)
  conv => whnf
  simp only [Nat.zero_add]
  refine loop_wk mixed (I := fun q l m => ∃ (N c : Nat) (g : Nat → Int), l = [(0, .vsl 1 n cap (bytesG f)), (3, .sl 0 0 N c)] ∧ m = [some ⟨1, N, bytesG g⟩] ∧ q + N = padN n - 8 ∧ n + 1 ≤ N ∧ ∀ j, j < N → g j = padF n f j) (padN n - 8 - (n + 1))
    (l0 := [(0, .vsl 1 n cap (bytesG f)), (3, .sl 0 0 (n + 1) cap2)]) (m0 := [some ⟨1, n + 1, bytesG (padF n f)⟩]) [some 3] ⟨n + 1, cap2, _, rfl, rfl, by omega, by omega, fun j hj => rfl⟩ ?_ ?_
  · refine .mk0 ⟨.eq _ _ rfl (.vsl _ _ _ _ rfl (fun _ _ _ _ => .int _ _)), .sl _ _ _ _ _ rfl, trivial⟩ ⟨.old 0 3 _ _ rfl rfl ⟨rfl, Nat.le_refl _, fun i j hi hj => ?_⟩, trivial⟩ rfl rfl
    have hj : j < 1 := hj
    have hi : i < n + 1 := hi
    refine .eq _ _ ?_ ?_ <;> (obtain rfl : j = 0 := by omega) <;> dsimp only
    · by_cases h : i < n
      · rw [catG_lt h]
        have : catG 0 (fun i j => (reps [AV.int IntKind.u8 0] 0).getD (i * 1 + j) AV.un) (bytesG f) i 0 = bytesG f i 0 := by rw [catG_ge (by omega)]; rfl
        refine Eq.trans this ?_
        simp only [bytesG, padF, if_pos h]
      · obtain rfl : i = n := by omega
        rw [catG_ge (by omega)]
        simp only [bytesG, padF, if_neg h, if_pos trivial, Nat.sub_self]
        rfl
    · by_cases h : i < n
      · rw [catG_lt h]
        have : catG 0 (fun i j => (reps [AV.int IntKind.u8 0] 0).getD (i * 1 + j) AV.un) (bytesG f) i 0 = bytesG f i 0 := by rw [catG_ge (by omega)]; rfl
        exact (show Flat false (catG 0 (fun i j => (reps [AV.int IntKind.u8 0] 0).getD (i * 1 + j) AV.un) (bytesG f) i 0) from this ▸ .int _ _)
      · obtain rfl : i = n := by omega
        rw [catG_ge (by omega), Nat.sub_self]
        exact .int _ _
  · rintro q l m ⟨N, c, g, rfl, rfl, hq, hN, hg⟩
    conv => whnf
    rw [show ((N : Int).tmod 64) = ((N % 64 : Nat) : Int) from tmod_nat N 64]
    refine condB_mk (fun hb => ?_) (fun hb => ?_)
    · have hb : N < padN n - 8 := by
        simp at hb
        rcases Nat.lt_or_ge N (padN n - 8) with h | h
        · exact h
        · have : N = padN n - 8 := by omega
          omega
      conv => whnf
      refine condB_ok (app_ok (by simp) rfl rfl (by omega) (by omega)) (fun cap' hcap => ?_)
      conv => whnf
      refine ⟨q - 1, [(0, .vsl 1 n cap (bytesG f)), (3, .sl 0 0 (N + 1) cap')], [some ⟨1, N + 1, bytesG (fun j => if j < N then g j else 0)⟩], [some 2], by omega, ⟨N + 1, cap', _, rfl, rfl, by omega, by omega, fun j hj => ?_⟩, ?_⟩
      · by_cases h : j < N
        · simp only [if_pos h]; exact hg j h
        · simp only [if_neg h]
          rw [padF, if_neg (by omega), if_neg (by omega), if_pos (by omega)]
      · refine .mk0 ⟨.eq _ _ rfl (.vsl _ _ _ _ rfl (fun _ _ _ _ => .int _ _)), .sl _ _ _ _ _ rfl, trivial⟩ ⟨.old 0 2 _ _ rfl rfl ⟨rfl, Nat.le_refl _, fun i j hi hj => ?_⟩, trivial⟩ rfl rfl
        dsimp only
        refine catW (N := N) (k := 1) (g := g) (g' := fun j => if j < N then g j else 0) rfl rfl (fun i hi => if_pos hi) (fun i hi => ?_) hi hj
        obtain rfl : i = 0 := by omega
        simp only [Nat.add_zero, if_neg (Nat.lt_irrefl N)]; rfl
    · have hb : N = padN n - 8 := by
        simp at hb
        omega
      conv => whnf
      rw [show IntKind.u64.wrap (IntKind.u64.wrap (n : Int) * 2 ^ min (Int.toNat 3) IntKind.u64.bits) = ((8 * n : Nat) : Int) by
        rw [wu64, wu64, show min (Int.toNat 3) IntKind.u64.bits = 3 from rfl]; omega]
      refine loop_wk mixed (I := fun q l m => ∃ (k : Int) (N c : Nat) (g : Nat → Int), l = [(0, .vsl 1 n cap (bytesG f)), (3, .sl 0 0 N c), (4, .int .u64 ((8 * n : Nat) : Int)), (5, .int .i64 k)] ∧ m = [some ⟨1, N, bytesG g⟩] ∧ (q : Int) = k + 1 ∧ -1 ≤ k ∧ k ≤ 7 ∧ (N : Int) = padN n - 1 - k ∧ ∀ j, j < N → g j = padF n f j) 8
        (l0 := [(0, .vsl 1 n cap (bytesG f)), (3, .sl 0 0 N c), (4, .int .u64 ((8 * n : Nat) : Int)), (5, .int .i64 7)]) (m0 := [some ⟨1, N, bytesG g⟩]) [some 0] ⟨7, N, c, g, rfl, rfl, by omega, by omega, by omega, by omega, hg⟩ ?_ ?_
      · refine .mk0 ⟨.eq _ _ rfl (.vsl _ _ _ _ rfl (fun _ _ _ _ => .int _ _)), .sl _ _ _ _ _ rfl, Flat.i rfl, Flat.i rfl, trivial⟩ ⟨.old 0 0 _ _ rfl rfl ⟨rfl, Nat.le_refl _, fun i j hi hj => .eq _ _ rfl (.int _ _)⟩, trivial⟩ rfl rfl
      · clear hb hq hN hg
        rintro q l m ⟨k, N, c, g, rfl, rfl, hq, hk1, hk2, hN, hg⟩
        conv => whnf
        refine condB_mk (fun hb => ?_) (fun hb => ?_)
        · have hb : 0 ≤ k := by simpa using hb
          conv => whnf
          rw [w64 (n := 8 * k) (by omega) (by omega)]
          refine condB_ok (decide_eq_true (by omega)) ?_
          conv => whnf
          refine condB_ok (app_ok (by simp) rfl rfl (by omega) (by omega)) (fun cap' hcap => ?_)
          conv => whnf
          rw [w64 (n := k - 1) (by omega) (by omega)]
          refine ⟨q - 1, [(0, .vsl 1 n cap (bytesG f)), (3, .sl 0 0 (N + 1) cap'), (4, .int .u64 ((8 * n : Nat) : Int)), (5, .int .i64 (k - 1))], [some ⟨1, N + 1, bytesG (padF n f)⟩], [some 2], by omega, ⟨k - 1, N + 1, cap', _, rfl, rfl, by omega, by omega, by omega, by omega, fun j hj => rfl⟩, ?_⟩
          refine .mk0 ⟨.eq _ _ rfl (.vsl _ _ _ _ rfl (fun _ _ _ _ => .int _ _)), .sl _ _ _ _ _ rfl, Flat.i rfl, Flat.i rfl, trivial⟩ ⟨.old 0 2 _ _ rfl rfl ⟨rfl, Nat.le_refl _, fun i j hi hj => ?_⟩, trivial⟩ rfl rfl
          dsimp only
          refine catW (N := N) (k := 1) (g := g) (g' := padF n f) rfl rfl (fun i hi => (hg i hi).symm) (fun i hi => ?_) hi hj
          obtain rfl : i = 0 := by omega
          have e : IntKind.u8.wrap (((8 * n : Nat) : Int).fdiv (2 ^ min (8 * k).toNat IntKind.u64.bits)) = padF n f (N + 0) := by
            rw [IntKind.wrap_u8, Int.fdiv_eq_ediv_of_nonneg _ (Int.pow_nonneg (by omega)), padF, if_neg (by omega), if_neg (by omega), if_neg (by omega)]
            rw [show min (8 * k).toNat IntKind.u64.bits = 8 * (padN n - 1 - (N + 0)) by simp only [IntKind.bits]; omega]
          rw [← e]; rfl
        · have hb : k = -1 := by simp at hb; omega
          conv => whnf
          obtain rfl : N = padN n := by omega
          exact ⟨padN n, padF n f, ⟨rfl, rfl⟩, .inr ⟨0, c, padN n, _, rfl, rfl, Nat.le_refl _, fun i hi => by rw [← hg i hi]; rfl⟩⟩

theorem S_padded {m : Mem} {x : AV} {n : Nat} {f : Nat → Int} {K : AV → Mem → Prop} (hx : Shows m x n f) (hn : n ≤ 1000000) (hK : ∀ cap, memK (m ++ [some ⟨1, padN n, bytesG (padF n f)⟩]) (K (.sl m.length 0 (padN n) cap))) : ACall Pg F_sha_padded [x] m K := by
  simp only [memK_eq] at hK
  obtain ⟨cap, hl⟩ := hx
  refine lift_bytes (S_padded0 n cap f hn) (.cons _ _ _ _ hl .nil) ?_
  rintro n' f' cap' ⟨rfl, rfl⟩
  exact hK cap'

theorem S_refPadded0 (n cap : Nat) (f : Nat → Int) (hn : n ≤ 1000000) : ACall Pg F_witanref04_padded [.vsl 1 n cap (bytesG f)] [] (fun v m' => ∃ n' f', (n' = padN n ∧ f' = padF n f) ∧ RetB n' f' v m') := by
  obtain ⟨p1, p2, p3⟩ := padN_ge n
  refine B_witanref04_padded ⟨rfl, ?_⟩
  conv => whnf
  refine condB_ok (app_ok rfl rfl rfl (by omega) (by omega)) (fun cap1 hcap1 => ?_)
  conv => whnf
  refine condB_ok (app_ok (by simp) rfl rfl (by omega) (by omega)) (fun cap2 hcap2 => ?_)
  conv => whnf
  simp only [Nat.zero_add]
  refine loop_wk mixed (I := fun q l m => ∃ (N c : Nat) (g : Nat → Int), l = [(0, .vsl 1 n cap (bytesG f)), (3, .sl 0 0 N c)] ∧ m = [some ⟨1, N, bytesG g⟩] ∧ q + N = padN n - 8 ∧ n + 1 ≤ N ∧ ∀ j, j < N → g j = padF n f j) (padN n - 8 - (n + 1))
    (l0 := [(0, .vsl 1 n cap (bytesG f)), (3, .sl 0 0 (n + 1) cap2)]) (m0 := [some ⟨1, n + 1, bytesG (padF n f)⟩]) [some 2] ⟨n + 1, cap2, _, rfl, rfl, by omega, by omega, fun j hj => rfl⟩ ?_ ?_
  · refine .mk0 ⟨.eq _ _ rfl (.vsl _ _ _ _ rfl (fun _ _ _ _ => .int _ _)), .sl _ _ _ _ _ rfl, trivial⟩ ⟨.old 0 2 _ _ rfl rfl ⟨rfl, Nat.le_refl _, fun i j hi hj => ?_⟩, trivial⟩ rfl rfl
    have hj : j < 1 := hj
    have hi : i < n + 1 := hi
    refine .eq _ _ ?_ ?_ <;> (obtain rfl : j = 0 := by omega) <;> dsimp only
    · by_cases h : i < n
      · rw [catG_lt h]
        have : catG 0 (fun _ _ => AV.un) (bytesG f) i 0 = bytesG f i 0 := by rw [catG_ge (by omega)]; rfl
        refine Eq.trans this ?_
        simp only [bytesG, padF, if_pos h]
      · obtain rfl : i = n := by omega
        rw [catG_ge (by omega)]
        simp only [bytesG, padF, if_neg h, if_pos trivial, Nat.sub_self]
        rfl
    · by_cases h : i < n
      · rw [catG_lt h]
        have : catG 0 (fun _ _ => AV.un) (bytesG f) i 0 = bytesG f i 0 := by rw [catG_ge (by omega)]; rfl
        exact (show Flat false (catG 0 (fun _ _ => AV.un) (bytesG f) i 0) from this ▸ .int _ _)
      · obtain rfl : i = n := by omega
        rw [catG_ge (by omega), Nat.sub_self]
        exact .int _ _
  · rintro q l m ⟨N, c, g, rfl, rfl, hq, hN, hg⟩
    conv => whnf
    rw [show (IntKind.i64.wrap ((N : Int) + 8)).tmod 64 = (((N + 8) % 64 : Nat) : Int) by
      rw [w64 (by omega) (by omega)]; exact tmod_nat (N + 8) 64]
    refine condB_mk (fun hb => ?_) (fun hb => ?_)
    · have hb : N < padN n - 8 := by
        simp at hb
        rcases Nat.lt_or_ge N (padN n - 8) with h | h
        · exact h
        · have : N = padN n - 8 := by omega
          omega
      conv => whnf
      refine condB_ok (app_ok (by simp) rfl rfl (by omega) (by omega)) (fun cap' hcap => ?_)
      conv => whnf
      refine ⟨q - 1, [(0, .vsl 1 n cap (bytesG f)), (3, .sl 0 0 (N + 1) cap')], [some ⟨1, N + 1, bytesG (fun j => if j < N then g j else 0)⟩], [some 2], by omega, ⟨N + 1, cap', _, rfl, rfl, by omega, by omega, fun j hj => ?_⟩, ?_⟩
      · by_cases h : j < N
        · simp only [if_pos h]; exact hg j h
        · simp only [if_neg h]
          rw [padF, if_neg (by omega), if_neg (by omega), if_pos (by omega)]
      · refine .mk0 ⟨.eq _ _ rfl (.vsl _ _ _ _ rfl (fun _ _ _ _ => .int _ _)), .sl _ _ _ _ _ rfl, trivial⟩ ⟨.old 0 2 _ _ rfl rfl ⟨rfl, Nat.le_refl _, fun i j hi hj => ?_⟩, trivial⟩ rfl rfl
        dsimp only
        refine catW (N := N) (k := 1) (g := g) (g' := fun j => if j < N then g j else 0) rfl rfl (fun i hi => if_pos hi) (fun i hi => ?_) hi hj
        obtain rfl : i = 0 := by omega
        simp only [Nat.add_zero, if_neg (Nat.lt_irrefl N)]; rfl
    · have hb : N = padN n - 8 := by
        simp at hb
        omega
      conv => whnf
      rw [show IntKind.u64.wrap (IntKind.u64.wrap (n : Int) * 8) = ((8 * n : Nat) : Int) by
        rw [wu64, wu64]; omega]
      refine loop_wk mixed (I := fun q l m => ∃ (k : Int) (N c : Nat) (g : Nat → Int), l = [(0, .vsl 1 n cap (bytesG f)), (3, .sl 0 0 N c), (4, .int .u64 ((8 * n : Nat) : Int)), (5, .int .i64 k)] ∧ m = [some ⟨1, N, bytesG g⟩] ∧ (q : Int) = k + 1 ∧ -1 ≤ k ∧ k ≤ 7 ∧ (N : Int) = padN n - 1 - k ∧ ∀ j, j < N → g j = padF n f j) 8
        (l0 := [(0, .vsl 1 n cap (bytesG f)), (3, .sl 0 0 N c), (4, .int .u64 ((8 * n : Nat) : Int)), (5, .int .i64 7)]) (m0 := [some ⟨1, N, bytesG g⟩]) [some 0] ⟨7, N, c, g, rfl, rfl, by omega, by omega, by omega, by omega, hg⟩ ?_ ?_
      · refine .mk0 ⟨.eq _ _ rfl (.vsl _ _ _ _ rfl (fun _ _ _ _ => .int _ _)), .sl _ _ _ _ _ rfl, Flat.i rfl, Flat.i rfl, trivial⟩ ⟨.old 0 0 _ _ rfl rfl ⟨rfl, Nat.le_refl _, fun i j hi hj => .eq _ _ rfl (.int _ _)⟩, trivial⟩ rfl rfl
      · clear hb hq hN hg
        rintro q l m ⟨k, N, c, g, rfl, rfl, hq, hk1, hk2, hN, hg⟩
        conv => whnf
        refine condB_mk (fun hb => ?_) (fun hb => ?_)
        · have hb : 0 ≤ k := by simpa using hb
          conv => whnf
          rw [show IntKind.u64.wrap (8 * IntKind.u64.wrap k) = 8 * k by rw [wu64, wu64]; omega]
          refine condB_ok (decide_eq_true (by omega)) ?_
          conv => whnf
          refine condB_ok (app_ok (by simp) rfl rfl (by omega) (by omega)) (fun cap' hcap => ?_)
          conv => whnf
          rw [w64 (n := k - 1) (by omega) (by omega)]
          refine ⟨q - 1, [(0, .vsl 1 n cap (bytesG f)), (3, .sl 0 0 (N + 1) cap'), (4, .int .u64 ((8 * n : Nat) : Int)), (5, .int .i64 (k - 1))], [some ⟨1, N + 1, bytesG (padF n f)⟩], [some 2], by omega, ⟨k - 1, N + 1, cap', _, rfl, rfl, by omega, by omega, by omega, by omega, fun j hj => rfl⟩, ?_⟩
          refine .mk0 ⟨.eq _ _ rfl (.vsl _ _ _ _ rfl (fun _ _ _ _ => .int _ _)), .sl _ _ _ _ _ rfl, Flat.i rfl, Flat.i rfl, trivial⟩ ⟨.old 0 2 _ _ rfl rfl ⟨rfl, Nat.le_refl _, fun i j hi hj => ?_⟩, trivial⟩ rfl rfl
          dsimp only
          refine catW (N := N) (k := 1) (g := g) (g' := padF n f) rfl rfl (fun i hi => (hg i hi).symm) (fun i hi => ?_) hi hj
          obtain rfl : i = 0 := by omega
          have e : IntKind.u8.wrap (((8 * n : Nat) : Int).fdiv (2 ^ min (8 * k).toNat IntKind.u64.bits)) = padF n f (N + 0) := by
            rw [IntKind.wrap_u8, Int.fdiv_eq_ediv_of_nonneg _ (Int.pow_nonneg (by omega)), padF, if_neg (by omega), if_neg (by omega), if_neg (by omega)]
            rw [show min (8 * k).toNat IntKind.u64.bits = 8 * (padN n - 1 - (N + 0)) by simp only [IntKind.bits]; omega]
          rw [← e]; rfl
        · have hb : k = -1 := by simp at hb; omega
          conv => whnf
          obtain rfl : N = padN n := by omega
          exact ⟨padN n, padF n f, ⟨rfl, rfl⟩, .inr ⟨0, c, padN n, _, rfl, rfl, Nat.le_refl _, fun i hi => by rw [← hg i hi]; rfl⟩⟩

theorem S_refPadded {m : Mem} {x : AV} {n : Nat} {f : Nat → Int} {K : AV → Mem → Prop} (hx : Shows m x n f) (hn : n ≤ 1000000) (hK : ∀ cap, memK (m ++ [some ⟨1, padN n, bytesG (padF n f)⟩]) (K (.sl m.length 0 (padN n) cap))) : ACall Pg F_witanref04_padded [x] m K := by
  simp only [memK_eq] at hK
  obtain ⟨cap, hl⟩ := hx
  refine lift_bytes (S_refPadded0 n cap f hn) (.cons _ _ _ _ hl .nil) ?_
  rintro n' f' cap' ⟨rfl, rfl⟩
  exact hK cap'

end Go.Proofs.Ytdobchoiiihfiaa
