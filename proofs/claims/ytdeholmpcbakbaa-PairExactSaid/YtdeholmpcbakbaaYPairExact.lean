/- Texts of a proof, one behind the other; the last of these: The law PairExact answers true for all that it may be handed: its row; no condition. -/
import Derived.Test.YtdeholmpcbakbaaZ8
import Derived.Test.YtdeholmpcbakbaaRows
import Derived.WalkKit
import Derived.ProofKit
import Derived.OpenShut
import Derived.ShutString
import Derived.ChangeOld
import Derived.Below
import Derived.SizedLaws
section
/- The laws of pair; no condition. -/
set_option linter.unusedVariables false
set_option linter.unusedSimpArgs false
set_option maxRecDepth 100000
set_option pp.maxSteps 3000
namespace Go.Proofs.Ytdeholmpcbakbaa
open Go Go.Wit

theorem S_Key {m : Mem} {K : AV → Mem → Prop} {n : Nat} {P : Pt Fp} (hn : n < w256) (oP : On P) (h : ∀ Q, On Q → Q = nmul n P → K (.tup [ptA Q, .int .i64 0]) m) : ACall Pg F_pair_Key [numA n, ptA P] m K := by
  have h0 : ACall Pg F_pair_Key [numA n, ptA P] [] (fun v _ => v = .tup [ptA (nmul n P), .int .i64 0] ∧ Flat true v) := by
    refine B_pair_Key ⟨rfl, ?_⟩
    conv => whnf
    repeat (refine ⟨⟨_, rfl⟩, ?_⟩; conv => whnf)
    refine T_Times (n := n) (P := P) hn oP (fun Q oQ hQ => ?_)
    rw [← hQ]
    conv => whnf
    repeat (refine ⟨⟨_, rfl⟩, ?_⟩; conv => whnf)
    exact ⟨rfl, .tup _ (.cons _ _ flat_ptA (.cons _ _ (.int _ _) .nil))⟩
  refine lift_flat h0 (.cons _ _ _ _ lend_numA (.cons _ _ _ _ (lend_flat flat_ptA) .nil)) ?_
  rintro v rfl
  exact h _ (oP.nmul crvP n) rfl
theorem deal_of (x : Int) : ∃ A : Int, IntKind.i64.wrap (1 + IntKind.i64.wrap ((IntKind.u64.wrap x).tmod 8)) = A ∧ isD A = true := by
  refine ⟨_, rfl, ?_⟩
  obtain ⟨u, hu⟩ : ∃ u : Nat, IntKind.u64.wrap x = u := ⟨(IntKind.u64.wrap x).toNat, by rw [wu64]; omega⟩
  rw [hu, show (8 : Int) = ((8 : Nat) : Int) from rfl, tmod_nn, w64 (n := ((u % 8 : Nat) : Int)) (by omega) (by omega), w64 (by omega) (by omega)]
  simp only [isD, Bool.and_eq_true, decide_eq_true_eq]
  omega
theorem eqX_refl' {a : Nat} : eqX a a = true := by simp [eqX]
theorem S_PairBack (a b n : Nat) (x y : Int) (f : Nat → Int) (ha : a < w256) (hb : b < w256) (hn : n < w256) (hf : ∀ i, i < 32 → 0 ≤ f i ∧ f i ≤ 255) :
    ACall Pg F_witanlaw08_PairBack [numA a, numA b, numA n, .int .i64 x, .int .i64 y, .agg (rowL f)] [] (fun v _ => v = .bool true) := by
  obtain ⟨A, eA, hA⟩ := deal_of x
  obtain ⟨B, eB, hB⟩ := deal_of y
  have er : AV.agg (rowL f) = .agg ((List.range 32).map fun i => .int .u8 (f i)) := rfl
  rw [er]
  refine B_witanlaw08_PairBack ⟨rfl, ?_⟩
  conv => whnf
  repeat (refine ⟨⟨_, rfl⟩, ?_⟩; conv => whnf)
  rw [eA, eB]
  refine T_Base (n := b) hb (fun Gb oGb hGb => ?_)
  conv => whnf
  repeat (refine ⟨⟨_, rfl⟩, ?_⟩; conv => whnf)
  refine S_Key (n := a) ha oGb (fun k ok hk => ?_)
  conv => whnf
  repeat (refine ⟨⟨_, rfl⟩, ?_⟩; conv => whnf)
  refine T_Base (n := a) ha (fun Ga oGa hGa => ?_)
  conv => whnf
  repeat (refine ⟨⟨_, rfl⟩, ?_⟩; conv => whnf)
  refine S_Key (n := b) hb oGa (fun l ol hl => ?_)
  obtain rfl : k = l := by rw [hk, hl, hGa, hGb, ← nmul_mul crvP on_G, ← nmul_mul crvP on_G, Nat.mul_comm]
  clear hk hl hGa hGb
  conv => whnf
  repeat (refine ⟨⟨_, rfl⟩, ?_⟩; conv => whnf)
  refine S_kPt_eq (P := k) ?_
  conv => whnf
  repeat (refine ⟨⟨_, rfl⟩, ?_⟩; conv => whnf)
  refine S_Seal (i := isI k) (x := xN k) (y := yN k) (n := n) (xN_w k) (yN_w k) (fun h => by rw [hA, hB] at h; cases h) (fun _ _ h => absurd rfl (h k ok)) (fun _ _ P s oP eP hs hbs => ?_)
  obtain rfl : k = P := ptA_inj eP
  rw [rowL]
  conv => whnf
  repeat (refine ⟨⟨_, rfl⟩, ?_⟩; conv => whnf)
  have e0 := (outRow2 (s := s) (g := fun _ j => [AV.int .u8 0].getD j .un) rfl).1
  refine S_OpenE (i := isI k) (x := xN k) (y := yN k) (f := s) e0 (xN_w k) (yN_w k) (fun i _ => hbs i) (fun h => by rw [hA, hB] at h; cases h) (fun _ _ h => absurd rfl (h k ok)) (fun _ _ P2 n2 oP2 eP2 hn2 => ?_)
  obtain rfl : k = P2 := ptA_inj eP2
  obtain rfl : n2 = n := by
    rw [hn2, hs]
    exact ofZ_byteZ hn fun i hi => tnF_tnF (byteZ_lt n i)
  clear hn2
  conv => whnf
  repeat (refine ⟨⟨_, rfl⟩, ?_⟩; conv => whnf)
  refine condB_no (by show (!(eqX n2 n2)) = false; rw [eqX_refl']; rfl) ?_
  conv => whnf
  repeat (refine ⟨⟨_, rfl⟩, ?_⟩; conv => whnf)
  refine S_Open (i := isI k) (x := xN k) (y := yN k) (f := f) (xN_w k) (yN_w k) hf (fun h => by rw [hA, hB] at h; cases h) (fun _ _ h => absurd rfl (h k ok)) (fun _ _ P3 n3 oP3 eP3 hn3 => ?_)
  obtain rfl : k = P3 := ptA_inj eP3
  conv => whnf
  repeat (refine ⟨⟨_, rfl⟩, ?_⟩; conv => whnf)
  refine S_Seal (i := isI k) (x := xN k) (y := yN k) (n := n3) (xN_w k) (yN_w k) (fun h => by rw [hA, hB] at h; cases h) (fun _ _ h => absurd rfl (h k ok)) (fun _ _ P4 t oP4 eP4 ht hbt => ?_)
  obtain rfl : k = P4 := ptA_inj eP4
  have htf : ∀ i, i < 32 → t i = f i := fun i hi => by
    rw [ht]
    have e1 : tnF k A B (byteZ n3) i = tnF k A B (tnF k A B f) i := tnF_congr (by rw [hn3]; exact byteZ_ofZ (fun i _ => xorB_lt _ _) hi)
    rw [e1]
    exact tnF_tnF (hf i hi)
  rw [rowL_congr htf]
  clear ht hn3 htf hbt e0 hs hbs
  rw [rowL]
  conv => whnf
  repeat (refine ⟨⟨_, rfl⟩, ?_⟩; conv => whnf)
  refine condB_yes (Eq.trans (b := ((f 0 == f 0 && (f 1 == f 1 && (f 2 == f 2 && (f 3 == f 3 && (f 4 == f 4 && (f 5 == f 5 && (f 6 == f 6 && (f 7 == f 7 && (f 8 == f 8 && (f 9 == f 9 && (f 10 == f 10 && (f 11 == f 11 && (f 12 == f 12 && (f 13 == f 13 && (f 14 == f 14 && (f 15 == f 15 && (f 16 == f 16 && (f 17 == f 17 && (f 18 == f 18 && (f 19 == f 19 && (f 20 == f 20 && (f 21 == f 21 && (f 22 == f 22 && (f 23 == f 23 && (f 24 == f 24 && (f 25 == f 25 && (f 26 == f 26 && (f 27 == f 27 && (f 28 == f 28 && (f 29 == f 29 && (f 30 == f 30 && (f 31 == f 31 && true)))))))))))))))))))))))))))))))) == true)) rfl (by simp)) ?_
  conv => whnf
  repeat (refine ⟨⟨_, rfl⟩, ?_⟩; conv => whnf)
  refine S_wakes08 ?_
  conv => whnf
  repeat (refine ⟨⟨_, rfl⟩, ?_⟩; conv => whnf)

theorem key_cells2 {P : Pt Fp} {a b : Int} (ha : isD a = true) (hb : isD b = true) {h : Nat → Nat → AV} {i : Nat} (hi : i < pbN P + 2) (h0 : h 0 0 = .int .u8 (IntKind.u8.wrap a)) (h1 : h 1 0 = .int .u8 (IntKind.u8.wrap b)) : catG (pbN P) (bytesG (pbF P)) h i 0 = .int .u8 (keyF P a b i) := by
  unfold keyF
  by_cases h : i < pbN P
  · rw [catG_lt h, catB_lt h]; rfl
  · rw [catG_ge (by omega), catB_ge (by omega)]
    have : i - pbN P = 0 ∨ i - pbN P = 1 := by omega
    rcases this with e | e
    · rw [e, h0, isD_u8 ha, if_pos rfl]
    · rw [e, h1, isD_u8 hb, if_neg (by decide)]
theorem xorB_nat {A C : Nat} (h1 : A < 256) (h2 : C < 256) : xorB (A : Int) (C : Int) = ((A ^^^ C : Nat) : Int) := by
  have e : (BitVec.ofInt 8 (A : Int) ^^^ BitVec.ofInt 8 (C : Int)).toNat = A ^^^ C := by
    rw [BitVec.toNat_xor, BitVec.toNat_ofInt, BitVec.toNat_ofInt]
    have g1 : ((A : Int) % ((2 ^ 8 : Nat) : Int)).toNat = A := by omega
    have g2 : ((C : Int) % ((2 ^ 8 : Nat) : Int)).toNat = C := by omega
    rw [g1, g2]
  show IntKind.u8.wrap ((BitVec.ofInt 8 (A : Int) ^^^ BitVec.ofInt 8 (C : Int)).toNat : Int) = _
  rw [e, IntKind.wrap_u8]
  have : A ^^^ C < 2 ^ 8 := Nat.xor_lt_two_pow h1 h2
  omega
theorem xor3 {a b c : Int} (ha : 0 ≤ a ∧ a ≤ 255) (hb : 0 ≤ b ∧ b ≤ 255) (hc : 0 ≤ c ∧ c ≤ 255) : xorB (xorB a c) (xorB b c) = xorB a b := by
  obtain ⟨A, rfl⟩ : ∃ A : Nat, a = A := ⟨a.toNat, by omega⟩
  obtain ⟨B, rfl⟩ : ∃ B : Nat, b = B := ⟨b.toNat, by omega⟩
  obtain ⟨C, rfl⟩ : ∃ C : Nat, c = C := ⟨c.toNat, by omega⟩
  have h1 : A ^^^ C < 2 ^ 8 := Nat.xor_lt_two_pow (by omega) (by omega)
  have h2 : B ^^^ C < 2 ^ 8 := Nat.xor_lt_two_pow (by omega) (by omega)
  rw [xorB_nat (A := A) (by omega) (by omega), xorB_nat (A := B) (by omega) (by omega), xorB_nat h1 h2, xorB_nat (A := A) (by omega) (by omega)]
  congr 1
  rw [Nat.xor_assoc, Nat.xor_comm C, Nat.xor_assoc, Nat.xor_self, Nat.xor_zero]
theorem S_PairStreams (k a b : Nat) (x y : Int) (hk : k < w256) (ha : a < w256) (hb : b < w256) :
    ACall Pg F_witanlaw08_PairStreams [numA k, numA a, numA b, .int .i64 x, .int .i64 y] [] (fun v _ => v = .bool true) := by
  obtain ⟨A, eA, hA⟩ := deal_of x
  obtain ⟨B, eB, hB⟩ := deal_of y
  refine B_witanlaw08_PairStreams ⟨rfl, ?_⟩
  conv => whnf
  repeat (refine ⟨⟨_, rfl⟩, ?_⟩; conv => whnf)
  rw [eA, eB]
  refine T_Base (n := k) hk (fun P oP hP => ?_)
  have hn := pbN_le P
  conv => whnf
  repeat (refine ⟨⟨_, rfl⟩, ?_⟩; conv => whnf)
  refine S_CBytes oP (fun cap1 => ?_)
  conv => whnf
  repeat (refine ⟨⟨_, rfl⟩, ?_⟩; conv => whnf)
  refine condB_ok (app_ok (by first | rfl | simp) rfl rfl (by omega) (by omega)) (fun cap2 hcap2 => ?_)
  conv => whnf
  repeat (refine ⟨⟨_, rfl⟩, ?_⟩; conv => whnf)
  refine S_DStream (k := pbN P + 2) (f := keyF P A B) (n := 32) (Shows.any rfl (Nat.le_of_eq (Nat.zero_add _)) fun i hi => ?_) (by omega) (keyF_in hA hB) (fun _ _ cap3 => ?_) (fun h => absurd h (by decide))
  · rw [show 0 + i = i from Nat.zero_add i]
    dsimp only
    exact key_cells2 hA hB hi rfl rfl
  conv => whnf
  repeat (refine ⟨⟨_, rfl⟩, ?_⟩; conv => whnf)
  refine S_Seal (i := isI P) (x := xN P) (y := yN P) (n := a) (xN_w P) (yN_w P) (fun h => by rw [hA, hB] at h; cases h) (fun _ _ h => absurd rfl (h P oP)) (fun _ _ P2 s oP2 eP2 hs hbs => ?_)
  obtain rfl : P = P2 := ptA_inj eP2
  rw [rowL]
  conv => whnf
  repeat (refine ⟨⟨_, rfl⟩, ?_⟩; conv => whnf)
  refine S_Seal (i := isI P) (x := xN P) (y := yN P) (n := b) (xN_w P) (yN_w P) (fun h => by rw [hA, hB] at h; cases h) (fun _ _ h => absurd rfl (h P oP)) (fun _ _ P2 t oP2 eP2 ht hbt => ?_)
  obtain rfl : P = P2 := ptA_inj eP2
  rw [rowL]
  conv => whnf
  repeat (refine ⟨⟨_, rfl⟩, ?_⟩; conv => whnf)
  refine S_LBytes (a := a) (fun u hu hbu => ?_)
  conv => whnf
  repeat (refine ⟨⟨_, rfl⟩, ?_⟩; conv => whnf)
  refine S_LBytes (a := b) (fun v hv hbv => ?_)
  conv => whnf
  repeat (refine ⟨⟨_, rfl⟩, ?_⟩; conv => whnf)
  refine loop_wk mixed (I := fun q l m => ∃ (j : Nat), l = [(14, .sl 4 0 32 cap3), (16, .ptr 0 0 0), (18, .ptr 1 0 0), (20, .ptr 2 0 0), (21, .ptr 3 0 0), (22, .int .i64 j)] ∧ m = [some ⟨1, 32, bytesG s⟩, some ⟨1, 32, bytesG t⟩, some ⟨1, 32, bytesG u⟩, some ⟨1, 32, bytesG v⟩, some ⟨1, 32, bytesG (stF (pbN P + 2) (keyF P A B))⟩] ∧ q + j = 32) 32
    (l0 := [(14, .sl 4 0 32 cap3), (16, .ptr 0 0 0), (18, .ptr 1 0 0), (20, .ptr 2 0 0), (21, .ptr 3 0 0), (22, .int .i64 (0 : Nat))]) (m0 := [some ⟨1, 32, bytesG s⟩, some ⟨1, 32, bytesG t⟩, some ⟨1, 32, bytesG u⟩, some ⟨1, 32, bytesG v⟩, some ⟨1, 32, bytesG (stF (pbN P + 2) (keyF P A B))⟩]) [some 8, some 9, some 10, some 11, some 7] ⟨0, rfl, rfl, rfl⟩ ?_ ?_
  · refine .mk0 ⟨.sl _ _ _ _ _ rfl, .ptr _ _ _ _ rfl, .ptr _ _ _ _ rfl, .ptr _ _ _ _ rfl, .ptr _ _ _ _ rfl, Flat.i rfl, trivial⟩ ⟨.old 0 8 _ _ rfl rfl ⟨rfl, Nat.le_refl _, fun i j hi hj => sumBlk hi hj rfl⟩, .old 1 9 _ _ rfl rfl ⟨rfl, Nat.le_refl _, fun i j hi hj => sumBlk hi hj rfl⟩, .old 2 10 _ _ rfl rfl ⟨rfl, Nat.le_refl _, fun i j hi hj => ?_⟩, .old 3 11 _ _ rfl rfl ⟨rfl, Nat.le_refl _, fun i j hi hj => ?_⟩, .old 4 7 _ _ rfl rfl ⟨rfl, Nat.le_refl _, fun i j hi hj => RV.of rfl (.int _ _)⟩, trivial⟩ rfl rfl
    · exact sumBlk hi hj rfl
    · exact sumBlk hi hj rfl
  · rintro q l m ⟨j, rfl, rfl, hq⟩
    conv => whnf
    repeat (refine ⟨trivial, ?_⟩; conv => whnf)
    refine condB_mk (fun hb => ?_) (fun hb => ?_)
    · have hb : j < 32 := by simp at hb; omega
      have e1 : s j = bitsV .xor .u8 (u j) (stF (pbN P + 2) (keyF P A B) j) := by rw [hs, hu]; rfl
      have e2 : bitsV .xor .u8 (s j) (t j) = bitsV .xor .u8 (u j) (v j) := by
        rw [hs, ht, hu, hv]
        exact xor3 (byteZ_lt a j) (byteZ_lt b j) (stF_lt j)
      conv => whnf
      repeat (refine ⟨trivial, ?_⟩; conv => whnf)
      refine condB_ok (by simp; omega) ?_
      conv => whnf
      repeat (refine ⟨trivial, ?_⟩; conv => whnf)
      refine condB_ok (by simp [roomG, Nat.ble_eq]; omega) ?_
      conv => whnf
      repeat (refine ⟨trivial, ?_⟩; conv => whnf)
      refine condB_ok (by simp; omega) ?_
      conv => whnf
      repeat (refine ⟨trivial, ?_⟩; conv => whnf)
      refine condB_ok (by simp [roomG, Nat.ble_eq]; omega) ?_
      conv => whnf
      repeat (refine ⟨trivial, ?_⟩; conv => whnf)
      refine condB_ok (by simp; omega) ?_
      conv => whnf
      repeat (refine ⟨trivial, ?_⟩; conv => whnf)
      refine condB_ok (by simp [roomG, Nat.ble_eq]; omega) ?_
      conv => whnf
      repeat (refine ⟨trivial, ?_⟩; conv => whnf)
      refine condB_yes (by simp only [Int.toNat_natCast, Nat.zero_add]; rw [e1]; simp) ?_
      conv => whnf
      repeat (refine ⟨trivial, ?_⟩; conv => whnf)
      refine condB_ok (by simp; omega) ?_
      conv => whnf
      repeat (refine ⟨trivial, ?_⟩; conv => whnf)
      refine condB_ok (by simp [roomG, Nat.ble_eq]; omega) ?_
      conv => whnf
      repeat (refine ⟨trivial, ?_⟩; conv => whnf)
      refine condB_ok (by simp; omega) ?_
      conv => whnf
      repeat (refine ⟨trivial, ?_⟩; conv => whnf)
      refine condB_ok (by simp [roomG, Nat.ble_eq]; omega) ?_
      conv => whnf
      repeat (refine ⟨trivial, ?_⟩; conv => whnf)
      refine condB_ok (by simp; omega) ?_
      conv => whnf
      repeat (refine ⟨trivial, ?_⟩; conv => whnf)
      refine condB_ok (by simp [roomG, Nat.ble_eq]; omega) ?_
      conv => whnf
      repeat (refine ⟨trivial, ?_⟩; conv => whnf)
      refine condB_ok (by simp; omega) ?_
      conv => whnf
      repeat (refine ⟨trivial, ?_⟩; conv => whnf)
      refine condB_ok (by simp [roomG, Nat.ble_eq]; omega) ?_
      conv => whnf
      repeat (refine ⟨trivial, ?_⟩; conv => whnf)
      refine condB_no (by simp only [Int.toNat_natCast, Nat.zero_add]; rw [e2]; simp) ?_
      conv => whnf
      repeat (refine ⟨trivial, ?_⟩; conv => whnf)
      have e5 : IntKind.i64.wrap ((j : Int) + 1) = ((j + 1 : Nat) : Int) := by rw [w64 (by omega) (by omega)]; omega
      refine ⟨q - 1, [(14, .sl 4 0 32 cap3), (16, .ptr 0 0 0), (18, .ptr 1 0 0), (20, .ptr 2 0 0), (21, .ptr 3 0 0), (22, .int .i64 ((j + 1 : Nat) : Int))], [some ⟨1, 32, bytesG s⟩, some ⟨1, 32, bytesG t⟩, some ⟨1, 32, bytesG u⟩, some ⟨1, 32, bytesG v⟩, some ⟨1, 32, bytesG (stF (pbN P + 2) (keyF P A B))⟩], [some 0, some 1, some 2, some 3, some 4], by omega, ⟨j + 1, rfl, rfl, by omega⟩, ?_⟩
      exact .mk0 ⟨.sl _ _ _ _ _ rfl, .ptr _ _ _ _ rfl, .ptr _ _ _ _ rfl, .ptr _ _ _ _ rfl, .ptr _ _ _ _ rfl, Flat.i e5, trivial⟩ ⟨.old 0 0 _ _ rfl rfl ⟨rfl, Nat.le_refl _, fun i j hi hj => RV.of rfl (.int _ _)⟩, .old 1 1 _ _ rfl rfl ⟨rfl, Nat.le_refl _, fun i j hi hj => RV.of rfl (.int _ _)⟩, .old 2 2 _ _ rfl rfl ⟨rfl, Nat.le_refl _, fun i j hi hj => RV.of rfl (.int _ _)⟩, .old 3 3 _ _ rfl rfl ⟨rfl, Nat.le_refl _, fun i j hi hj => RV.of rfl (.int _ _)⟩, .old 4 4 _ _ rfl rfl ⟨rfl, Nat.le_refl _, fun i j hi hj => RV.of rfl (.int _ _)⟩, trivial⟩ rfl rfl
    · conv => whnf
      repeat (refine ⟨trivial, ?_⟩; conv => whnf)
      refine S_wakes08 ?_
      conv => whnf
      repeat (refine ⟨trivial, ?_⟩; conv => whnf)
theorem S_row_PairStreams (avs : List AV) (h : okVs [tNum, tNum, tNum, .int .i64, .int .i64] avs) : ∃ avs', Retold avs avs' ∧ ACall Pg F_witanlaw08_PairStreams avs' [] (fun x _ => x = .bool true) := by
  obtain ⟨p, _, rfl, h1, q, _, rfl, h2, r, _, rfl, h3, t, _, rfl, h4, u, _, rfl, h5, rfl⟩ := h
  obtain ⟨k, hk, rfl⟩ := ok_num h1
  obtain ⟨a, ha, rfl⟩ := ok_num h2
  obtain ⟨b, hb, rfl⟩ := ok_num h3
  obtain ⟨x, rfl, _, _⟩ := ok_int h4
  obtain ⟨y, rfl, _, _⟩ := ok_int h5
  exact ⟨_, .cons (Retold1.refl _) (.cons (Retold1.refl _) (.cons (Retold1.refl _) (.cons (Retold1.refl _) (.cons (Retold1.refl _) .nil)))), S_PairStreams k a b x y hk ha hb⟩
def t32 : Ty := .arr 32 (.int .u8)
theorem ok_t32 {av : AV} (h : okV t32 av) : ∃ f : Nat → Int, av = .agg (rowL f) ∧ ∀ i, i < 32 → 0 ≤ f i ∧ f i ≤ 255 := by
  obtain ⟨cs, rfl, h⟩ := h
  unfold okC at h
  obtain ⟨hl, hc⟩ := h
  have key : ∀ i, i < 32 → ∃ n : Int, cs[i]? = some (.int .u8 n) ∧ 0 ≤ n ∧ n ≤ 255 := fun i hi => by
    have := hc i hi
    unfold okC at this
    obtain ⟨n, e, h1, h2⟩ := this
    refine ⟨n, ?_, h1, h2⟩
    have e2 : ((cs.drop (i * 1)).take 1)[0]? = some (.int .u8 n) := by
      have e3 : (cs.drop (i * 1)).take 1 = [.int .u8 n] := e
      rw [e3]; rfl
    simpa [List.getElem?_take, List.getElem?_drop] using e2
  have hl2 : cs.length = 32 := hl
  classical
  refine ⟨fun i => if h : i < 32 then (key i h).choose else 0, ?_, fun i hi => ?_⟩
  · congr 1
    refine List.ext_getElem? fun i => ?_
    by_cases hi : i < 32
    · rw [(key i hi).choose_spec.1]
      unfold rowL
      rw [List.getElem?_map, List.getElem?_range hi]
      simp [hi]
    · rw [List.getElem?_eq_none (by omega), List.getElem?_eq_none (by unfold rowL; simp; omega)]
  · dsimp only
    rw [dif_pos hi]
    exact (key i hi).choose_spec.2
theorem S_row_PairBack (avs : List AV) (h : okVs [tNum, tNum, tNum, .int .i64, .int .i64, t32] avs) : ∃ avs', Retold avs avs' ∧ ACall Pg F_witanlaw08_PairBack avs' [] (fun x _ => x = .bool true) := by
  obtain ⟨p, _, rfl, h1, q, _, rfl, h2, r, _, rfl, h3, t, _, rfl, h4, u, _, rfl, h5, v, _, rfl, h6, rfl⟩ := h
  obtain ⟨k, hk, rfl⟩ := ok_num h1
  obtain ⟨a, ha, rfl⟩ := ok_num h2
  obtain ⟨b, hb, rfl⟩ := ok_num h3
  obtain ⟨x, rfl, _, _⟩ := ok_int h4
  obtain ⟨y, rfl, _, _⟩ := ok_int h5
  obtain ⟨f, rfl, hf⟩ := ok_t32 h6
  exact ⟨_, .cons (Retold1.refl _) (.cons (Retold1.refl _) (.cons (Retold1.refl _) (.cons (Retold1.refl _) (.cons (Retold1.refl _) (.cons (Retold1.refl _) .nil))))), S_PairBack k a b x y f hk ha hb hf⟩
end Go.Proofs.Ytdeholmpcbakbaa
end

section
/- PairExact; no condition. -/
set_option linter.unusedVariables false
set_option linter.unusedSimpArgs false
set_option maxRecDepth 100000
set_option pp.maxSteps 3000
set_option pp.deepTerms false
set_option pp.deepTerms.threshold 7
namespace Go.Proofs.Ytdeholmpcbakbaa
open Go Go.Wit

def eqR (f g : Nat → Int) : Bool := (f 0 == g 0 && (f 1 == g 1 && (f 2 == g 2 && (f 3 == g 3 && (f 4 == g 4 && (f 5 == g 5 && (f 6 == g 6 && (f 7 == g 7 && (f 8 == g 8 && (f 9 == g 9 && (f 10 == g 10 && (f 11 == g 11 && (f 12 == g 12 && (f 13 == g 13 && (f 14 == g 14 && (f 15 == g 15 && (f 16 == g 16 && (f 17 == g 17 && (f 18 == g 18 && (f 19 == g 19 && (f 20 == g 20 && (f 21 == g 21 && (f 22 == g 22 && (f 23 == g 23 && (f 24 == g 24 && (f 25 == g 25 && (f 26 == g 26 && (f 27 == g 27 && (f 28 == g 28 && (f 29 == g 29 && (f 30 == g 30 && (f 31 == g 31 && true))))))))))))))))))))))))))))))))
theorem eqR_refl {f : Nat → Int} : eqR f f = true := by simp [eqR]
theorem S_Key_bad {m : Mem} {K : AV → Mem → Prop} {n : Nat} {i : Bool} {x y : Nat} (hx : x < w256) (hy : y < w256) (hb : Bad i x y) (h : K (.tup [noPt, .int .i64 3]) m) : ACall Pg F_pair_Key [numA n, rawA i x y] m K := by
  have h0 : ACall Pg F_pair_Key [numA n, rawA i x y] [] (fun v _ => v = .tup [noPt, .int .i64 3] ∧ Flat true v) := by
    refine B_pair_Key ⟨rfl, ?_⟩
    conv => whnf
    repeat (refine ⟨⟨_, rfl⟩, ?_⟩; conv => whnf)
    refine S_Times_bad (n := n) hx hy hb ?_
    conv => whnf
    repeat (refine ⟨⟨_, rfl⟩, ?_⟩; conv => whnf)
    exact ⟨rfl, .tup _ (.cons _ _ (flat_no _) (.cons _ _ (.int _ _) .nil))⟩
  refine lift_flat h0 (.cons _ _ _ _ lend_numA (.cons _ _ _ _ (lend_flat flat_rawA) .nil)) ?_
  rintro v rfl
  exact h
theorem T_rTimes {m : Mem} {K : AV → Mem → Prop} {n : Nat} {P : Pt Fp} (hn : n < w256) (oP : On P) (h : ∀ Q, Q = nmul n P → K (ptA Q) m) : ACall Pg F_witanref01_Times [numA n, ptA P] m K := S_rTimes hn oP (h _ rfl)
theorem S_PairExact (n z : Nat) (i ki : Bool) (x y kx ky : Nat) (a b : Int) (f : Nat → Int) (hn : n < w256) (hz : z < w256) (hx : x < w256) (hy : y < w256) (hkx : kx < w256) (hky : ky < w256) (hf : ∀ i, i < 32 → 0 ≤ f i ∧ f i ≤ 255) :
    ACall Pg F_witanlaw08_PairExact [numA n, rawA i x y, rawA ki kx ky, .int .i64 a, .int .i64 b, numA z, .agg (rowL f)] [] (fun v _ => v = .bool true) := by
  have er : AV.agg (rowL f) = .agg ((List.range 32).map fun i => .int .u8 (f i)) := rfl
  rw [er]
  refine B_witanlaw08_PairExact ⟨rfl, ?_⟩
  conv => whnf
  repeat (refine ⟨⟨_, rfl⟩, ?_⟩; conv => whnf)
  rcases raw_cases i x y with ⟨P, oP, eP⟩ | hb
  · rw [eP]
    refine S_Key (n := n) (P := P) hn oP (fun Q oQ hQ => ?_)
    conv => whnf
    repeat (refine ⟨⟨_, rfl⟩, ?_⟩; conv => whnf)
    refine S_rCheck_ok (P := P) oP ?_
    conv => whnf
    repeat (refine ⟨⟨_, rfl⟩, ?_⟩; conv => whnf)
    refine T_rTimes (n := n) (P := P) hn oP (fun Q2 hQ2 => ?_)
    obtain rfl : Q = Q2 := hQ.trans hQ2.symm
    clear hQ hQ2
    conv => whnf
    repeat (refine ⟨⟨_, rfl⟩, ?_⟩; conv => whnf)
    refine S_kPt_eq (P := Q) ?_
    conv => whnf
    repeat (refine ⟨⟨_, rfl⟩, ?_⟩; conv => whnf)
    refine S_Seal (i := ki) (x := kx) (y := ky) (n := z) hkx hky (fun hab => ?_) (fun ha hb bad => ?_) (fun ha hb k s ok ek hs hbs => ?_)
    · conv => whnf
      repeat (refine ⟨⟨_, rfl⟩, ?_⟩; conv => whnf)
      refine S_Open (i := ki) (x := kx) (y := ky) (f := f) hkx hky hf (fun _ => ?_) (fun ha hb _ => absurd hab (by rw [ha, hb]; decide)) (fun ha hb _ _ _ _ _ => absurd hab (by rw [ha, hb]; decide))
      conv => whnf
      repeat (refine ⟨⟨_, rfl⟩, ?_⟩; conv => whnf)
      refine condB_mk (fun h1 => ?_) (fun h1 => ?_)
      · conv => whnf
        repeat (refine ⟨⟨_, rfl⟩, ?_⟩; conv => whnf)
        refine condB_mk (fun h2 => ?_) (fun h2 => ?_)
        · conv => whnf
          repeat (refine ⟨⟨_, rfl⟩, ?_⟩; conv => whnf)
          refine condB_mk (fun h3 => ?_) (fun h3 => ?_)
          · conv => whnf
            repeat (refine ⟨⟨_, rfl⟩, ?_⟩; conv => whnf)
            refine condB_mk (fun h4 => ?_) (fun h4 => ?_)
            · conv => whnf
              repeat (refine ⟨⟨_, rfl⟩, ?_⟩; conv => whnf)
              refine S_wakes08 ?_
              conv => whnf
              repeat (refine ⟨⟨_, rfl⟩, ?_⟩; conv => whnf)
            · exfalso
              simp at h1 h2 h3 h4
              simp [isD] at hab
              omega
          · conv => whnf
            repeat (refine ⟨⟨_, rfl⟩, ?_⟩; conv => whnf)
            refine S_wakes08 ?_
            conv => whnf
            repeat (refine ⟨⟨_, rfl⟩, ?_⟩; conv => whnf)
        · conv => whnf
          repeat (refine ⟨⟨_, rfl⟩, ?_⟩; conv => whnf)
          refine S_wakes08 ?_
          conv => whnf
          repeat (refine ⟨⟨_, rfl⟩, ?_⟩; conv => whnf)
      · conv => whnf
        repeat (refine ⟨⟨_, rfl⟩, ?_⟩; conv => whnf)
        refine S_wakes08 ?_
        conv => whnf
        repeat (refine ⟨⟨_, rfl⟩, ?_⟩; conv => whnf)
    · conv => whnf
      repeat (refine ⟨⟨_, rfl⟩, ?_⟩; conv => whnf)
      refine S_Open (i := ki) (x := kx) (y := ky) (f := f) hkx hky hf (fun hab => absurd hab (by rw [ha, hb]; decide)) (fun _ _ _ => ?_) (fun _ _ P2 _ oP2 eP2 _ => absurd eP2 (bad P2 oP2))
      conv => whnf
      repeat (refine ⟨⟨_, rfl⟩, ?_⟩; conv => whnf)
      simp only [isD, Bool.and_eq_true, decide_eq_true_eq] at ha hb
      refine condB_yes (by simp; omega) ?_
      conv => whnf
      repeat (refine ⟨⟨_, rfl⟩, ?_⟩; conv => whnf)
      refine condB_yes (by simp; omega) ?_
      conv => whnf
      repeat (refine ⟨⟨_, rfl⟩, ?_⟩; conv => whnf)
      refine condB_yes (by simp; omega) ?_
      conv => whnf
      repeat (refine ⟨⟨_, rfl⟩, ?_⟩; conv => whnf)
      refine condB_no (by simp; omega) ?_
      conv => whnf
      repeat (refine ⟨⟨_, rfl⟩, ?_⟩; conv => whnf)
      refine S_rCheck_bad (i := ki) hkx hky bad ?_
      conv => whnf
      repeat (refine ⟨⟨_, rfl⟩, ?_⟩; conv => whnf)
      refine S_wakes08 ?_
      conv => whnf
      repeat (refine ⟨⟨_, rfl⟩, ?_⟩; conv => whnf)
    · conv => whnf
      repeat (refine ⟨⟨_, rfl⟩, ?_⟩; conv => whnf)
      refine S_Open (i := ki) (x := kx) (y := ky) (f := f) hkx hky hf (fun hab => absurd hab (by rw [ha, hb]; decide)) (fun _ _ bad => absurd ek (bad k ok)) (fun _ _ P2 u oP2 eP2 hu => ?_)
      obtain rfl : k = P2 := ptA_inj (ek.symm.trans eP2)
      have ha1 := ha
      have hb1 := hb
      simp only [isD, Bool.and_eq_true, decide_eq_true_eq] at ha1 hb1
      conv => whnf
      repeat (refine ⟨⟨_, rfl⟩, ?_⟩; conv => whnf)
      refine condB_yes (by simp; omega) ?_
      conv => whnf
      repeat (refine ⟨⟨_, rfl⟩, ?_⟩; conv => whnf)
      refine condB_yes (by simp; omega) ?_
      conv => whnf
      repeat (refine ⟨⟨_, rfl⟩, ?_⟩; conv => whnf)
      refine condB_yes (by simp; omega) ?_
      conv => whnf
      repeat (refine ⟨⟨_, rfl⟩, ?_⟩; conv => whnf)
      refine condB_no (by simp; omega) ?_
      conv => whnf
      repeat (refine ⟨⟨_, rfl⟩, ?_⟩; conv => whnf)
      refine S_rCheck (i := ki) hkx hky (fun _ _ _ => ?_) (fun bad => absurd ek (bad k ok))
      conv => whnf
      repeat (refine ⟨⟨_, rfl⟩, ?_⟩; conv => whnf)
      rw [ek]
      refine S_RSeal (P := k) (n := z) ha hb (fun s2 hs2 hbs2 => ?_)
      obtain rfl : s = s2 := hs.trans hs2.symm
      clear hs hs2
      rw [rowL]
      conv => whnf
      repeat (refine ⟨⟨_, rfl⟩, ?_⟩; conv => whnf)
      refine condB_yes (Eq.trans (b := (eqR s s == true)) rfl (by rw [eqR_refl]; rfl)) ?_
      conv => whnf
      repeat (refine ⟨⟨_, rfl⟩, ?_⟩; conv => whnf)
      refine S_ROpen (P := k) (f := f) ha hb hf (fun u2 hu2 => ?_)
      obtain rfl : u = u2 := hu.trans hu2.symm
      clear hu hu2
      conv => whnf
      repeat (refine ⟨⟨_, rfl⟩, ?_⟩; conv => whnf)
      refine condB_yes (by show (eqX u u == true) = true; rw [eqX_refl']; rfl) ?_
      conv => whnf
      repeat (refine ⟨⟨_, rfl⟩, ?_⟩; conv => whnf)
      refine S_wakes08 ?_
      conv => whnf
      repeat (refine ⟨⟨_, rfl⟩, ?_⟩; conv => whnf)
  · refine S_Key_bad (n := n) hx hy hb ?_
    conv => whnf
    repeat (refine ⟨⟨_, rfl⟩, ?_⟩; conv => whnf)
    refine S_rCheck_bad (i := i) hx hy hb ?_
    conv => whnf
    repeat (refine ⟨⟨_, rfl⟩, ?_⟩; conv => whnf)
    refine S_kPoint_eq (i := false) (x := 0) (y := 0) (by decide) (by decide) ?_
    conv => whnf
    repeat (refine ⟨⟨_, rfl⟩, ?_⟩; conv => whnf)
    refine S_Seal (i := ki) (x := kx) (y := ky) (n := z) hkx hky (fun hab => ?_) (fun ha hb bad => ?_) (fun ha hb k s ok ek hs hbs => ?_)
    · conv => whnf
      repeat (refine ⟨⟨_, rfl⟩, ?_⟩; conv => whnf)
      refine S_Open (i := ki) (x := kx) (y := ky) (f := f) hkx hky hf (fun _ => ?_) (fun ha hb _ => absurd hab (by rw [ha, hb]; decide)) (fun ha hb _ _ _ _ _ => absurd hab (by rw [ha, hb]; decide))
      conv => whnf
      repeat (refine ⟨⟨_, rfl⟩, ?_⟩; conv => whnf)
      refine condB_mk (fun h1 => ?_) (fun h1 => ?_)
      · conv => whnf
        repeat (refine ⟨⟨_, rfl⟩, ?_⟩; conv => whnf)
        refine condB_mk (fun h2 => ?_) (fun h2 => ?_)
        · conv => whnf
          repeat (refine ⟨⟨_, rfl⟩, ?_⟩; conv => whnf)
          refine condB_mk (fun h3 => ?_) (fun h3 => ?_)
          · conv => whnf
            repeat (refine ⟨⟨_, rfl⟩, ?_⟩; conv => whnf)
            refine condB_mk (fun h4 => ?_) (fun h4 => ?_)
            · conv => whnf
              repeat (refine ⟨⟨_, rfl⟩, ?_⟩; conv => whnf)
              refine S_wakes08 ?_
              conv => whnf
              repeat (refine ⟨⟨_, rfl⟩, ?_⟩; conv => whnf)
            · exfalso
              simp at h1 h2 h3 h4
              simp [isD] at hab
              omega
          · conv => whnf
            repeat (refine ⟨⟨_, rfl⟩, ?_⟩; conv => whnf)
            refine S_wakes08 ?_
            conv => whnf
            repeat (refine ⟨⟨_, rfl⟩, ?_⟩; conv => whnf)
        · conv => whnf
          repeat (refine ⟨⟨_, rfl⟩, ?_⟩; conv => whnf)
          refine S_wakes08 ?_
          conv => whnf
          repeat (refine ⟨⟨_, rfl⟩, ?_⟩; conv => whnf)
      · conv => whnf
        repeat (refine ⟨⟨_, rfl⟩, ?_⟩; conv => whnf)
        refine S_wakes08 ?_
        conv => whnf
        repeat (refine ⟨⟨_, rfl⟩, ?_⟩; conv => whnf)
    · conv => whnf
      repeat (refine ⟨⟨_, rfl⟩, ?_⟩; conv => whnf)
      refine S_Open (i := ki) (x := kx) (y := ky) (f := f) hkx hky hf (fun hab => absurd hab (by rw [ha, hb]; decide)) (fun _ _ _ => ?_) (fun _ _ P2 _ oP2 eP2 _ => absurd eP2 (bad P2 oP2))
      conv => whnf
      repeat (refine ⟨⟨_, rfl⟩, ?_⟩; conv => whnf)
      simp only [isD, Bool.and_eq_true, decide_eq_true_eq] at ha hb
      refine condB_yes (by simp; omega) ?_
      conv => whnf
      repeat (refine ⟨⟨_, rfl⟩, ?_⟩; conv => whnf)
      refine condB_yes (by simp; omega) ?_
      conv => whnf
      repeat (refine ⟨⟨_, rfl⟩, ?_⟩; conv => whnf)
      refine condB_yes (by simp; omega) ?_
      conv => whnf
      repeat (refine ⟨⟨_, rfl⟩, ?_⟩; conv => whnf)
      refine condB_no (by simp; omega) ?_
      conv => whnf
      repeat (refine ⟨⟨_, rfl⟩, ?_⟩; conv => whnf)
      refine S_rCheck_bad (i := ki) hkx hky bad ?_
      conv => whnf
      repeat (refine ⟨⟨_, rfl⟩, ?_⟩; conv => whnf)
      refine S_wakes08 ?_
      conv => whnf
      repeat (refine ⟨⟨_, rfl⟩, ?_⟩; conv => whnf)
    · conv => whnf
      repeat (refine ⟨⟨_, rfl⟩, ?_⟩; conv => whnf)
      refine S_Open (i := ki) (x := kx) (y := ky) (f := f) hkx hky hf (fun hab => absurd hab (by rw [ha, hb]; decide)) (fun _ _ bad => absurd ek (bad k ok)) (fun _ _ P2 u oP2 eP2 hu => ?_)
      obtain rfl : k = P2 := ptA_inj (ek.symm.trans eP2)
      have ha1 := ha
      have hb1 := hb
      simp only [isD, Bool.and_eq_true, decide_eq_true_eq] at ha1 hb1
      conv => whnf
      repeat (refine ⟨⟨_, rfl⟩, ?_⟩; conv => whnf)
      refine condB_yes (by simp; omega) ?_
      conv => whnf
      repeat (refine ⟨⟨_, rfl⟩, ?_⟩; conv => whnf)
      refine condB_yes (by simp; omega) ?_
      conv => whnf
      repeat (refine ⟨⟨_, rfl⟩, ?_⟩; conv => whnf)
      refine condB_yes (by simp; omega) ?_
      conv => whnf
      repeat (refine ⟨⟨_, rfl⟩, ?_⟩; conv => whnf)
      refine condB_no (by simp; omega) ?_
      conv => whnf
      repeat (refine ⟨⟨_, rfl⟩, ?_⟩; conv => whnf)
      refine S_rCheck (i := ki) hkx hky (fun _ _ _ => ?_) (fun bad => absurd ek (bad k ok))
      conv => whnf
      repeat (refine ⟨⟨_, rfl⟩, ?_⟩; conv => whnf)
      rw [ek]
      refine S_RSeal (P := k) (n := z) ha hb (fun s2 hs2 hbs2 => ?_)
      obtain rfl : s = s2 := hs.trans hs2.symm
      clear hs hs2
      rw [rowL]
      conv => whnf
      repeat (refine ⟨⟨_, rfl⟩, ?_⟩; conv => whnf)
      refine condB_yes (Eq.trans (b := (eqR s s == true)) rfl (by rw [eqR_refl]; rfl)) ?_
      conv => whnf
      repeat (refine ⟨⟨_, rfl⟩, ?_⟩; conv => whnf)
      refine S_ROpen (P := k) (f := f) ha hb hf (fun u2 hu2 => ?_)
      obtain rfl : u = u2 := hu.trans hu2.symm
      clear hu hu2
      conv => whnf
      repeat (refine ⟨⟨_, rfl⟩, ?_⟩; conv => whnf)
      refine condB_yes (by show (eqX u u == true) = true; rw [eqX_refl']; rfl) ?_
      conv => whnf
      repeat (refine ⟨⟨_, rfl⟩, ?_⟩; conv => whnf)
      refine S_wakes08 ?_
      conv => whnf
      repeat (refine ⟨⟨_, rfl⟩, ?_⟩; conv => whnf)
theorem S_row_PairExact (avs : List AV) (h : okVs [tNum, tPoint, tPoint, .int .i64, .int .i64, tNum, t32] avs) : ∃ avs', Retold avs avs' ∧ ACall Pg F_witanlaw08_PairExact avs' [] (fun x _ => x = .bool true) := by
  obtain ⟨p, _, rfl, h1, q, _, rfl, h2, r, _, rfl, h3, t, _, rfl, h4, u, _, rfl, h5, v, _, rfl, h6, w, _, rfl, h7, rfl⟩ := h
  obtain ⟨n, hn, rfl⟩ := ok_num h1
  obtain ⟨i, x, y, hx, hy, rfl⟩ := ok_point h2
  obtain ⟨ki, kx, ky, hkx, hky, rfl⟩ := ok_point h3
  obtain ⟨a, rfl, _, _⟩ := ok_int h4
  obtain ⟨b, rfl, _, _⟩ := ok_int h5
  obtain ⟨z, hz, rfl⟩ := ok_num h6
  obtain ⟨f, rfl, hf⟩ := ok_t32 h7
  exact ⟨_, .cons (Retold1.refl _) (.cons (Retold1.refl _) (.cons (Retold1.refl _) (.cons (Retold1.refl _) (.cons (Retold1.refl _) (.cons (Retold1.refl _) (.cons (Retold1.refl _) .nil)))))), S_PairExact n z i ki x y kx ky a b f hn hz hx hy hkx hky hf⟩
end Go.Proofs.Ytdeholmpcbakbaa
end

section
/- The law PairExact answers true for all that it may be handed: its row; no condition. -/
namespace Go.Proofs.Ytdeholmpcbakbaa.pairExact
open Go.ChangeShapes Go.WideShapes Go.ChangeAt Go.RowKit Go.Wit
set_option linter.unusedVariables false
theorem own : ownKnob Try.prog.godebug = none := by kernel_rfl
theorem laid : laidOutB Try.prog = true := by kernel_rfl
set_option maxRecDepth 100000 in
theorem lifted (os : Os) (started : os.Started) (H : Type) (enc : TypeId × Value → H) :
    ReturnsInHanded {} Try.checked os 11 .any (Rows.pairExactSpec.pre6 enc Try.prog Try.f11 Rows.pairExactRow.domain false) (Rows.pairExactSpec.post enc Try.prog Try.f11 false true false false) := by
  refine returnsInHanded_of_change_sized (C := Try.checked) own started (by kernel_rfl) Try.func11
    (ChangeSpec.witness6 (enc := enc) (C := Try.checked) false ⟨#[], #[.agg #[.int .u64 0, .int .u64 0, .int .u64 0, .int .u64 0], .agg #[.bool false, .int .u64 0, .int .u64 0, .int .u64 0, .int .u64 0, .int .u64 0, .int .u64 0, .int .u64 0, .int .u64 0], .agg #[.bool false, .int .u64 0, .int .u64 0, .int .u64 0, .int .u64 0, .int .u64 0, .int .u64 0, .int .u64 0, .int .u64 0], .int .i64 0, .int .i64 0, .agg #[.int .u64 0, .int .u64 0, .int .u64 0, .int .u64 0], .agg #[.int .u8 0, .int .u8 0, .int .u8 0, .int .u8 0, .int .u8 0, .int .u8 0, .int .u8 0, .int .u8 0, .int .u8 0, .int .u8 0, .int .u8 0, .int .u8 0, .int .u8 0, .int .u8 0, .int .u8 0, .int .u8 0, .int .u8 0, .int .u8 0, .int .u8 0, .int .u8 0, .int .u8 0, .int .u8 0, .int .u8 0, .int .u8 0, .int .u8 0, .int .u8 0, .int .u8 0, .int .u8 0, .int .u8 0, .int .u8 0, .int .u8 0, .int .u8 0]], []⟩ 12 (by kernel_rfl) (by kernel_rfl) (by kernel_rfl) (by kernel_rfl)) ?_
  intro W base args ds gs before hval0 hW hcnd hsz0 _
  have hval : ∀ (j : Nat) t v, Try.f11.params[j]? = some t → args[j]? = some v → Value.okWide Try.prog W .any base t v := hval0
  have hW' := hW
  obtain ⟨p, q, hA0, hV, rfl, hfz, hnd⟩ := hW
  have hA : DataW.TrodAll enc Try.prog W 0 (fun _ => true) true Try.f11.params.toList args.toList ds p := hA0
  obtain ⟨rfl, rfl⟩ := trodVars_none hV
  have l0 : ds.length = 7 := trod_len hA
  obtain ⟨d1, ds1, rfl, l1⟩ := cons_of_len l0
  obtain ⟨d2, ds2, rfl, l2⟩ := cons_of_len l1
  obtain ⟨d3, ds3, rfl, l3⟩ := cons_of_len l2
  obtain ⟨d4, ds4, rfl, l4⟩ := cons_of_len l3
  obtain ⟨d5, ds5, rfl, l5⟩ := cons_of_len l4
  obtain ⟨d6, ds6, rfl, l6⟩ := cons_of_len l5
  obtain ⟨d7, ds7, rfl, l7⟩ := cons_of_len l6
  obtain rfl := nil_of_len l7
  refine (law_open (tys := [tNum, tPoint, tPoint, .int .i64, .int .i64, tNum, t32]) (by kernel_rfl) (fun j t v h1 h2 => hval j t v (by simpa using h1) (by simpa using h2)) hA S_row_PairExact).mono fun e W' ⟨he, bel⟩ => ?_
  subst he
  exact ⟨_, rfl, _, _, _, [], _, [], hW', trodAll_mk1 (shut_bool Try.underlying4 _), shut_vals laid bel (by kernel_rfl) hA, rfl, bel.frame _, fun h => by cases h⟩
theorem over : Rows.pairExactRow.holds Try.pinned (OpenSpec.ofChange Rows.pairExactSpec) :=
  OpenClaim.holds_of_wide 11 Try.f11 rfl rfl rfl rfl rfl rfl rfl ⟨rfl, rfl, rfl, rfl, rfl⟩ rfl rfl rfl rfl rfl (by kernel_rfl) Try.func11 (by kernel_rfl)
    (of_decide_eq_true (by kernel_rfl)) (by unfold Func.isWrapper; first | (rw [if_pos (by decide +kernel)]; kernel_rfl) | (rw [if_neg (by decide +kernel)]; exact ⟨rfl, rfl⟩))
    (fun os started H enc _ => lifted os started H enc)
theorem proved : Rows.PairExactSaid := over
#print axioms proved
end Go.Proofs.Ytdeholmpcbakbaa.pairExact
namespace Go.Proofs.Ytdeholmpcbakbaa
/-- The row, under a short name, for the claim. -/
theorem pairExact_holds : Rows.PairExactSaid := pairExact.proved
end Go.Proofs.Ytdeholmpcbakbaa
end

