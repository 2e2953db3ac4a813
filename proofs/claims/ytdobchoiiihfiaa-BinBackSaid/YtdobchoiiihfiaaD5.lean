/- The law of order: bytes of numbers stand in the numbers' order; no condition. -/
import Derived.Test.YtdobchoiiihfiaaD4
set_option linter.unusedVariables false
set_option linter.unusedSimpArgs false
set_option maxRecDepth 100000
set_option pp.maxSteps 300
namespace Go.Proofs.Ytdobchoiiihfiaa
open Go Go.Wit

theorem S_wakes10_0 : ACall Pg F_witanlaw10_wakes [] [] (fun r m' => r = .bool true ∧ Flat true r) := by
  refine B_witanlaw10_wakes ⟨rfl, ?_⟩
  conv => whnf
  refine S_Put (f := fun _ => 0) 258 2 Shows.nils (by omega) (fun h => by simp [putOk] at h) (fun _ cap => ?_)
  conv => whnf
  refine S_Get (n := 2) (f := putB 0 (fun _ => 0) 258 2) 0 2 (Shows.sl (N := 2) (f' := putB 0 (fun _ => 0) 258 2) rfl (by omega) (fun i hi => by simp)) (by omega) (fun i hi => ?_) ?_
  · have : i = 0 ∨ i = 1 := by omega
    rcases this with rfl | rfl <;> decide
  rw [show getR 2 (putB 0 (fun _ => 0) 258 2) 0 2 = .tup [.int .i64 258, .int .i64 2, .int .i64 0] from rfl]
  conv => whnf
  exact ⟨rfl, .bool _⟩

theorem S_wakes10 {m : Mem} {K : AV → Mem → Prop} (h : K (.bool true) m) : ACall Pg F_witanlaw10_wakes [] m K := by
  refine lift_flat S_wakes10_0 .nil ?_
  rintro v rfl
  exact h

theorem and_top {a : Int} {s : Nat} (hs : 1 ≤ s ∧ s ≤ 7) : ∃ A : Nat, A < 2 ^ (8 * s) ∧ bitsV .and .i64 a (2 ^ (8 * s) - 1) = A := by
  have hp : (2 : Nat) ^ (8 * s) ≤ 2 ^ 56 := Nat.pow_le_pow_right (by omega) (by omega)
  have hp0 : 0 < (2 : Nat) ^ (8 * s) := Nat.pow_pos (by omega)
  have h2 : BitVec.ofInt 64 ((2 : Int) ^ (8 * s) - 1) = BitVec.ofNat 64 (2 ^ (8 * s) - 1) := by
    rw [show ((2 : Int) ^ (8 * s) - 1) = ((2 ^ (8 * s) - 1 : Nat) : Int) by rw [Int.natCast_sub (by omega)]; simp, BitVec.ofInt_natCast]
  have h3 : (BitVec.ofInt 64 a &&& BitVec.ofInt 64 ((2 : Int) ^ (8 * s) - 1)).toNat < 2 ^ (8 * s) := by
    rw [h2, BitVec.toNat_and, BitVec.toNat_ofNat, Nat.mod_eq_of_lt (by omega)]
    have := Nat.and_le_right (n := (BitVec.ofInt 64 a).toNat) (m := 2 ^ (8 * s) - 1)
    omega
  refine ⟨(BitVec.ofInt 64 a &&& BitVec.ofInt 64 ((2 : Int) ^ (8 * s) - 1)).toNat, h3, ?_⟩
  show IntKind.i64.wrap ((BitVec.ofInt 64 a &&& BitVec.ofInt 64 ((2 : Int) ^ (8 * s) - 1)).toNat) = _
  exact w64 (by omega) (by omega)

def cmpO (x y : Nat) : Int := if x < y then -1 else if x = y then 0 else 1

theorem cmpO_step (A B k : Nat) : cmpO (A % 256 ^ (k + 1)) (B % 256 ^ (k + 1)) = if A / 256 ^ k % 256 = B / 256 ^ k % 256 then cmpO (A % 256 ^ k) (B % 256 ^ k) else if A / 256 ^ k % 256 < B / 256 ^ k % 256 then -1 else 1 := by
  have hP : 0 < 256 ^ k := Nat.pow_pos (by omega)
  rw [Nat.mod_pow_succ, Nat.mod_pow_succ]
  have hA := Nat.mod_lt A hP
  have hB := Nat.mod_lt B hP
  generalize A / 256 ^ k % 256 = x at *
  generalize B / 256 ^ k % 256 = y at *
  generalize A % 256 ^ k = u at *
  generalize B % 256 ^ k = v at *
  generalize 256 ^ k = P at *
  unfold cmpO
  rcases Nat.lt_trichotomy x y with h | h | h
  · have := Nat.mul_le_mul_left P (show x + 1 ≤ y from h)
    rw [Nat.mul_add] at this
    rw [if_neg (show ¬ x = y by omega), if_pos h, if_pos (by omega)]
  · subst h
    rw [if_pos rfl]
    by_cases h1 : u < v
    · rw [if_pos h1, if_pos (by omega)]
    · rw [if_neg h1, if_neg (by omega)]
      by_cases h2 : u = v
      · rw [if_pos h2, if_pos (by omega)]
      · rw [if_neg h2, if_neg (by omega)]
  · have := Nat.mul_le_mul_left P (show y + 1 ≤ x from h)
    rw [Nat.mul_add] at this
    rw [if_neg (show ¬ x = y by omega), if_neg (show ¬ x < y by omega), if_neg (by omega), if_neg (by omega)]

theorem putB_nat {A s i : Nat} (hi : i < s) : putB 0 (fun _ => 0) (A : Int) (s : Int) i = ((A / 256 ^ (s - 1 - i) % 256 : Nat) : Int) := by
  rw [putB, if_neg (by omega), Int.toNat_natCast, Nat.sub_zero]
  rw [show (256 : Nat) ^ (s - 1 - i) = 2 ^ (8 * (s - 1 - i)) by rw [Nat.pow_mul]]
  simp

theorem top_byte : ∀ s i : Fin 8, i.val < s.val → putB 0 (fun _ => 0) ((2 : Int) ^ (8 * s.val) - 1) s.val i.val = 255 := by decide +kernel

theorem S_BinOrder (a b c : Int) : ACall Pg F_witanlaw10_BinOrder [.int .i64 a, .int .i64 b, .int .i64 c] [] (fun r _ => r = .bool true) := by
  refine B_witanlaw10_BinOrder ⟨rfl, ?_⟩
  conv => whnf
  generalize hS : IntKind.i64.wrap (1 + IntKind.i64.wrap ((IntKind.u64.wrap c).tmod 7)) = S
  have hS1 : 1 ≤ S ∧ S ≤ 7 := by
    subst hS
    have := Int.tmod_nonneg (b := 7) (show 0 ≤ IntKind.u64.wrap c by rw [wu64]; omega)
    have := Int.tmod_lt_of_pos (IntKind.u64.wrap c) (show (0:Int) < 7 by omega)
    rw [w64 (n := (IntKind.u64.wrap c).tmod 7) (by omega) (by omega), w64 (by omega) (by omega)]
    omega
  obtain ⟨s, rfl⟩ : ∃ s : Nat, S = s := ⟨S.toNat, by omega⟩
  clear hS
  have hs : 1 ≤ s ∧ s ≤ 7 := by omega
  rw [w64 (n := 8 * (s : Int)) (by omega) (by omega), show IntKind.u64.wrap (8 * (s : Int)) = 8 * s by rw [wu64]; omega]
  have hp : (2 : Nat) ^ (8 * s) ≤ 2 ^ 56 := Nat.pow_le_pow_right (by omega) (by omega)
  have hp0 : 0 < (2 : Nat) ^ (8 * s) := Nat.pow_pos (by omega)
  have hpi : ((2 : Nat) ^ (8 * s) : Nat) = (2 : Int) ^ (8 * s) := by simp
  have e1 : IntKind.i64.wrap (1 * 2 ^ min ((8 : Int) * (s : Int)).toNat IntKind.i64.bits) = 2 ^ (8 * s) := by
    rw [show min ((8 : Int) * (s : Int)).toNat IntKind.i64.bits = 8 * s by simp only [IntKind.bits]; omega, Int.one_mul]
    exact w64 (by omega) (by omega)
  rw [e1]
  conv => whnf
  obtain ⟨A, hA, hA2⟩ := and_top (a := a) hs
  obtain ⟨B, hB, hB2⟩ := and_top (a := b) hs
  rw [w64 (n := (2 : Int) ^ (8 * s) - 1) (by omega) (by omega), hA2, hB2]
  have hsn : ((8 : Int) * (s : Int)).toNat = 8 * s := by omega
  have okA : putOk A s = true := by
    simp only [putOk, Bool.and_eq_true, decide_eq_true_eq, hsn]; omega
  have okB : putOk B s = true := by
    simp only [putOk, Bool.and_eq_true, decide_eq_true_eq, hsn]; omega
  have okT : putOk ((2 : Int) ^ (8 * s) - 1) s = true := by
    simp only [putOk, Bool.and_eq_true, decide_eq_true_eq, hsn]; omega
  have okU : putOk ((2 : Int) ^ (8 * s)) s = false := by
    simp only [putOk, Bool.and_eq_false_iff, decide_eq_false_iff_not, hsn]; omega
  refine S_Put (f := fun _ => 0) A s Shows.nils (by omega) (fun h => by rw [okA] at h; cases h) (fun _ capA => ?_)
  conv => whnf
  refine S_Put (f := fun _ => 0) B s Shows.nils (by omega) (fun h => by rw [okB] at h; cases h) (fun _ capB => ?_)
  conv => whnf
  refine S_Put (f := fun _ => 0) ((2 : Int) ^ (8 * s) - 1) s Shows.nils (by omega) (fun h => by rw [okT] at h; cases h) (fun _ capT => ?_)
  conv => whnf
  rw [show IntKind.i64.wrap ((2 : Int) ^ (8 * s) - 1 + 1) = 2 ^ (8 * s) by rw [w64 (by omega) (by omega)]; omega]
  refine S_Put (f := fun _ => 0) ((2 : Int) ^ (8 * s)) s Shows.nils (by omega) (fun _ capU fU => ?_) (fun h => by rw [okU] at h; cases h)
  conv => whnf
  simp only [Int.toNat_natCast, Nat.zero_add]
  refine condB_mk (fun hc => ?_) (fun hc => ?_)
  rotate_left
  · simp at hc
  conv => whnf
  refine condB_mk (fun hc => ?_) (fun hc => ?_)
  · simp at hc
  conv => whnf
  rw [w64 (n := (s : Int) - 1) (by omega) (by omega)]
  refine loop_wk mixed (I := fun q l m => ∃ (i o : Int), l = [(0, .int .i64 A), (1, .int .i64 B), (2, .int .i64 s), (8, .sl 0 0 s capA), (10, .sl 1 0 s capB), (12, .sl 2 0 s capT), (16, .int .i64 o), (17, .int .i64 i)] ∧
      m = [some ⟨1, s, bytesG (putB 0 (fun _ => 0) A s)⟩, some ⟨1, s, bytesG (putB 0 (fun _ => 0) B s)⟩, some ⟨1, s, bytesG (putB 0 (fun _ => 0) (2 ^ (8 * s) - 1) s)⟩] ∧ (q : Int) = i + 1 ∧ -1 ≤ i ∧ i ≤ s - 1 ∧
      o = cmpO (A % 256 ^ (s - q)) (B % 256 ^ (s - q))) s
    (l0 := [(0, .int .i64 A), (1, .int .i64 B), (2, .int .i64 s), (8, .sl 0 0 s capA), (10, .sl 1 0 s capB), (12, .sl 2 0 s capT), (16, .int .i64 0), (17, .int .i64 (s - 1))])
    (m0 := [some ⟨1, s, bytesG (putB 0 (fun _ => 0) A s)⟩, some ⟨1, s, bytesG (putB 0 (fun _ => 0) B s)⟩, some ⟨1, s, bytesG (putB 0 (fun _ => 0) (2 ^ (8 * s) - 1) s)⟩]) [some 0, some 1, some 2] ⟨s - 1, 0, rfl, rfl, by omega, by omega, by omega, ?_⟩ ?_ ?_
  · simp [cmpO, Nat.mod_one]
  · refine .mk0 ⟨Flat.i rfl, Flat.i rfl, Flat.i rfl, .sl _ _ _ _ _ rfl, .sl _ _ _ _ _ rfl, .sl _ _ _ _ _ rfl, Flat.i rfl, Flat.i rfl, trivial⟩ ⟨.old 0 0 _ _ rfl rfl ⟨rfl, Nat.le_refl _, fun i j hi hj => .eq _ _ rfl (.int _ _)⟩, .old 1 1 _ _ rfl rfl ⟨rfl, Nat.le_refl _, fun i j hi hj => .eq _ _ rfl (.int _ _)⟩, .old 2 2 _ _ rfl rfl ⟨rfl, Nat.le_refl _, fun i j hi hj => .eq _ _ rfl (.int _ _)⟩, trivial⟩ rfl rfl
  · rintro q l m ⟨i, o, rfl, rfl, hq, hi1, hi2, ho⟩
    conv => whnf
    refine condB_mk (fun hb => ?_) (fun hb => ?_)
    · have hb : 0 ≤ i := by simpa using hb
      obtain ⟨i, rfl⟩ : ∃ j : Nat, i = j := ⟨i.toNat, by omega⟩
      have his : i < s := by omega
      have hroom : ∀ g, roomG ⟨1, s, g⟩ i 0 1 = true := fun g => by simp [roomG, Nat.ble_eq]; exact his
      conv => whnf
      refine condB_ok (by simp; exact his) ?_
      conv => whnf
      simp only [Int.toNat_natCast, Nat.zero_add]
      refine condB_ok (hroom _) ?_
      conv => whnf
      refine condB_mk (fun hT => ?_) (fun hT => ?_)
      · exfalso
        have := top_byte ⟨s, by omega⟩ ⟨i, by omega⟩ his
        rw [this] at hT
        simp at hT
      conv => whnf
      refine condB_ok (by simp; exact his) ?_
      conv => whnf
      simp only [Int.toNat_natCast, Nat.zero_add]
      refine condB_ok (hroom _) ?_
      conv => whnf
      refine condB_ok (by simp; exact his) ?_
      conv => whnf
      simp only [Int.toNat_natCast, Nat.zero_add]
      refine condB_ok (hroom _) ?_
      conv => whnf
      have hq1 : s - (q - 1) = (s - 1 - i) + 1 := by omega
      have hq2 : s - q = s - 1 - i := by omega
      rw [hq2] at ho
      rw [putB_nat his, putB_nat his]
      refine condB_mk (fun hd => ?_) (fun hd => ?_)
      · have hd : ¬ A / 256 ^ (s - 1 - i) % 256 = B / 256 ^ (s - 1 - i) % 256 := by simp only [bne_iff_ne, ne_eq] at hd; omega
        conv => whnf
        refine condB_ok (by simp; exact his) ?_
        conv => whnf
        simp only [Int.toNat_natCast, Nat.zero_add]
        refine condB_ok (hroom _) ?_
        conv => whnf
        refine condB_ok (by simp; exact his) ?_
        conv => whnf
        simp only [Int.toNat_natCast, Nat.zero_add]
        refine condB_ok (hroom _) ?_
        conv => whnf
        rw [putB_nat his, putB_nat his]
        refine condB_mk (fun he => ?_) (fun he => ?_)
        · have he : A / 256 ^ (s - 1 - i) % 256 < B / 256 ^ (s - 1 - i) % 256 := by simp only [decide_eq_true_eq] at he; omega
          conv => whnf
          rw [w64 (n := (i : Int) - 1) (by omega) (by omega)]
          refine ⟨q - 1, [(0, .int .i64 A), (1, .int .i64 B), (2, .int .i64 s), (8, .sl 0 0 s capA), (10, .sl 1 0 s capB), (12, .sl 2 0 s capT), (16, .int .i64 (-1)), (17, .int .i64 (i - 1))], [some ⟨1, s, bytesG (putB 0 (fun _ => 0) A s)⟩, some ⟨1, s, bytesG (putB 0 (fun _ => 0) B s)⟩, some ⟨1, s, bytesG (putB 0 (fun _ => 0) (2 ^ (8 * s) - 1) s)⟩], [some 0, some 1, some 2], by omega, ⟨i - 1, (-1), rfl, rfl, by omega, by omega, by omega, ?_⟩, ?_⟩
          · rw [hq1, cmpO_step]; rw [if_neg hd, if_pos he]
          · exact .mk0 ⟨Flat.i rfl, Flat.i rfl, Flat.i rfl, .sl _ _ _ _ _ rfl, .sl _ _ _ _ _ rfl, .sl _ _ _ _ _ rfl, Flat.i rfl, Flat.i rfl, trivial⟩ ⟨.old 0 0 _ _ rfl rfl ⟨rfl, Nat.le_refl _, fun i j hi hj => .eq _ _ rfl (.int _ _)⟩, .old 1 1 _ _ rfl rfl ⟨rfl, Nat.le_refl _, fun i j hi hj => .eq _ _ rfl (.int _ _)⟩, .old 2 2 _ _ rfl rfl ⟨rfl, Nat.le_refl _, fun i j hi hj => .eq _ _ rfl (.int _ _)⟩, trivial⟩ rfl rfl
        · have he : ¬ A / 256 ^ (s - 1 - i) % 256 < B / 256 ^ (s - 1 - i) % 256 := by simp only [decide_eq_false_iff_not] at he; omega
          conv => whnf
          rw [w64 (n := (i : Int) - 1) (by omega) (by omega)]
          refine ⟨q - 1, [(0, .int .i64 A), (1, .int .i64 B), (2, .int .i64 s), (8, .sl 0 0 s capA), (10, .sl 1 0 s capB), (12, .sl 2 0 s capT), (16, .int .i64 1), (17, .int .i64 (i - 1))], [some ⟨1, s, bytesG (putB 0 (fun _ => 0) A s)⟩, some ⟨1, s, bytesG (putB 0 (fun _ => 0) B s)⟩, some ⟨1, s, bytesG (putB 0 (fun _ => 0) (2 ^ (8 * s) - 1) s)⟩], [some 0, some 1, some 2], by omega, ⟨i - 1, 1, rfl, rfl, by omega, by omega, by omega, ?_⟩, ?_⟩
          · rw [hq1, cmpO_step]; rw [if_neg hd, if_neg he]
          · exact .mk0 ⟨Flat.i rfl, Flat.i rfl, Flat.i rfl, .sl _ _ _ _ _ rfl, .sl _ _ _ _ _ rfl, .sl _ _ _ _ _ rfl, Flat.i rfl, Flat.i rfl, trivial⟩ ⟨.old 0 0 _ _ rfl rfl ⟨rfl, Nat.le_refl _, fun i j hi hj => .eq _ _ rfl (.int _ _)⟩, .old 1 1 _ _ rfl rfl ⟨rfl, Nat.le_refl _, fun i j hi hj => .eq _ _ rfl (.int _ _)⟩, .old 2 2 _ _ rfl rfl ⟨rfl, Nat.le_refl _, fun i j hi hj => .eq _ _ rfl (.int _ _)⟩, trivial⟩ rfl rfl
      · have hd : A / 256 ^ (s - 1 - i) % 256 = B / 256 ^ (s - 1 - i) % 256 := by simp only [bne_eq_false_iff_eq] at hd; omega
        conv => whnf
        rw [w64 (n := (i : Int) - 1) (by omega) (by omega)]
        refine ⟨q - 1, [(0, .int .i64 A), (1, .int .i64 B), (2, .int .i64 s), (8, .sl 0 0 s capA), (10, .sl 1 0 s capB), (12, .sl 2 0 s capT), (16, .int .i64 o), (17, .int .i64 (i - 1))], [some ⟨1, s, bytesG (putB 0 (fun _ => 0) A s)⟩, some ⟨1, s, bytesG (putB 0 (fun _ => 0) B s)⟩, some ⟨1, s, bytesG (putB 0 (fun _ => 0) (2 ^ (8 * s) - 1) s)⟩], [some 0, some 1, some 2], by omega, ⟨i - 1, o, rfl, rfl, by omega, by omega, by omega, ?_⟩, ?_⟩
        · rw [hq1, cmpO_step]; rw [if_pos hd]; exact ho
        · exact .mk0 ⟨Flat.i rfl, Flat.i rfl, Flat.i rfl, .sl _ _ _ _ _ rfl, .sl _ _ _ _ _ rfl, .sl _ _ _ _ _ rfl, Flat.i rfl, Flat.i rfl, trivial⟩ ⟨.old 0 0 _ _ rfl rfl ⟨rfl, Nat.le_refl _, fun i j hi hj => .eq _ _ rfl (.int _ _)⟩, .old 1 1 _ _ rfl rfl ⟨rfl, Nat.le_refl _, fun i j hi hj => .eq _ _ rfl (.int _ _)⟩, .old 2 2 _ _ rfl rfl ⟨rfl, Nat.le_refl _, fun i j hi hj => .eq _ _ rfl (.int _ _)⟩, trivial⟩ rfl rfl
    · have hb : i = -1 := by simp at hb; omega
      obtain rfl : q = 0 := by omega
      rw [Nat.sub_zero, Nat.mod_eq_of_lt (by rw [show (256 : Nat) ^ s = 2 ^ (8 * s) by rw [Nat.pow_mul]]; exact hA), Nat.mod_eq_of_lt (by rw [show (256 : Nat) ^ s = 2 ^ (8 * s) by rw [Nat.pow_mul]]; exact hB)] at ho
      have f1 : decide ((A : Int) < B) = decide (o < 0) := by
        rw [ho]; unfold cmpO; rw [decide_eq_decide]
        split
        · omega
        · split <;> omega
      have f2 : ((A : Int) == B) = (o == 0) := by
        rw [ho, Bool.eq_iff_iff, beq_iff_eq, beq_iff_eq]; unfold cmpO
        split
        · omega
        · split <;> omega
      conv => whnf
      refine condB_mk (fun g1 => ?_) (fun g1 => ?_)
      rotate_left
      · exfalso; rw [f1] at g1; simp at g1
      conv => whnf
      refine condB_mk (fun g2 => ?_) (fun g2 => ?_)
      rotate_left
      · exfalso; rw [f2] at g2; simp at g2
      conv => whnf
      refine S_wakes10 ?_
      conv => whnf
end Go.Proofs.Ytdobchoiiihfiaa
