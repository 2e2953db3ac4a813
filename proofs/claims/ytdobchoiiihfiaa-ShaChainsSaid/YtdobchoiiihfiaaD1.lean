/- What the small calls make; no condition. -/
import Derived.Test.YtdobchoiiihfiaaC1
import Derived.IntWalk
set_option linter.unusedVariables false
set_option maxRecDepth 100000
set_option pp.maxSteps 300
set_option linter.unusedSimpArgs false
namespace Go.Proofs.Ytdobchoiiihfiaa
open Go Go.Wit

theorem w64 {n : Int} (h0 : -9223372036854775808 ≤ n) (h1 : n ≤ 9223372036854775807) : IntKind.i64.wrap n = n := by rw [IntKind.wrap_i64]; omega

theorem wu64 (n : Int) : IntKind.u64.wrap n = n % 18446744073709551616 := by simp [IntKind.wrap, IntKind.bits, IntKind.signed]

def isDealer (n : Int) : Bool := decide (1 ≤ n) && decide (n ≤ 8)

theorem S_dealer (n : Int) {m : Mem} {K : AV → Mem → Prop} (h : K (.bool (isDealer n)) m) : ACall Pg F_judge_dealer [.int .i64 n] m K := by
  refine B_judge_dealer ⟨rfl, ?_⟩
  conv => whnf
  refine condB_mk (fun hb => ?_) (fun hb => ?_)
  · conv => whnf
    simp at hb
    simpa [isDealer, hb] using h
  · conv => whnf
    simp at hb
    simpa [isDealer, show ¬ (1 ≤ n) by omega] using h

def placeA (a b : Int) : Int := bif isDealer a && isDealer b && !(a == b) then (bif decide (b < a) then b - 1 else b - 2) else 0
def placeF (a b : Int) : Int := bif isDealer a && isDealer b && !(a == b) then 0 else 1

theorem S_Place (a b : Int) {m : Mem} {K : AV → Mem → Prop} (h : K (.tup [.int .i64 (placeA a b), .int .i64 (placeF a b)]) m) : ACall Pg F_judge_Place [.int .i64 a, .int .i64 b] m K := by
  refine B_judge_Place ⟨rfl, ?_⟩
  conv => whnf
  refine S_dealer a ?_
  conv => whnf
  refine condB_mk (fun hb => ?_) (fun hb => ?_)
  · simp at hb
    conv => whnf
    refine S_dealer b ?_
    conv => whnf
    refine condB_mk (fun hc => ?_) (fun hc => ?_)
    · simp at hc
      conv => whnf
      have ha' : 1 ≤ a ∧ a ≤ 8 := by simpa [isDealer] using hb
      have hb' : 1 ≤ b ∧ b ≤ 8 := by simpa [isDealer] using hc
      refine condB_mk (fun hd => ?_) (fun hd => ?_)
      · simp at hd
        conv => whnf
        subst hd
        simpa [placeA, placeF] using h
      · have hd : (a == b) = false := hd
        conv => whnf
        refine condB_mk (fun he => ?_) (fun he => ?_)
        · simp at he
          conv => whnf
          rw [w64 (by omega) (by omega)]
          simpa [placeA, placeF, hb, hc, hd, he] using h
        · simp at he
          conv => whnf
          rw [w64 (by omega) (by omega)]
          simpa [placeA, placeF, hb, hc, hd, show ¬ b < a by omega] using h
    · simp at hc
      conv => whnf
      simpa [placeA, placeF, hb, hc] using h
  · simp at hb
    conv => whnf
    simpa [placeA, placeF, hb] using h

theorem S_wakes14 {m : Mem} {K : AV → Mem → Prop} (h : K (.bool true) m) : ACall Pg F_witanlaw14_wakes [] m K := by
  refine B_witanlaw14_wakes ⟨rfl, ?_⟩
  conv => whnf
  refine S_Place 3 1 ?_
  rw [show placeA 3 1 = 0 from rfl, show placeF 3 1 = 0 from rfl]
  conv => whnf
  refine S_Place 1 3 ?_
  rw [show placeA 1 3 = 1 from rfl, show placeF 1 3 = 0 from rfl]
  conv => whnf
  refine S_Place 2 2 ?_
  rw [show placeA 2 2 = 0 from rfl, show placeF 2 2 = 1 from rfl]
  conv => whnf
  exact h

theorem place_self {a : Int} : placeA a a = 0 ∧ placeF a a = 1 := by simp [placeA, placeF]
theorem place_lt {a b : Int} (h : 1 ≤ b ∧ b < a ∧ a ≤ 8) : placeA a b = b - 1 ∧ placeF a b = 0 := by
  have h1 : isDealer a = true := by simp [isDealer]; omega
  have h2 : isDealer b = true := by simp [isDealer]; omega
  have h3 : (a == b) = false := by simp; omega
  simp [placeA, placeF, h1, h2, h3, h.2.1]
theorem place_gt {a b : Int} (h : 1 ≤ a ∧ a < b ∧ b ≤ 8) : placeA a b = b - 2 ∧ placeF a b = 0 := by
  have h1 : isDealer a = true := by simp [isDealer]; omega
  have h2 : isDealer b = true := by simp [isDealer]; omega
  have h3 : (a == b) = false := by simp; omega
  simp [placeA, placeF, h1, h2, h3, show ¬ b < a by omega]

theorem S_JudgeSeals (d v : Int) : ACall Pg F_witanlaw14_JudgeSeals [.int .i64 d, .int .i64 v] [] (fun r _ => r = .bool true) := by
  refine B_witanlaw14_JudgeSeals ⟨rfl, ?_⟩
  conv => whnf
  generalize hN : IntKind.i64.wrap (2 + IntKind.i64.wrap ((IntKind.u64.wrap d).tmod 7)) = N
  have hN1 : 2 ≤ N ∧ N ≤ 8 := by
    subst hN
    have := Int.tmod_nonneg (b := 7) (show 0 ≤ IntKind.u64.wrap d by rw [wu64]; omega)
    have := Int.tmod_lt_of_pos (IntKind.u64.wrap d) (show (0:Int) < 7 by omega)
    rw [w64 (n := (IntKind.u64.wrap d).tmod 7) (by omega) (by omega), w64 (by omega) (by omega)]
    omega
  have huN : IntKind.u64.wrap N = N := by rw [wu64]; omega
  rw [huN]
  refine condB_ok (by simp [kbeq]; omega) ?_
  conv => whnf
  generalize hV : IntKind.i64.wrap (1 + IntKind.i64.wrap ((IntKind.u64.wrap v).tmod N)) = V
  have hV1 : 1 ≤ V ∧ V ≤ N := by
    subst hV
    have := Int.tmod_nonneg (b := N) (show 0 ≤ IntKind.u64.wrap v by rw [wu64]; omega)
    have := Int.tmod_lt_of_pos (IntKind.u64.wrap v) (show (0:Int) < N by omega)
    rw [w64 (n := (IntKind.u64.wrap v).tmod N) (by omega) (by omega), w64 (by omega) (by omega)]
    omega
  clear hN hV huN
  obtain ⟨n, rfl⟩ : ∃ n : Nat, N = (n : Int) + 1 := ⟨(N - 1).toNat, by omega⟩
  rw [show IntKind.i64.wrap ((n : Int) + 1 - 1) = n by rw [w64 (by omega) (by omega)]; omega]
  refine condB_ok (by simp; omega) ?_
  simp only [Int.toNat_natCast]
  conv => whnf
  refine loop_wk mixed (I := fun q l m => ∃ (j a : Int) (g : Nat → Nat → AV), l = [(0, .int .i64 (n + 1)), (1, .int .i64 V), (5, .sl 0 0 n n), (6, .int .i64 a), (7, .int .i64 j)] ∧ m = [some ⟨1, n, g⟩] ∧ (q : Int) = n + 2 - j ∧ 1 ≤ j ∧ j ≤ n + 2 ∧
      (a = bif decide (j ≤ V) then j - 2 else j - 3) ∧ (∀ i : Nat, i < n → ∃ b, g i 0 = .bool b ∧ (a < i → b = false))) (n + 1)
    (l0 := [(0, .int .i64 (n + 1)), (1, .int .i64 V), (5, .sl 0 0 n n), (6, .int .i64 (-1)), (7, .int .i64 1)]) (m0 := [some ⟨1, n, fun _ _ => .bool false⟩]) [some 0] ⟨1, -1, _, rfl, rfl, by omega, by omega, by omega, ?_, fun i hi => ⟨_, rfl, fun _ => rfl⟩⟩ ?_ ?_
  · simp [show 1 ≤ V by omega]
  · refine .mk0 ⟨Flat.i rfl, Flat.i rfl, .sl _ _ _ _ _ rfl, Flat.i rfl, Flat.i rfl, trivial⟩ ⟨.old 0 0 _ _ rfl rfl ⟨rfl, Nat.le_refl _, fun i j hi hj => ?_⟩, trivial⟩ rfl rfl
    have hj : j < 1 := hj
    obtain rfl : j = 0 := by omega
    exact Flat.b rfl
  · rintro q l m ⟨j, a, g, rfl, rfl, hq, h1, h2, ha, hg⟩
    conv => whnf
    refine condB_mk (fun hb => ?_) (fun hb => ?_)
    · have hb : j ≤ n + 1 := by simpa using hb
      conv => whnf
      refine S_Place V j ?_
      by_cases hjV : V = j
      · subst hjV
        rw [place_self.1, place_self.2]
        conv => whnf
        refine condB_mk (fun hc => ?_) (fun hc => ?_)
        · conv => whnf
          rw [w64 (by omega) (by omega)]
          refine ⟨q - 1, [(0, .int .i64 (n + 1)), (1, .int .i64 V), (5, .sl 0 0 n n), (6, .int .i64 a), (7, .int .i64 (V + 1))], [some ⟨1, n, g⟩], [some 0], by omega, ⟨V + 1, a, g, rfl, rfl, by omega, by omega, by omega, ?_, hg⟩, ?_⟩
          · simp only [Int.le_refl, decide_true, cond_true] at ha
            simp only [show ¬ (V + 1 ≤ V) by omega, decide_false, cond_false]; omega
          · refine .mk0 ⟨Flat.i rfl, Flat.i rfl, .sl _ _ _ _ _ rfl, Flat.i rfl, Flat.i rfl, trivial⟩ ⟨.old 0 0 _ _ rfl rfl ⟨rfl, Nat.le_refl _, fun i j hi hj => ?_⟩, trivial⟩ rfl rfl
            have hj : j < 1 := hj
            obtain rfl : j = 0 := by omega
            obtain ⟨b, hb1, _⟩ := hg i hi
            show RV false _ (g i 0) (g i 0)
            rw [hb1]; exact Flat.b rfl
        · simp at hc
      · obtain ⟨p, p1, p2, p3, p4⟩ : ∃ p : Nat, placeA V j = p ∧ placeF V j = 0 ∧ p < n ∧ a + 1 = p := by
          rcases Int.lt_trichotomy j V with hlt | he | hlt
          · obtain ⟨p1, p2⟩ := place_lt (a := V) (b := j) (by omega)
            simp only [show j ≤ V by omega, decide_true, cond_true] at ha
            exact ⟨(j - 1).toNat, by omega, p2, by omega, by omega⟩
          · exact absurd he.symm hjV
          · obtain ⟨p1, p2⟩ := place_gt (a := V) (b := j) (by omega)
            simp only [show ¬ j ≤ V by omega, decide_false, cond_false] at ha
            exact ⟨(j - 2).toNat, by omega, p2, by omega, by omega⟩
        rw [p1, p2]
        conv => whnf
        refine condB_mk (fun hc => ?_) (fun hc => ?_)
        · simp at hc; omega
        conv => whnf
        refine condB_mk (fun hd => ?_) (fun hd => ?_)
        rotate_left
        · rw [w64 (by omega) (by omega)] at hd; simp at hd; omega
        conv => whnf
        refine condB_mk (fun he => ?_) (fun he => ?_)
        rotate_left
        · simp at he; omega
        rw [Int.toNat_natCast, Nat.zero_add]
        refine condB_ok (by simp [roomG, Nat.ble_eq]; exact p3) ?_
        obtain ⟨b, hb1, hb2⟩ := hg p p3
        obtain rfl := hb2 (by omega)
        rw [show cellG ⟨1, n, g⟩ p 0 0 = .bool false from hb1]
        conv => whnf
        refine condB_mk (fun he => ?_) (fun he => ?_)
        · simp at he; omega
        conv => whnf
        refine condB_ok (by simp; exact p3) ?_
        conv => whnf
        rw [Int.toNat_natCast, Nat.zero_add]
        refine condB_ok (by simp [roomG, Nat.ble_eq]; exact p3) ?_
        conv => whnf
        rw [w64 (n := j + 1) (by omega) (by omega)]
        refine ⟨q - 1, [(0, .int .i64 (n + 1)), (1, .int .i64 V), (5, .sl 0 0 n n), (6, .int .i64 p), (7, .int .i64 (j + 1))], [some ⟨1, n, updG ⟨1, n, g⟩ p 0 1 [.bool true]⟩], [some 0], by omega, ⟨j + 1, p, _, rfl, rfl, by omega, by omega, by omega, ?_, fun i hi => ?_⟩, ?_⟩
        · rcases Int.lt_trichotomy j V with hlt | he | hlt
          · simp only [show j ≤ V by omega, show j + 1 ≤ V by omega, decide_true, cond_true] at ha ⊢; omega
          · exact absurd he.symm hjV
          · simp only [show ¬ j ≤ V by omega, show ¬ j + 1 ≤ V by omega, decide_false, cond_false] at ha ⊢; omega
        · obtain ⟨b, q1, q2⟩ := hg i hi
          by_cases hip : i = p
          · exact ⟨true, by rw [updG_one, if_pos hip], by omega⟩
          · exact ⟨b, by rw [updG_one, if_neg hip, q1], fun h => q2 (by omega)⟩
        · refine .mk0 ⟨Flat.i rfl, Flat.i rfl, .sl _ _ _ _ _ rfl, Flat.i rfl, Flat.i rfl, trivial⟩ ⟨.old 0 0 _ _ rfl rfl ⟨rfl, Nat.le_refl _, fun i j hi hj => ?_⟩, trivial⟩ rfl rfl
          have hj : j < 1 := hj
          obtain rfl : j = 0 := by omega
          obtain ⟨b, q1, q2⟩ := hg i hi
          show RV false _ (updG ⟨1, n, g⟩ p 0 1 [.bool true] i 0) (updG ⟨1, n, g⟩ p 0 1 [.bool true] i 0)
          have : ∃ b', updG ⟨1, n, g⟩ p 0 1 [.bool true] i 0 = .bool b' := by
            by_cases hip : i = p
            · exact ⟨true, by rw [updG_one, if_pos hip]⟩
            · exact ⟨b, by rw [updG_one, if_neg hip, q1]⟩
          obtain ⟨b', hb'⟩ := this
          rw [hb']; exact Flat.b rfl
    · have hb : n + 1 < j := by simpa using hb
      conv => whnf
      refine condB_mk (fun hc => ?_) (fun hc => ?_)
      · conv => whnf
        refine S_wakes14 ?_
        conv => whnf
      · exfalso
        rw [w64 (by omega) (by omega)] at hc
        simp at hc
        simp only [show ¬ j ≤ V by omega, decide_false, cond_false] at ha
        omega
end Go.Proofs.Ytdobchoiiihfiaa
