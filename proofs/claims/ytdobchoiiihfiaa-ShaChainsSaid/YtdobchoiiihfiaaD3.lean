/- What the readers of bin make; no condition. -/
import Derived.Test.YtdobchoiiihfiaaD2
set_option linter.unusedVariables false
set_option linter.unusedSimpArgs false
set_option maxRecDepth 100000
set_option pp.maxSteps 300
namespace Go.Proofs.Ytdobchoiiihfiaa
open Go Go.Wit

theorem or_byte {a b : Int} (ha : 0 ≤ a ∧ a < 36028797018963968) (hb : 0 ≤ b ∧ b ≤ 255) : bitsV .or .i64 (a * 256) b = a * 256 + b := by
  obtain ⟨A, rfl⟩ : ∃ A : Nat, a = A := ⟨a.toNat, by omega⟩
  obtain ⟨B, rfl⟩ : ∃ B : Nat, b = B := ⟨b.toNat, by omega⟩
  have h1 : BitVec.ofInt 64 ((A : Int) * 256) = BitVec.ofNat 64 (256 * A) := by
    rw [show ((A : Int) * 256) = ((256 * A : Nat) : Int) by omega, BitVec.ofInt_natCast]
  have h2 : BitVec.ofInt 64 (B : Int) = BitVec.ofNat 64 B := BitVec.ofInt_natCast _ _
  show IntKind.i64.wrap ((BitVec.ofInt 64 ((A : Int) * 256) ||| BitVec.ofInt 64 (B : Int)).toNat) = _
  rw [h1, h2, BitVec.toNat_or, BitVec.toNat_ofNat, BitVec.toNat_ofNat, Nat.mod_eq_of_lt (by omega), Nat.mod_eq_of_lt (by omega)]
  have h3 := Nat.two_pow_add_eq_or_of_lt (i := 8) (b := B) (by omega) A
  rw [show (256 : Nat) = 2 ^ 8 from rfl, ← h3, w64 (by omega) (by omega)]
  omega

def getV (f : Nat → Int) (p : Nat) : Nat → Int
  | 0 => 0
  | k + 1 => getV f p k * 256 + f (p + k)

theorem getV_lt {f : Nat → Int} {p k : Nat} (hf : ∀ i, i < p + k → 0 ≤ f i ∧ f i ≤ 255) : 0 ≤ getV f p k ∧ getV f p k < 256 ^ k := by
  induction k with
  | zero => simp [getV]
  | succ k ih =>
    have h1 := ih (fun i hi => hf i (by omega))
    have h2 := hf (p + k) (by omega)
    simp only [getV]
    have : (256 : Int) ^ (k + 1) = 256 ^ k * 256 := by rw [Int.pow_succ]
    omega

def getE (n : Nat) (pos s : Int) : Int :=
  if decide (1 ≤ s) && (decide (s ≤ 7) && (decide (0 ≤ pos) && decide (pos ≤ n))) then (if (n : Int) - pos < s then 7 else 0) else 1

def getR (n : Nat) (f : Nat → Int) (pos s : Int) : AV :=
  if getE n pos s = 0 then .tup [.int .i64 (getV f pos.toNat s.toNat), .int .i64 (pos + s), .int .i64 0] else .tup [.int .i64 0, .int .i64 0, .int .i64 (getE n pos s)]

theorem S_Get0 (n cap : Nat) (f : Nat → Int) (pos s : Int) (hn : n ≤ 140737488355328) (hf : ∀ i, i < n → 0 ≤ f i ∧ f i ≤ 255) : ACall Pg F_bin_Get [.vsl 1 n cap (bytesG f), .int .i64 pos, .int .i64 s] []
    (fun r m' => r = getR n f pos s ∧ Flat true r) := by
  refine B_bin_Get ⟨rfl, ?_⟩
  have hbad : getE n pos s ≠ 0 → ∀ e, e = getE n pos s → AV.tup [.int .i64 0, .int .i64 0, .int .i64 e] = getR n f pos s ∧ Flat true (AV.tup [.int .i64 0, .int .i64 0, .int .i64 e]) := by
    rintro h e rfl
    exact ⟨by rw [getR, if_neg h], .tup _ (.cons _ _ (.int _ _) (.cons _ _ (.int _ _) (.cons _ _ (.int _ _) .nil)))⟩
  conv => whnf
  refine condB_mk (fun h1 => ?_) (fun h1 => ?_)
  rotate_left
  · conv => whnf
    have : getE n pos s = 1 := by simp at h1; simp [getE]; omega
    exact hbad (by omega) _ this.symm
  have h1 : 1 ≤ s := by simpa using h1
  conv => whnf
  refine condB_mk (fun h2 => ?_) (fun h2 => ?_)
  rotate_left
  · conv => whnf
    have : getE n pos s = 1 := by simp at h2; simp [getE]; omega
    exact hbad (by omega) _ this.symm
  have h2 : s ≤ 7 := by simpa using h2
  conv => whnf
  refine condB_mk (fun h3 => ?_) (fun h3 => ?_)
  rotate_left
  · conv => whnf
    have : getE n pos s = 1 := by simp at h3; simp [getE]; omega
    exact hbad (by omega) _ this.symm
  have h3 : 0 ≤ pos := by simpa using h3
  conv => whnf
  refine condB_mk (fun h4 => ?_) (fun h4 => ?_)
  · conv => whnf
    have : getE n pos s = 1 := by simp at h4; simp [getE]; omega
    exact hbad (by omega) _ this.symm
  have h4 : pos ≤ n := by simpa using h4
  conv => whnf
  rw [w64 (n := (n : Int) - pos) (by omega) (by omega)]
  refine condB_mk (fun h5 => ?_) (fun h5 => ?_)
  · conv => whnf
    have : getE n pos s = 7 := by simp at h5; simp [getE]; omega
    exact hbad (by omega) _ this.symm
  have h5 : s ≤ n - pos := by simpa using h5
  obtain ⟨p, rfl⟩ : ∃ p : Nat, pos = p := ⟨pos.toNat, by omega⟩
  obtain ⟨s, rfl⟩ : ∃ s' : Nat, s = s' := ⟨s.toNat, by omega⟩
  have hsum : IntKind.i64.wrap ((p : Int) + s) = ((p + s : Nat) : Int) := by rw [w64 (n := (p : Int) + s) (by omega) (by omega)]; omega
  conv => whnf
  rw [hsum]
  refine condB_ok ?_ ?_
  · simp only [hsum, Int.toNat_natCast, Bool.and_eq_true, Bool.or_eq_true, decide_eq_true_eq]; exact ⟨⟨trivial, ⟨by omega, .inl (by omega)⟩, by omega, by omega⟩, by omega⟩
  simp only [Int.toNat_natCast, Nat.add_sub_cancel_left]
  conv => whnf
  have hf' : ∀ i, i < p + s → 0 ≤ f i ∧ f i ≤ 255 := fun i hi => hf i (by omega)
  refine loop_wk mixed (I := fun q l m => ∃ (k : Nat), l = [(1, .int .i64 p), (2, .int .i64 s), (6, .int .i64 (getV f p k)), (40, .vsl 1 s (cap - p) (fun i j => bytesG f (i + p) j)), (41, .int .i64 s), (42, .int .i64 k)] ∧ m = [] ∧ q + k = s) s
    (l0 := [(1, .int .i64 p), (2, .int .i64 s), (6, .int .i64 0), (40, .vsl 1 s (cap - p) (fun i j => bytesG f (i + p) j)), (41, .int .i64 s), (42, .int .i64 0)]) (m0 := []) [] ⟨0, rfl, rfl, rfl⟩ ?_ ?_
  · exact .mk0 ⟨Flat.i rfl, Flat.i rfl, Flat.i rfl, .eq _ _ rfl (.vsl _ _ _ _ rfl (fun _ _ _ _ => .int _ _)), Flat.i rfl, Flat.i rfl, trivial⟩ trivial rfl rfl
  · rintro q l m ⟨k, rfl, rfl, hq⟩
    conv => whnf
    refine condB_mk (fun hb => ?_) (fun hb => ?_)
    · have hb : k < s := by simpa using hb
      conv => whnf
      refine condB_ok (by simp; omega) ?_
      conv => whnf
      obtain ⟨g1, g2⟩ := getV_lt (f := f) (p := p) (k := k) (fun i hi => hf' i (by omega))
      have g3 : (256 : Int) ^ k ≤ 256 ^ 6 := by
        have : 256 ^ k ≤ 256 ^ 6 := Nat.pow_le_pow_right (by omega) (by omega)
        exact_mod_cast this
      have g4 := hf' (p + k) (by omega)
      rw [w64 (n := (k : Int) + 1) (by omega) (by omega), show min (Int.toNat 8) IntKind.i64.bits = 8 from rfl, Int.toNat_natCast, Nat.add_comm k p,
        w64 (n := f (p + k)) (by omega) (by omega), w64 (n := getV f p k * 2 ^ 8) (by omega) (by omega)]
      refine ⟨q - 1, [(1, .int .i64 p), (2, .int .i64 s), (6, .int .i64 (getV f p (k + 1))), (40, .vsl 1 s (cap - p) (fun i j => bytesG f (i + p) j)), (41, .int .i64 s), (42, .int .i64 ((k + 1 : Nat) : Int))], [], [], by omega, ⟨k + 1, rfl, rfl, by omega⟩, ?_⟩
      exact .mk0 ⟨Flat.i rfl, Flat.i rfl, Flat.i (or_byte (by omega) g4), .eq _ _ rfl (.vsl _ _ _ _ rfl (fun _ _ _ _ => .int _ _)), Flat.i rfl, Flat.i (by omega), trivial⟩ trivial rfl rfl
    · have hb : k = s := by simp at hb; omega
      subst hb
      conv => whnf
      rw [hsum]
      have h0 : getE n p k = 0 := by
        simp only [getE]
        rw [if_pos (by simp; omega), if_neg (by omega)]
      refine ⟨?_, .tup _ (.cons _ _ (.int _ _) (.cons _ _ (.int _ _) (.cons _ _ (.int _ _) .nil)))⟩
      rw [getR, if_pos h0, Int.toNat_natCast, Int.toNat_natCast, Int.natCast_add]

theorem S_Get {m : Mem} {x : AV} {n : Nat} {f : Nat → Int} {K : AV → Mem → Prop} (pos s : Int) (hx : Shows m x n f) (hn : n ≤ 140737488355328) (hf : ∀ i, i < n → 0 ≤ f i ∧ f i ≤ 255) (h : K (getR n f pos s) m) : ACall Pg F_bin_Get [x, .int .i64 pos, .int .i64 s] m K := by
  obtain ⟨cap, hl⟩ := hx
  refine lift_flat (S_Get0 n cap f pos s hn hf) (.cons _ _ _ _ hl (.cons _ _ _ _ lend_int (.cons _ _ _ _ lend_int .nil))) ?_
  rintro v rfl
  exact h

end Go.Proofs.Ytdobchoiiihfiaa
