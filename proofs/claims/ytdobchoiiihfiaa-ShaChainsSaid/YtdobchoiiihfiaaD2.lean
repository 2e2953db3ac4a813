/- What the calls of bin make; no condition. -/
import Derived.Test.YtdobchoiiihfiaaD1
set_option linter.unusedVariables false
set_option linter.unusedSimpArgs false
set_option maxRecDepth 100000
set_option pp.maxSteps 300
namespace Go.Proofs.Ytdobchoiiihfiaa
open Go Go.Wit

theorem S_clone0 (n cap : Nat) (f : Nat → Int) (hn : n ≤ 140737488355328) : ACall Pg F_slices_Clone_Sbyte_byte [.vsl 1 n cap (bytesG f)] [] (fun v m' => ∃ n' f', (n' = n ∧ f' = f) ∧ RetB n' f' v m') := by
  refine B_slices_Clone_Sbyte_byte ⟨rfl, ?_⟩
  conv => whnf
  refine condB_mk (fun hc => ?_) (fun hc h0 => ⟨?_, ?_⟩)
  · conv => whnf
    refine condB_ok (app_ok rfl rfl rfl (by omega) (by omega)) (fun cap' hcap => ?_)
    conv => whnf
    refine ⟨n, f, ⟨rfl, rfl⟩, .inr ⟨1, cap', _, _, by first | rfl | (rw [Nat.zero_add]; rfl) | rw [Nat.zero_add], rfl, by omega, fun i hi => ?_⟩⟩
    rw [catG_ge (by omega)]; rfl
  · conv => whnf
    refine condB_ok (app_ok rfl rfl rfl (by omega) (by omega)) (fun cap' hcap => ?_)
    conv => whnf
    refine ⟨n, f, ⟨rfl, rfl⟩, .inr ⟨1, cap', _, _, by first | rfl | (rw [Nat.zero_add]; rfl) | rw [Nat.zero_add], rfl, by omega, fun i hi => ?_⟩⟩
    rw [catG_ge (by omega)]; rfl
  · conv => whnf
    exact ⟨n, f, ⟨rfl, rfl⟩, .inl ⟨rfl, h0⟩⟩

theorem S_clone {m : Mem} {x : AV} {n : Nat} {f : Nat → Int} {K : AV → Mem → Prop} (hx : Shows m x n f) (hn : n ≤ 140737488355328) (hK : ∀ cap, memK (m ++ [some ⟨1, n, bytesG f⟩]) (K (.sl m.length 0 n cap))) : ACall Pg F_slices_Clone_Sbyte_byte [x] m K := by
  simp only [memK_eq] at hK
  obtain ⟨cap, hl⟩ := hx
  refine lift_bytes (S_clone0 n cap f hn) (.cons _ _ _ _ hl .nil) ?_
  rintro n' f' cap' ⟨rfl, rfl⟩
  exact hK cap'

theorem S_Twin0 (n cap : Nat) (f : Nat → Int) (hn : n ≤ 140737488355328) : ACall Pg F_witankeep_Twin [.vsl 1 n cap (bytesG f)] [] (fun v m' => ∃ n' f', (n' = n ∧ f' = f) ∧ RetB n' f' v m') := by
  refine B_witankeep_Twin ⟨rfl, ?_⟩
  conv => whnf
  refine condB_ok (app_ok rfl rfl rfl (by omega) (by omega)) (fun cap' hcap => ?_)
  conv => whnf
  refine ⟨n, f, ⟨rfl, rfl⟩, .inr ⟨0, cap', _, _, by first | rfl | (rw [Nat.zero_add]; rfl) | rw [Nat.zero_add], rfl, by omega, fun i hi => ?_⟩⟩
  rw [catG_ge (by omega)]; rfl

theorem S_Twin {m : Mem} {x : AV} {n : Nat} {f : Nat → Int} {K : AV → Mem → Prop} (hx : Shows m x n f) (hn : n ≤ 140737488355328) (hK : ∀ cap, memK (m ++ [some ⟨1, n, bytesG f⟩]) (K (.sl m.length 0 n cap))) : ACall Pg F_witankeep_Twin [x] m K := by
  simp only [memK_eq] at hK
  obtain ⟨cap, hl⟩ := hx
  refine lift_bytes (S_Twin0 n cap f hn) (.cons _ _ _ _ hl .nil) ?_
  rintro n' f' cap' ⟨rfl, rfl⟩
  exact hK cap'

/-- Room for numbers of s bytes. -/
theorem S_room (s : Nat) (hs : 1 ≤ s ∧ s ≤ 7) {m : Mem} {K : AV → Mem → Prop} (h : K (.int .i64 (2 ^ (8 * s))) m) : ACall Pg F_bin_room [.int .i64 s] m K := by
  refine B_bin_room ⟨rfl, ?_⟩
  conv => whnf
  rw [w64 (n := 8 * (s : Int)) (by omega) (by omega)]
  conv => whnf
  have e : IntKind.i64.wrap (1 * 2 ^ min ((8 : Int) * (s : Int)).toNat IntKind.i64.bits) = 2 ^ (8 * s) := by
    obtain ⟨h1, h2⟩ := hs
    have : s = 1 ∨ s = 2 ∨ s = 3 ∨ s = 4 ∨ s = 5 ∨ s = 6 ∨ s = 7 := by omega
    rcases this with rfl | rfl | rfl | rfl | rfl | rfl | rfl <;> rfl
  rw [e]
  exact h

def putOk (v s : Int) : Bool := decide (1 ≤ s) && (decide (s ≤ 7) && (decide (0 ≤ v) && decide (v < 2 ^ (8 * s).toNat)))
/-- The bytes of a number behind others. -/
def putB (n : Nat) (f : Nat → Int) (v s : Int) (i : Nat) : Int := if i < n then f i else (v / 2 ^ (8 * (s.toNat - 1 - (i - n)))) % 256

theorem S_Put0 (n cap : Nat) (f : Nat → Int) (v s : Int) (hn : n ≤ 140737488355000) : ACall Pg F_bin_Put [.vsl 1 n cap (bytesG f), .int .i64 v, .int .i64 s] []
    (fun r m' => ∃ n' f' x vs, r = .tup (x :: vs) ∧ (if putOk v s then n' = n + s.toNat ∧ f' = putB n f v s ∧ vs = [.int .i64 0] else n' = 0 ∧ vs = [.int .i64 1]) ∧ RetB n' f' x m' ∧ Flats true vs) := by
  refine B_bin_Put ⟨rfl, ?_⟩
  have hbad : putOk v s = false → ∀ m', ∃ n' f' x vs, AV.tup [.nils, .int .i64 1] = .tup (x :: vs) ∧ (if putOk v s then n' = n + s.toNat ∧ f' = putB n f v s ∧ vs = [.int .i64 0] else n' = 0 ∧ vs = [.int .i64 1]) ∧ RetB n' f' x m' ∧ Flats true vs := by
    intro h m'
    exact ⟨0, fun _ => 0, .nils, _, rfl, by simp [h], .inl ⟨rfl, rfl⟩, .cons _ _ (.int _ _) .nil⟩
  conv => whnf
  refine condB_mk (fun h1 => ?_) (fun h1 => ?_)
  rotate_left
  · conv => whnf
    exact hbad (by simp at h1; simp [putOk]; omega) []
  have h1 : 1 ≤ s := by simpa using h1
  conv => whnf
  refine condB_mk (fun h2 => ?_) (fun h2 => ?_)
  rotate_left
  · conv => whnf
    exact hbad (by simp at h2; simp [putOk]; omega) []
  have h2 : s ≤ 7 := by simpa using h2
  conv => whnf
  refine condB_mk (fun h3 => ?_) (fun h3 => ?_)
  rotate_left
  · conv => whnf
    exact hbad (by simp at h3; simp [putOk]; omega) []
  have h3 : 0 ≤ v := by simpa using h3
  obtain ⟨s, rfl⟩ : ∃ s' : Nat, s = s' := ⟨s.toNat, by omega⟩
  conv => whnf
  refine S_room s (by omega) ?_
  conv => whnf
  refine condB_mk (fun h4 => ?_) (fun h4 => ?_)
  · conv => whnf
    exact hbad (by
      simp at h4
      simp only [putOk, Bool.and_eq_false_iff, decide_eq_false_iff_not]
      right; right; right
      rw [show ((8 : Int) * (s : Int)).toNat = 8 * s by omega]; omega) []
  have h4 : v < 2 ^ (8 * s) := by simpa using h4
  conv => whnf
  refine S_clone (f := f) Shows.vsl (by omega) (fun cap1 => ?_)
  conv => whnf
  rw [w64 (n := (s : Int) - 1) (by omega) (by omega)]
  refine loop_wk mixed (I := fun q l m => ∃ (i : Int) (N c : Nat) (g : Nat → Int), l = [(1, .int .i64 v), (8, .sl 0 0 N c), (9, .int .i64 i)] ∧ m = [some ⟨1, N, bytesG g⟩] ∧ (q : Int) = i + 1 ∧ -1 ≤ i ∧ i ≤ s - 1 ∧ (N : Int) = n + s - 1 - i ∧ ∀ j, j < N → g j = putB n f v s j) s
    (l0 := [(1, .int .i64 v), (8, .sl 0 0 n cap1), (9, .int .i64 (s - 1))]) (m0 := [some ⟨1, n, bytesG f⟩]) [some 0] ⟨s - 1, n, cap1, f, rfl, rfl, by omega, by omega, by omega, by omega, fun j hj => ?_⟩ ?_ ?_
  · simp [putB, hj]
  · refine .mk0 ⟨Flat.i rfl, .sl _ _ _ _ _ rfl, Flat.i rfl, trivial⟩ ⟨.old 0 0 _ _ rfl rfl ⟨rfl, Nat.le_refl _, fun i j hi hj => .eq _ _ rfl (.int _ _)⟩, trivial⟩ rfl rfl
  · rintro q l m ⟨i, N, c, g, rfl, rfl, hq, hi1, hi2, hN, hg⟩
    conv => whnf
    refine condB_mk (fun hb => ?_) (fun hb => ?_)
    · have hb : 0 ≤ i := by simpa using hb
      conv => whnf
      rw [w64 (n := 8 * i) (by omega) (by omega)]
      refine condB_ok (decide_eq_true (by omega)) ?_
      conv => whnf
      refine condB_ok (app_ok (decide_eq_true (Nat.le_refl _)) rfl rfl (by omega) (by omega)) (fun cap' hcap => ?_)
      conv => whnf
      rw [w64 (n := i - 1) (by omega) (by omega)]
      refine ⟨q - 1, [(1, .int .i64 v), (8, .sl 0 0 (N + 1) cap'), (9, .int .i64 (i - 1))], [some ⟨1, N + 1, bytesG (fun j => if j < N then g j else (v / 2 ^ (8 * (s - 1 - (N - n)))) % 256)⟩], [some 2], by omega,
        ⟨i - 1, N + 1, cap', _, rfl, rfl, by omega, by omega, by omega, by omega, fun j hj => ?_⟩, ?_⟩
      · by_cases hjN : j < N
        · simp only [if_pos hjN]; exact hg j hjN
        · obtain rfl : j = N := by omega
          simp only [if_neg hjN]
          rw [putB, if_neg (by omega), Int.toNat_natCast]
      · refine .mk0 ⟨Flat.i rfl, .sl _ _ _ _ _ rfl, Flat.i rfl, trivial⟩ ⟨.old 0 2 _ _ rfl rfl ⟨rfl, Nat.le_refl _, fun j k hj hk => ?_⟩, trivial⟩ rfl rfl
        have hk : k < 1 := hk
        obtain rfl : k = 0 := by omega
        have hj : j < N + 1 := hj
        by_cases hjN : j < N
        · refine .eq _ _ ?_ ?_
          · dsimp only
            rw [catG_lt hjN]; simp only [bytesG, if_pos hjN]
          · dsimp only
            rw [catG_lt hjN]; exact .int _ _
        · obtain rfl : j = N := by omega
          have e : IntKind.u8.wrap (v.fdiv (2 ^ min (8 * i).toNat IntKind.i64.bits)) = (v / 2 ^ (8 * (s - 1 - (j - n)))) % 256 := by
            rw [IntKind.wrap_u8, Int.fdiv_eq_ediv_of_nonneg _ (Int.pow_nonneg (by omega))]
            rw [show min (8 * i).toNat IntKind.i64.bits = 8 * (s - 1 - (j - n)) by simp only [IntKind.bits]; omega]
          refine .eq _ _ ?_ ?_
          · dsimp only
            rw [catG_ge (Nat.le_refl _)]; simp only [bytesG, if_neg hjN, Nat.sub_self]
            rw [← e]; rfl
          · dsimp only
            rw [catG_ge (Nat.le_refl _), Nat.sub_self]; exact .int _ _
    · have hb : i = -1 := by simp at hb; omega
      conv => whnf
      have hok : putOk v s = true := by
        simp only [putOk, Bool.and_eq_true, decide_eq_true_eq]
        rw [show ((8 : Int) * (s : Int)).toNat = 8 * s by omega]
        exact ⟨h1, h2, h3, h4⟩
      refine ⟨N, putB n f v s, _, _, rfl, by rw [if_pos hok]; exact ⟨by omega, rfl, rfl⟩, .inr ⟨0, c, N, _, rfl, rfl, Nat.le_refl _, fun i hi => by rw [← hg i hi]; rfl⟩, .cons _ _ (.int _ _) .nil⟩

theorem S_Put {m : Mem} {x : AV} {n : Nat} {f : Nat → Int} {K : AV → Mem → Prop} (v s : Int) (hx : Shows m x n f) (hn : n ≤ 140737488355000)
    (h0 : putOk v s = false → ∀ cap f', memK (m ++ [some ⟨1, 0, bytesG f'⟩]) (K (.tup [.sl m.length 0 0 cap, .int .i64 1])))
    (h1 : putOk v s = true → ∀ cap, memK (m ++ [some ⟨1, n + s.toNat, bytesG (putB n f v s)⟩]) (K (.tup [.sl m.length 0 (n + s.toNat) cap, .int .i64 0]))) : ACall Pg F_bin_Put [x, .int .i64 v, .int .i64 s] m K := by
  simp only [memK_eq] at h0 h1
  obtain ⟨cap, hl⟩ := hx
  refine lift_tup (S_Put0 n cap f v s hn) (.cons _ _ _ _ hl (.cons _ _ _ _ lend_int (.cons _ _ _ _ lend_int .nil))) ?_
  intro n' f' cap' vs hR
  cases hp : putOk v s
  · rw [if_neg (by simp [hp])] at hR
    obtain ⟨rfl, rfl⟩ := hR
    exact h0 hp cap' f'
  · rw [if_pos hp] at hR
    obtain ⟨rfl, rfl, rfl⟩ := hR
    exact h1 hp cap'

theorem S_refPut0 (n cap : Nat) (f : Nat → Int) (v s : Int) (hn : n ≤ 140737488355000) (hv : -9223372036854775808 ≤ v ∧ v ≤ 9223372036854775807) : ACall Pg F_witanref10_Put [.vsl 1 n cap (bytesG f), .int .i64 v, .int .i64 s] []
    (fun r m' => ∃ n' f' x vs, r = .tup (x :: vs) ∧ (if putOk v s then n' = n + s.toNat ∧ f' = putB n f v s ∧ vs = [.int .i64 0] else n' = 0 ∧ vs = [.int .i64 1]) ∧ RetB n' f' x m' ∧ Flats true vs) := by
  refine B_witanref10_Put ⟨rfl, ?_⟩
  have hbad : putOk v s = false → ∀ m', ∃ n' f' x vs, AV.tup [.nils, .int .i64 1] = .tup (x :: vs) ∧ (if putOk v s then n' = n + s.toNat ∧ f' = putB n f v s ∧ vs = [.int .i64 0] else n' = 0 ∧ vs = [.int .i64 1]) ∧ RetB n' f' x m' ∧ Flats true vs := by
    intro h m'
    exact ⟨0, fun _ => 0, .nils, _, rfl, by simp [h], .inl ⟨rfl, rfl⟩, .cons _ _ (.int _ _) .nil⟩
  conv => whnf
  refine condB_mk (fun h1 => ?_) (fun h1 => ?_)
  rotate_left
  · conv => whnf
    exact hbad (by simp at h1; simp [putOk]; omega) []
  have h1 : 1 ≤ s := by simpa using h1
  conv => whnf
  refine condB_mk (fun h2 => ?_) (fun h2 => ?_)
  rotate_left
  · conv => whnf
    exact hbad (by simp at h2; simp [putOk]; omega) []
  have h2 : s ≤ 7 := by simpa using h2
  conv => whnf
  refine condB_mk (fun h3 => ?_) (fun h3 => ?_)
  rotate_left
  · conv => whnf
    exact hbad (by simp at h3; simp [putOk]; omega) []
  have h3 : 0 ≤ v := by simpa using h3
  obtain ⟨s, rfl⟩ : ∃ s' : Nat, s = s' := ⟨s.toNat, by omega⟩
  conv => whnf
  rw [w64 (n := 8 * (s : Int)) (by omega) (by omega), show IntKind.u64.wrap (8 * (s : Int)) = 8 * s by rw [wu64]; omega]
  conv => whnf
  have hsh : v.fdiv (2 ^ min ((8 : Int) * (s : Int)).toNat IntKind.i64.bits) = v / 2 ^ (8 * s) := by
    rw [Int.fdiv_eq_ediv_of_nonneg _ (Int.pow_nonneg (by omega))]
    rw [show min ((8 : Int) * (s : Int)).toNat IntKind.i64.bits = 8 * s by simp only [IntKind.bits]; omega]
  rw [hsh]
  have hpos : (0 : Int) < 2 ^ (8 * s) := Int.pow_pos (by omega)
  refine condB_mk (fun h4 => ?_) (fun h4 => ?_)
  · conv => whnf
    exact hbad (by
      have h4 : v / 2 ^ (8 * s) ≠ 0 := by simpa using h4
      simp only [putOk, Bool.and_eq_false_iff, decide_eq_false_iff_not]
      right; right; right
      rw [show ((8 : Int) * (s : Int)).toNat = 8 * s by omega]
      intro hlt
      exact h4 (Int.ediv_eq_zero_of_lt h3 hlt)) []
  have h4 : v < 2 ^ (8 * s) := by
    have h4 : v / 2 ^ (8 * s) = 0 := by simpa using h4
    have := Int.lt_ediv_add_one_mul_self v hpos
    rw [h4] at this; omega
  conv => whnf
  refine S_Twin (f := f) Shows.vsl (by omega) (fun cap1 => ?_)
  conv => whnf
  rw [w64 (n := (s : Int) - 1) (by omega) (by omega)]
  refine loop_wk mixed (I := fun q l m => ∃ (i : Int) (N c : Nat) (g : Nat → Int), l = [(1, .int .i64 v), (8, .sl 0 0 N c), (9, .int .i64 i)] ∧ m = [some ⟨1, N, bytesG g⟩] ∧ (q : Int) = i + 1 ∧ -1 ≤ i ∧ i ≤ s - 1 ∧ (N : Int) = n + s - 1 - i ∧ ∀ j, j < N → g j = putB n f v s j) s
    (l0 := [(1, .int .i64 v), (8, .sl 0 0 n cap1), (9, .int .i64 (s - 1))]) (m0 := [some ⟨1, n, bytesG f⟩]) [some 0] ⟨s - 1, n, cap1, f, rfl, rfl, by omega, by omega, by omega, by omega, fun j hj => ?_⟩ ?_ ?_
  · simp [putB, hj]
  · refine .mk0 ⟨Flat.i rfl, .sl _ _ _ _ _ rfl, Flat.i rfl, trivial⟩ ⟨.old 0 0 _ _ rfl rfl ⟨rfl, Nat.le_refl _, fun i j hi hj => .eq _ _ rfl (.int _ _)⟩, trivial⟩ rfl rfl
  · rintro q l m ⟨i, N, c, g, rfl, rfl, hq, hi1, hi2, hN, hg⟩
    conv => whnf
    refine condB_mk (fun hb => ?_) (fun hb => ?_)
    · have hb : 0 ≤ i := by simpa using hb
      conv => whnf
      rw [w64 (n := 8 * i) (by omega) (by omega), show IntKind.u64.wrap (8 * i) = 8 * i by rw [wu64]; omega]
      refine condB_ok (decide_eq_true (by omega)) ?_
      conv => whnf
      refine condB_ok (app_ok (decide_eq_true (Nat.le_refl _)) rfl rfl (by omega) (by omega)) (fun cap' hcap => ?_)
      conv => whnf
      rw [w64 (n := i - 1) (by omega) (by omega)]
      refine ⟨q - 1, [(1, .int .i64 v), (8, .sl 0 0 (N + 1) cap'), (9, .int .i64 (i - 1))], [some ⟨1, N + 1, bytesG (fun j => if j < N then g j else (v / 2 ^ (8 * (s - 1 - (N - n)))) % 256)⟩], [some 2], by omega,
        ⟨i - 1, N + 1, cap', _, rfl, rfl, by omega, by omega, by omega, by omega, fun j hj => ?_⟩, ?_⟩
      · by_cases hjN : j < N
        · simp only [if_pos hjN]; exact hg j hjN
        · obtain rfl : j = N := by omega
          simp only [if_neg hjN]
          rw [putB, if_neg (by omega), Int.toNat_natCast]
      · refine .mk0 ⟨Flat.i rfl, .sl _ _ _ _ _ rfl, Flat.i rfl, trivial⟩ ⟨.old 0 2 _ _ rfl rfl ⟨rfl, Nat.le_refl _, fun j k hj hk => ?_⟩, trivial⟩ rfl rfl
        have hk : k < 1 := hk
        obtain rfl : k = 0 := by omega
        have hj : j < N + 1 := hj
        by_cases hjN : j < N
        · refine .eq _ _ ?_ ?_
          · dsimp only
            rw [catG_lt hjN]; simp only [bytesG, if_pos hjN]
          · dsimp only
            rw [catG_lt hjN]; exact .int _ _
        · obtain rfl : j = N := by omega
          have e : IntKind.u8.wrap (v.fdiv (2 ^ min (8 * i).toNat IntKind.i64.bits)) = (v / 2 ^ (8 * (s - 1 - (j - n)))) % 256 := by
            rw [IntKind.wrap_u8, Int.fdiv_eq_ediv_of_nonneg _ (Int.pow_nonneg (by omega))]
            rw [show min (8 * i).toNat IntKind.i64.bits = 8 * (s - 1 - (j - n)) by simp only [IntKind.bits]; omega]
          refine .eq _ _ ?_ ?_
          · dsimp only
            rw [catG_ge (Nat.le_refl _)]; simp only [bytesG, if_neg hjN, Nat.sub_self]
            rw [← e]; rfl
          · dsimp only
            rw [catG_ge (Nat.le_refl _), Nat.sub_self]; exact .int _ _
    · have hb : i = -1 := by simp at hb; omega
      conv => whnf
      have hok : putOk v s = true := by
        simp only [putOk, Bool.and_eq_true, decide_eq_true_eq]
        rw [show ((8 : Int) * (s : Int)).toNat = 8 * s by omega]
        exact ⟨h1, h2, h3, h4⟩
      refine ⟨N, putB n f v s, _, _, rfl, by rw [if_pos hok]; exact ⟨by omega, rfl, rfl⟩, .inr ⟨0, c, N, _, rfl, rfl, Nat.le_refl _, fun i hi => by rw [← hg i hi]; rfl⟩, .cons _ _ (.int _ _) .nil⟩

theorem S_refPut {m : Mem} {x : AV} {n : Nat} {f : Nat → Int} {K : AV → Mem → Prop} (v s : Int) (hx : Shows m x n f) (hn : n ≤ 140737488355000) (hv : -9223372036854775808 ≤ v ∧ v ≤ 9223372036854775807)
    (h0 : putOk v s = false → ∀ cap f', memK (m ++ [some ⟨1, 0, bytesG f'⟩]) (K (.tup [.sl m.length 0 0 cap, .int .i64 1])))
    (h1 : putOk v s = true → ∀ cap, memK (m ++ [some ⟨1, n + s.toNat, bytesG (putB n f v s)⟩]) (K (.tup [.sl m.length 0 (n + s.toNat) cap, .int .i64 0]))) : ACall Pg F_witanref10_Put [x, .int .i64 v, .int .i64 s] m K := by
  simp only [memK_eq] at h0 h1
  obtain ⟨cap, hl⟩ := hx
  refine lift_tup (S_refPut0 n cap f v s hn hv) (.cons _ _ _ _ hl (.cons _ _ _ _ lend_int (.cons _ _ _ _ lend_int .nil))) ?_
  intro n' f' cap' vs hR
  cases hp : putOk v s
  · rw [if_neg (by simp [hp])] at hR
    obtain ⟨rfl, rfl⟩ := hR
    exact h0 hp cap' f'
  · rw [if_pos hp] at hR
    obtain ⟨rfl, rfl, rfl⟩ := hR
    exact h1 hp cap'
end Go.Proofs.Ytdobchoiiihfiaa
