/- The reference sum; no condition. -/
import Derived.Test.YtdobchoiiihfiaaD17
set_option linter.unusedVariables false
set_option linter.unusedSimpArgs false
set_option maxRecDepth 100000
set_option pp.maxSteps 300
namespace Go.Proofs.Ytdobchoiiihfiaa
open Go Go.Wit

theorem kRows : kList.map (AV.int .u32) = (List.range 64).map fun i => .int .u32 (kTab i) := rfl

theorem S_k256R {m : Mem} {K : AV → Mem → Prop} (hK : K (.agg ((List.range 64).map fun i => .int .u32 (kTab i))) m) : ACall Pg F_witanref04_k256 [] m K :=
  S_k256 (kRows ▸ hK)

theorem kRow {nv : Bool} {σ : Nat → Option Nat} {t : Nat → Int} {g : Nat → Nat → AV} {i j : Nat} {A : AV} (hi : i < 64) (hj : j < 1) (hA : A = updG ⟨1, 64, g⟩ 0 0 64 ((List.range 64).map fun i => .int .u32 (t i)) i j) : RV nv σ A (u32G t i j) := by
  subst hA
  obtain rfl : j = 0 := by omega
  have : updG ⟨1, 64, g⟩ 0 0 64 ((List.range 64).map fun i => .int .u32 (t i)) i 0 = u32G t i 0 := by
    rw [updG_all (by omega) hi, List.getD_eq_getElem?_getD, List.getElem?_map, List.getElem?_range hi]
    rfl
  rw [this]; exact .eq _ _ rfl (.int _ _)

theorem Wn_ge (b : Nat → Int) : ∀ k i, k ≤ i → Wn b k i = 0
  | 0, _, _ => rfl
  | k + 1, i, h => by
    rw [show Wn b (k + 1) i = Wn b k i from if_neg (by omega)]
    exact Wn_ge b k i (by omega)

/-- A row that a call has made lies in the caller's next block, with room for all of it. -/
theorem lift_rowC {P : Program} {fn : FuncId} {args args0 : List AV} {m : Mem} {K : AV → Mem → Prop} {es n : Nat} {G : Nat → Nat → AV} (h : ACall P fn args0 [] (fun v m' => ∃ l cap N g, v = .sl l 0 n cap ∧ n ≤ cap ∧ m'[l]? = some (some ⟨es, N, g⟩) ∧ n ≤ N ∧ ∀ i j, i < n → j < es → g i j = G i j ∧ Flat true (G i j)))
    (ha : Lends (fun _ => none) (List.range m.length) m args args0) (hK : ∀ cap, n ≤ cap → memK (m ++ [some ⟨es, n, G⟩]) (K (.sl m.length 0 n cap))) : ACall P fn args m K := by
  simp only [memK_eq] at hK
  refine h.frame0 true (List.range m.length) (fun h => by cases h) ha (fun v m' hv => ?_)
  obtain ⟨l, cap, N, g, rfl, hc, h1, h2, h3⟩ := hv
  refine ⟨.sl m.length 0 n cap, [some ⟨es, n, G⟩], [some l], Nat.le_refl _, fun i j q hi hj => ?_, .sl _ _ _ _ _ (by simp [shiftT]), ⟨.old _ l _ _ (by simp [shiftT]) h1 ⟨rfl, h2, fun i j hi hj => ?_⟩, trivial⟩, hK cap hc⟩
  · cases i <;> cases j <;> simp at hi hj; rfl
  · obtain ⟨g1, g2⟩ := h3 i j hi hj
    exact .eq _ _ g1 (show Flat true (g i j) from g1 ▸ g2)

theorem S_refPaddedC0 (n cap : Nat) (f : Nat → Int) (hn : n ≤ 1000000) : ACall Pg F_witanref04_padded [.vsl 1 n cap (bytesG f)] [] (fun v m' => ∃ l cap N g, v = .sl l 0 (padN n) cap ∧ padN n ≤ cap ∧ m'[l]? = some (some ⟨1, N, g⟩) ∧ padN n ≤ N ∧ ∀ i j, i < padN n → j < 1 → g i j = bytesG (padF n f) i j ∧ Flat true (bytesG (padF n f) i j)) := by
  obtain ⟨p1, p2, p3⟩ := padN_ge n
  refine B_witanref04_padded ⟨rfl, ?_⟩
  conv => whnf
  refine condB_ok (app_ok rfl rfl rfl (by omega) (by omega)) (fun cap1 hcap1 => ?_)
  conv => whnf
  refine condB_ok (app_ok (by simp) rfl rfl (by omega) (by omega)) (fun cap2 hcap2 => ?_)
  conv => whnf
  simp only [Nat.zero_add]
  refine loop_wk mixed (I := fun q l m => ∃ (N c : Nat) (g : Nat → Int), l = [(0, .vsl 1 n cap (bytesG f)), (3, .sl 0 0 N c)] ∧ m = [some ⟨1, N, bytesG g⟩] ∧ q + N = padN n - 8 ∧ n + 1 ≤ N ∧ N ≤ c ∧ ∀ j, j < N → g j = padF n f j) (padN n - 8 - (n + 1))
    (l0 := [(0, .vsl 1 n cap (bytesG f)), (3, .sl 0 0 (n + 1) cap2)]) (m0 := [some ⟨1, n + 1, bytesG (padF n f)⟩]) [some 2] ⟨n + 1, cap2, _, rfl, rfl, by omega, by omega, by omega, fun j hj => rfl⟩ ?_ ?_
  · refine .mk0 ⟨.eq _ _ rfl (.vsl _ _ _ _ rfl (fun _ _ _ _ => .int _ _)), .sl _ _ _ _ _ rfl, trivial⟩ ⟨.old 0 2 _ _ rfl rfl ⟨rfl, Nat.le_refl _, fun i j hi hj => ?_⟩, trivial⟩ rfl rfl
    have hj : j < 1 := hj
    have hi : i < n + 1 := hi
    refine .eq _ _ ?_ ?_ <;> (obtain rfl : j = 0 := by omega) <;> dsimp only
    · by_cases h : i < n
      · rw [catG_lt h]
        have : catG 0 (fun _ _ => AV.un) (bytesG f) i 0 = bytesG f i 0 := by rw [catG_ge (by omega)]; rfl
        refine Eq.trans this ?_
        simp only [bytesG, padF, if_pos h]
      · obtain rfl : i = n := by omega
        rw [catG_ge (by omega)]
        simp only [bytesG, padF, if_neg h, if_pos trivial, Nat.sub_self]
        rfl
    · by_cases h : i < n
      · rw [catG_lt h]
        have : catG 0 (fun _ _ => AV.un) (bytesG f) i 0 = bytesG f i 0 := by rw [catG_ge (by omega)]; rfl
        exact (show Flat false (catG 0 (fun _ _ => AV.un) (bytesG f) i 0) from this ▸ .int _ _)
      · obtain rfl : i = n := by omega
        rw [catG_ge (by omega), Nat.sub_self]
        exact .int _ _
  · rintro q l m ⟨N, c, g, rfl, rfl, hq, hN, hNc, hg⟩
    conv => whnf
    rw [show (IntKind.i64.wrap ((N : Int) + 8)).tmod 64 = (((N + 8) % 64 : Nat) : Int) by
      rw [w64 (by omega) (by omega)]; exact tmod_nat (N + 8) 64]
    refine condB_mk (fun hb => ?_) (fun hb => ?_)
    · have hb : N < padN n - 8 := by
        simp at hb
        rcases Nat.lt_or_ge N (padN n - 8) with h | h
        · exact h
        · have : N = padN n - 8 := by omega
          omega
      conv => whnf
      refine condB_ok (app_ok (by simp) rfl rfl (by omega) (by omega)) (fun cap' hcap => ?_)
      conv => whnf
      refine ⟨q - 1, [(0, .vsl 1 n cap (bytesG f)), (3, .sl 0 0 (N + 1) cap')], [some ⟨1, N + 1, bytesG (fun j => if j < N then g j else 0)⟩], [some 2], by omega, ⟨N + 1, cap', _, rfl, rfl, by omega, by omega, by omega, fun j hj => ?_⟩, ?_⟩
      · by_cases h : j < N
        · simp only [if_pos h]; exact hg j h
        · simp only [if_neg h]
          rw [padF, if_neg (by omega), if_neg (by omega), if_pos (by omega)]
      · refine .mk0 ⟨.eq _ _ rfl (.vsl _ _ _ _ rfl (fun _ _ _ _ => .int _ _)), .sl _ _ _ _ _ rfl, trivial⟩ ⟨.old 0 2 _ _ rfl rfl ⟨rfl, Nat.le_refl _, fun i j hi hj => ?_⟩, trivial⟩ rfl rfl
        dsimp only
        refine catW (N := N) (k := 1) (g := g) (g' := fun j => if j < N then g j else 0) rfl rfl (fun i hi => if_pos hi) (fun i hi => ?_) hi hj
        obtain rfl : i = 0 := by omega
        simp only [Nat.add_zero, if_neg (Nat.lt_irrefl N)]; rfl
    · have hb : N = padN n - 8 := by
        simp at hb
        omega
      conv => whnf
      rw [show IntKind.u64.wrap (IntKind.u64.wrap (n : Int) * 8) = ((8 * n : Nat) : Int) by
        rw [wu64, wu64]; omega]
      refine loop_wk mixed (I := fun q l m => ∃ (k : Int) (N c : Nat) (g : Nat → Int), l = [(0, .vsl 1 n cap (bytesG f)), (3, .sl 0 0 N c), (4, .int .u64 ((8 * n : Nat) : Int)), (5, .int .i64 k)] ∧ m = [some ⟨1, N, bytesG g⟩] ∧ (q : Int) = k + 1 ∧ -1 ≤ k ∧ k ≤ 7 ∧ (N : Int) = padN n - 1 - k ∧ N ≤ c ∧ ∀ j, j < N → g j = padF n f j) 8
        (l0 := [(0, .vsl 1 n cap (bytesG f)), (3, .sl 0 0 N c), (4, .int .u64 ((8 * n : Nat) : Int)), (5, .int .i64 7)]) (m0 := [some ⟨1, N, bytesG g⟩]) [some 0] ⟨7, N, c, g, rfl, rfl, by omega, by omega, by omega, by omega, hNc, hg⟩ ?_ ?_
      · refine .mk0 ⟨.eq _ _ rfl (.vsl _ _ _ _ rfl (fun _ _ _ _ => .int _ _)), .sl _ _ _ _ _ rfl, Flat.i rfl, Flat.i rfl, trivial⟩ ⟨.old 0 0 _ _ rfl rfl ⟨rfl, Nat.le_refl _, fun i j hi hj => .eq _ _ rfl (.int _ _)⟩, trivial⟩ rfl rfl
      · clear hb hq hN hNc hg
        rintro q l m ⟨k, N, c, g, rfl, rfl, hq, hk1, hk2, hN, hNc, hg⟩
        conv => whnf
        refine condB_mk (fun hb => ?_) (fun hb => ?_)
        · have hb : 0 ≤ k := by simpa using hb
          conv => whnf
          rw [show IntKind.u64.wrap (8 * IntKind.u64.wrap k) = 8 * k by rw [wu64, wu64]; omega]
          refine condB_ok (decide_eq_true (by omega)) ?_
          conv => whnf
          refine condB_ok (app_ok (by simp) rfl rfl (by omega) (by omega)) (fun cap' hcap => ?_)
          conv => whnf
          rw [w64 (n := k - 1) (by omega) (by omega)]
          refine ⟨q - 1, [(0, .vsl 1 n cap (bytesG f)), (3, .sl 0 0 (N + 1) cap'), (4, .int .u64 ((8 * n : Nat) : Int)), (5, .int .i64 (k - 1))], [some ⟨1, N + 1, bytesG (padF n f)⟩], [some 2], by omega, ⟨k - 1, N + 1, cap', _, rfl, rfl, by omega, by omega, by omega, by omega, by omega, fun j hj => rfl⟩, ?_⟩
          refine .mk0 ⟨.eq _ _ rfl (.vsl _ _ _ _ rfl (fun _ _ _ _ => .int _ _)), .sl _ _ _ _ _ rfl, Flat.i rfl, Flat.i rfl, trivial⟩ ⟨.old 0 2 _ _ rfl rfl ⟨rfl, Nat.le_refl _, fun i j hi hj => ?_⟩, trivial⟩ rfl rfl
          dsimp only
          refine catW (N := N) (k := 1) (g := g) (g' := padF n f) rfl rfl (fun i hi => (hg i hi).symm) (fun i hi => ?_) hi hj
          obtain rfl : i = 0 := by omega
          have e : IntKind.u8.wrap (((8 * n : Nat) : Int).fdiv (2 ^ min (8 * k).toNat IntKind.u64.bits)) = padF n f (N + 0) := by
            rw [IntKind.wrap_u8, Int.fdiv_eq_ediv_of_nonneg _ (Int.pow_nonneg (by omega)), padF, if_neg (by omega), if_neg (by omega), if_neg (by omega)]
            rw [show min (8 * k).toNat IntKind.u64.bits = 8 * (padN n - 1 - (N + 0)) by simp only [IntKind.bits]; omega]
          rw [← e]; rfl
        · have hb : k = -1 := by simp at hb; omega
          conv => whnf
          obtain rfl : N = padN n := by omega
          exact ⟨0, c, padN n, _, rfl, hNc, rfl, Nat.le_refl _, fun i j hi hj => ⟨by simp only [bytesG, hg i hi], .int _ _⟩⟩

theorem S_refPaddedC {m : Mem} {x : AV} {n : Nat} {f : Nat → Int} {K : AV → Mem → Prop} (hx : Shows m x n f) (hn : n ≤ 1000000) (hK : ∀ c, padN n ≤ c + 1 → memK (m ++ [some ⟨1, padN n, bytesG (padF n f)⟩]) (K (.sl m.length 0 (padN n) (c + 1)))) : ACall Pg F_witanref04_padded [x] m K := by
  obtain ⟨cap, hl⟩ := hx
  obtain ⟨p1, p2, p3⟩ := padN_ge n
  refine lift_rowC (S_refPaddedC0 n cap f hn) (.cons _ _ _ _ hl .nil) (fun cap' hc => ?_)
  obtain ⟨c, rfl⟩ : ∃ c, cap' = c + 1 := ⟨cap' - 1, by omega⟩
  exact hK c hc

end Go.Proofs.Ytdobchoiiihfiaa
