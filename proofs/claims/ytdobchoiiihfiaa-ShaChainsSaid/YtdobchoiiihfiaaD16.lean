/- The law ShaAlone; no condition. -/
import Derived.Test.YtdobchoiiihfiaaD15
set_option linter.unusedVariables false
set_option linter.unusedSimpArgs false
set_option maxRecDepth 100000
set_option pp.maxSteps 300
namespace Go.Proofs.Ytdobchoiiihfiaa
open Go Go.Wit

theorem sumB_lt (n : Nat) (f : Nat → Int) (i : Nat) : 0 ≤ sumB n f i ∧ sumB n f i ≤ 255 := by
  unfold sumB
  rw [IntKind.wrap_u8]; omega

theorem S_SumR {m : Mem} {x : AV} {n : Nat} {f : Nat → Int} {K : AV → Mem → Prop} (hx : Shows m x n f) (hn : n ≤ 1000000) (hf : ∀ i, i < n → 0 ≤ f i ∧ f i ≤ 255) (h : ∀ s, s = sumB n f → (∀ i, 0 ≤ s i ∧ s i ≤ 255) → K (.agg (rowL s)) m) : ACall Pg F_sha_Sum [x] m K :=
  S_Sum hx hn hf (h _ rfl (sumB_lt n f))

theorem sumBlk {nv : Bool} {σ : Nat → Option Nat} {s : Nat → Int} {g : Nat → Nat → AV} {i j : Nat} {A : AV} (hi : i < 32) (hj : j < 1) (hA : A = updG ⟨1, 32, g⟩ 0 0 32 ((List.range 32).map fun i => .int .u8 (s i)) i j) : RV nv σ A (bytesG s i j) := by
  subst hA
  obtain rfl : j = 0 := by omega
  have : updG ⟨1, 32, g⟩ 0 0 32 ((List.range 32).map fun i => .int .u8 (s i)) i 0 = bytesG s i 0 := by
    rw [updG_all (by omega) hi, List.getD_eq_getElem?_getD, List.getElem?_map, List.getElem?_range hi]
    rfl
  rw [this]; exact .eq _ _ rfl (.int _ _)

theorem updB {nv : Bool} {σ : Nat → Option Nat} {a z : Nat → Int} {k i j N : Nat} {x : Int} {A : AV} (hj : j < 1) (hx : x = a k) (hA : A = updG ⟨1, N, bytesG (fun i => if i < k then a i else z i)⟩ k 0 1 [.int .u8 x] i j) :
    RV nv σ A (bytesG (fun i => if i < k + 1 then a i else z i) i j) := by
  subst hA hx
  obtain rfl : j = 0 := by omega
  have : updG ⟨1, N, bytesG (fun i => if i < k then a i else z i)⟩ k 0 1 [.int .u8 (a k)] i 0 = bytesG (fun i => if i < k + 1 then a i else z i) i 0 := by
    rw [updG_one]
    by_cases he : i = k
    · subst he
      rw [if_pos rfl]
      simp only [bytesG, Nat.lt_succ_self, if_true]
    · rw [if_neg he]
      simp only [bytesG]
      by_cases hl : i < k
      · rw [if_pos hl, if_pos (by omega)]
      · rw [if_neg hl, if_neg (by omega)]
  rw [this]; exact .eq _ _ rfl (.int _ _)

theorem zeroB {nv : Bool} {σ : Nat → Option Nat} {a z : Nat → Int} {i j : Nat} {A : AV} (hA : A = .int .u8 (z i)) : RV nv σ A (bytesG (fun i => if i < 0 then a i else z i) i j) := by
  subst hA
  exact .eq _ _ (by simp only [bytesG]; rw [if_neg (Nat.not_lt_zero _)]) (.int _ _)

theorem copyB {n N i j : Nat} {f h : Nat → Int} (hn : n ≤ N) (hj : j < 1) : pickA (Nat.ble 0 i && Nat.blt i (0 + minN n N)) (bytesG f (i - 0) j) (bytesG h i j) = bytesG (fun i => if i < n then f i else h i) i 0 := by
  have e : minN n N = n := by rw [minN_eq]; omega
  have e0 : Nat.ble 0 i = true := by simp
  rw [e, pickA_eq, e0]
  by_cases hi : i < n
  · have : Nat.blt i n = true := by rw [Nat.blt_eq]; exact hi
    simp [bytesG, hi, this]
  · have : Nat.blt i n = false := by
      cases hb : Nat.blt i n with
      | false => rfl
      | true => rw [Nat.blt_eq] at hb; omega
    simp [bytesG, hi, this]

theorem copyW {nv : Bool} {σ : Nat → Option Nat} {n N i j : Nat} {f h : Nat → Int} {A : AV} (hn : n ≤ N) (hj : j < 1) (hA : A = pickA (Nat.ble 0 i && Nat.blt i (0 + minN n N)) (bytesG f (i - 0) j) (bytesG h i j)) : RV nv σ A (bytesG (fun i => if i < n then f i else h i) i j) := by
  rw [copyB hn hj] at hA
  subst hA
  exact .eq _ _ rfl (.int _ _)

theorem S_ShaAlone (n c1 : Nat) (f : Nat → Int) (k c2 : Nat) (g : Nat → Int) (v : Int) (hf : ∀ i, i < n → 0 ≤ f i ∧ f i ≤ 255) (hg : ∀ i, i < k → 0 ≤ g i ∧ g i ≤ 255) :
    ACall Pg F_witanlaw04_ShaAlone [.vsl 1 n c1 (bytesG f), .vsl 1 k c2 (bytesG g), .int .i64 v] [] (fun x _ => x = .bool true) := by
  refine B_witanlaw04_ShaAlone ⟨rfl, ?_⟩
  conv => whnf
  refine condB_mk (fun hc => ?_) (fun hc => ?_)
  rotate_left
  · have e : decide ((n : Int) > 3000) = true := by simpa using hc
    simp only [e]
    conv => whnf
  have hn : n ≤ 3000 := by simp at hc; omega
  conv => whnf
  refine condB_mk (fun hc => ?_) (fun hc => ?_)
  rotate_left
  · have e : decide ((k : Int) > 3000) = true := by simpa using hc
    simp only [e]
    conv => whnf
  have hk : k ≤ 3000 := by simp at hc; omega
  conv => whnf
  refine condB_mk (fun hc => ?_) (fun hc => ?_)
  rotate_left
  · have e : decide (v < 0) = true := by simpa using hc
    simp only [e]
    conv => whnf
  have hv : 0 ≤ v := by simp at hc; omega
  conv => whnf
  refine condB_mk (fun hc => ?_) (fun hc => ?_)
  · conv => whnf
  have hv2 : v ≤ 200 := by simp at hc; omega
  obtain ⟨v, rfl⟩ : ∃ v' : Nat, v = v' := ⟨v.toNat, by omega⟩
  conv => whnf
  refine S_SumR (f := f) Shows.vsl (by omega) hf (fun s hs hsb => ?_)
  rw [rowL]
  conv => whnf
  refine S_SumR (f := g) Shows.vsl (by omega) hg (fun s2 _ _ => ?_)
  conv => whnf
  have e1 : IntKind.i64.wrap ((n : Int) + (v : Int)) = ((n + v : Nat) : Int) := by rw [w64 (by omega) (by omega)]; omega
  simp only [e1]
  refine condB_ok (by simp; omega) ?_
  conv => whnf
  simp only [Int.toNat_natCast]
  generalize hN : n + v = N
  refine loop_wk mixed (I := fun q l m => ∃ (j : Nat), l = [(0, .vsl 1 n c1 (bytesG f)), (7, .ptr 0 0 0), (8, .sl 1 0 N N), (9, .int .i64 j)] ∧
      m = [some ⟨1, 32, bytesG s⟩, some ⟨1, N, bytesG (fun i => if i < j then 77 else 0)⟩] ∧ q + j = N) N
    (l0 := [(0, .vsl 1 n c1 (bytesG f)), (7, .ptr 0 0 0), (8, .sl 1 0 N N), (9, .int .i64 (0 : Nat))])
    (m0 := [some ⟨1, 32, bytesG s⟩, some ⟨1, N, bytesG (fun i => if i < 0 then 77 else 0)⟩]) [some 0, some 1] ⟨0, rfl, rfl, rfl⟩ ?_ ?_
  · refine .mk0 ⟨.eq _ _ rfl (.vsl _ _ _ _ rfl (fun _ _ _ _ => .int _ _)), .ptr _ _ _ _ rfl, .sl _ _ _ _ _ rfl, Flat.i rfl, trivial⟩ ⟨.old 0 0 _ _ rfl rfl ⟨rfl, Nat.le_refl _, fun i j hi hj => ?_⟩, .old 1 1 _ _ rfl rfl ⟨rfl, Nat.le_refl _, fun i j hi hj => ?_⟩, trivial⟩ rfl rfl
    · exact sumBlk hi hj rfl
    · have hj : j < 1 := hj
      obtain rfl : j = 0 := by omega
      exact zeroB (j := 0) (a := fun _ => 77) (z := fun _ => 0) rfl
  · rintro q l m ⟨j, rfl, rfl, hq⟩
    conv => whnf
    refine condB_mk (fun hb => ?_) (fun hb => ?_)
    · have hb : j < N := by simp at hb; omega
      conv => whnf
      refine condB_ok (by simp; omega) ?_
      conv => whnf
      simp only [Int.toNat_natCast, Nat.zero_add]
      refine condB_ok (by simp [roomG, Nat.ble_eq]; omega) ?_
      conv => whnf
      have e5 : IntKind.i64.wrap ((j : Int) + 1) = ((j + 1 : Nat) : Int) := by rw [w64 (by omega) (by omega)]; omega
      refine ⟨q - 1, [(0, .vsl 1 n c1 (bytesG f)), (7, .ptr 0 0 0), (8, .sl 1 0 N N), (9, .int .i64 ((j + 1 : Nat) : Int))], [some ⟨1, 32, bytesG s⟩, some ⟨1, N, bytesG (fun i => if i < j + 1 then 77 else 0)⟩], [some 0, some 1], by omega, ⟨j + 1, rfl, rfl, by omega⟩, ?_⟩
      refine .mk0 ⟨.eq _ _ rfl (.vsl _ _ _ _ rfl (fun _ _ _ _ => .int _ _)), .ptr _ _ _ _ rfl, .sl _ _ _ _ _ rfl, Flat.i e5, trivial⟩ ⟨.old 0 0 _ _ rfl rfl ⟨rfl, Nat.le_refl _, fun i j hi hj => .eq _ _ rfl (.int _ _)⟩, .old 1 1 _ _ rfl rfl ⟨rfl, Nat.le_refl _, fun i j hi hj => ?_⟩, trivial⟩ rfl rfl
      exact updB (a := fun _ => 77) (z := fun _ => 0) hj rfl rfl
    · have hb : j = N := by simp at hb; omega
      subst hb
      conv => whnf
      refine condB_ok (by simp) ?_
      conv => whnf
      refine condB_ok (by simp; omega) ?_
      conv => whnf
      rw [show ((n : Int).toNat - 0) = n by omega]
      refine S_SumR (f := f) (Shows.any rfl (show 0 + n ≤ j by omega) (fun i hi => ?_)) (by omega) hf (fun s' hs' _ => ?_)
      · dsimp only
        rw [copyB (by omega) (by omega)]
        simp only [bytesG, Nat.zero_add]
        rw [if_pos hi]
      obtain rfl : s' = s := hs'.trans hs.symm
      rw [rowL]
      conv => whnf
      refine loop_wk mixed (I := fun q l m => ∃ (i : Nat), l = [(7, .ptr 0 0 0), (8, .sl 1 0 j j), (10, .ptr 2 0 0), (11, .int .i64 i)] ∧
          m = [some ⟨1, 32, bytesG s'⟩, some ⟨1, j, bytesG (fun i => if i < n then f i else if i < j then 77 else 0)⟩, some ⟨1, 32, bytesG s'⟩] ∧ q + i = j ∧ n ≤ i) (j - n)
        (l0 := [(7, .ptr 0 0 0), (8, .sl 1 0 j j), (10, .ptr 2 0 0), (11, .int .i64 n)])
        (m0 := [some ⟨1, 32, bytesG s'⟩, some ⟨1, j, bytesG (fun i => if i < n then f i else if i < j then 77 else 0)⟩, some ⟨1, 32, bytesG s'⟩]) [some 0, some 1, some 2] ⟨n, rfl, rfl, by omega, by omega⟩ ?_ ?_
      · refine .mk0 ⟨.ptr _ _ _ _ rfl, .sl _ _ _ _ _ rfl, .ptr _ _ _ _ rfl, Flat.i rfl, trivial⟩ ⟨.old 0 0 _ _ rfl rfl ⟨rfl, Nat.le_refl _, fun i j hi hj => .eq _ _ rfl (.int _ _)⟩, .old 1 1 _ _ rfl rfl ⟨rfl, Nat.le_refl _, fun a b ha hb => ?_⟩, .old 2 2 _ _ rfl rfl ⟨rfl, Nat.le_refl _, fun i j hi hj => ?_⟩, trivial⟩ rfl rfl
        · exact copyW (n := n) (N := j) (f := f) (h := fun i => if i < j then 77 else 0) (by omega) hb rfl
        · exact sumBlk hi hj rfl
      · rintro q l m ⟨i, rfl, rfl, hq, hi⟩
        conv => whnf
        refine condB_mk (fun hb => ?_) (fun hb => ?_)
        · have hb : i < j := by simp at hb; omega
          conv => whnf
          refine condB_ok (by simp; omega) ?_
          conv => whnf
          simp only [Int.toNat_natCast, Nat.zero_add]
          refine condB_ok (by simp [roomG, Nat.ble_eq]; omega) ?_
          have e5 : IntKind.i64.wrap ((i : Int) + 1) = ((i + 1 : Nat) : Int) := by rw [w64 (by omega) (by omega)]; omega
          conv => whnf
          refine condB_mk (fun hd => ?_) (fun hd => ?_)
          · exfalso
            simp [show ¬ i < n by omega, hb] at hd
          · conv => whnf
            refine ⟨q - 1, [(7, .ptr 0 0 0), (8, .sl 1 0 j j), (10, .ptr 2 0 0), (11, .int .i64 ((i + 1 : Nat) : Int))], [some ⟨1, 32, bytesG s'⟩, some ⟨1, j, bytesG (fun i => if i < n then f i else if i < j then 77 else 0)⟩, some ⟨1, 32, bytesG s'⟩], [some 0, some 1, some 2], by omega, ⟨i + 1, rfl, rfl, by omega, by omega⟩, ?_⟩
            refine .mk0 ⟨.ptr _ _ _ _ rfl, .sl _ _ _ _ _ rfl, .ptr _ _ _ _ rfl, Flat.i e5, trivial⟩ ⟨.old 0 0 _ _ rfl rfl ⟨rfl, Nat.le_refl _, fun i j hi hj => .eq _ _ rfl (.int _ _)⟩, .old 1 1 _ _ rfl rfl ⟨rfl, Nat.le_refl _, fun i j hi hj => .eq _ _ rfl (.int _ _)⟩, .old 2 2 _ _ rfl rfl ⟨rfl, Nat.le_refl _, fun i j hi hj => .eq _ _ rfl (.int _ _)⟩, trivial⟩ rfl rfl
        · have hb : i = j := by simp at hb; omega
          subst hb
          conv => whnf
          refine S_Bytes (n1 := 32) (n2 := 32) (f := s') (g := s') (Shows.any rfl (by simp) (fun i hi => ?_)) (Shows.any rfl (by simp) (fun i hi => ?_)) (by omega) ?_
          · simp only [bytesG, Nat.zero_add]
          · simp only [bytesG, Nat.zero_add]
          rw [sameB_eq.2 ⟨rfl, fun _ _ => rfl⟩]
          conv => whnf
          refine ⟨⟨[], rfl⟩, ?_⟩
          conv => whnf
          refine S_wakes ?_
          conv => whnf
          refine ⟨⟨[], rfl⟩, ?_⟩
          conv => whnf

theorem S_row_ShaAlone (avs : List AV) (h : okVs [.sl 1 (.int .u8), .sl 1 (.int .u8), .int .i64] avs) : ∃ avs', Retold avs avs' ∧ ACall Pg F_witanlaw04_ShaAlone avs' [] (fun x _ => x = .bool true) := by
  obtain ⟨a, _, rfl, h1, b, _, rfl, h2, c, _, rfl, h3, rfl⟩ := h
  obtain ⟨n, c1, f, r1, _, _, hf⟩ := ok_bytes h1
  obtain ⟨k, c2, g, r2, _, _, hg⟩ := ok_bytes h2
  obtain ⟨v, rfl, _⟩ := ok_int h3
  exact ⟨_, .cons r1 (.cons r2 (.cons (Retold1.refl _) .nil)), S_ShaAlone n c1 f k c2 g v hf hg⟩

end Go.Proofs.Ytdobchoiiihfiaa
