/- Texts of a proof, one behind the other; the last of these: The law ShaParts answers true for all that it may be handed: its row; no condition. -/
import Derived.Test.YtjflfecdeicccaaZ5
import Derived.Test.YtjflfecdeicccaaRows
import Derived.WalkKit
import Derived.ProofKit
import Derived.OpenShut
import Derived.ShutString
import Derived.ChangeOld
import Derived.Below
import Derived.SizedLaws
section
/- ShaExact; no condition. -/
set_option linter.unusedVariables false
set_option linter.unusedSimpArgs false
set_option maxRecDepth 100000
set_option pp.maxSteps 3000
set_option pp.deepTerms false
set_option pp.deepTerms.threshold 7
namespace Go.Proofs.Ytjflfecdeicccaa
open Go Go.Wit

theorem eqf_of {p : Prop} [Decidable p] (h : (decide p == false) = true) : ¬ p := by simpa using h
theorem S_ShaExact (n c1 : Nat) (f : Nat → Int) (k c2 : Nat) (g : Nat → Int) (hf : ∀ i, i < n → 0 ≤ f i ∧ f i ≤ 255) (hg : ∀ i, i < k → 0 ≤ g i ∧ g i ≤ 255) :
    ACall Pg F_witanlaw04_ShaExact [.vsl 1 n c1 (bytesG f), .vsl 1 k c2 (bytesG g)] [] (fun x _ => x = .bool true) := by
  refine B_witanlaw04_ShaExact ⟨rfl, ?_⟩
  conv => whnf
  repeat (refine ⟨⟨_, rfl⟩, ?_⟩; conv => whnf)
  refine condB_mk (fun hn => ?_) (fun hn => ?_)
  rotate_left
  · conv => whnf
    repeat (refine ⟨⟨_, rfl⟩, ?_⟩; conv => whnf)
  have hn := eqf_of hn
  conv => whnf
  repeat (refine ⟨⟨_, rfl⟩, ?_⟩; conv => whnf)
  refine condB_mk (fun hk => ?_) (fun hk => ?_)
  · conv => whnf
    repeat (refine ⟨⟨_, rfl⟩, ?_⟩; conv => whnf)
  have hk : ¬ (k : Int) > 3000 := of_decide_eq_false hk
  conv => whnf
  repeat (refine ⟨⟨_, rfl⟩, ?_⟩; conv => whnf)
  refine S_Twin (f := f) Shows.vsl (by omega) (fun cap1 => ?_)
  conv => whnf
  repeat (refine ⟨⟨_, rfl⟩, ?_⟩; conv => whnf)
  refine S_Twin (f := g) Shows.vsl (by omega) (fun cap2 => ?_)
  conv => whnf
  repeat (refine ⟨⟨_, rfl⟩, ?_⟩; conv => whnf)
  refine S_SumR (n := k) (f := g) (Shows.sl rfl (Nat.le_of_eq (Nat.zero_add _)) fun i hi => by rw [Nat.zero_add]) (by omega) hg (fun s1 hs1 hb1 => ?_)
  rw [rowL]
  conv => whnf
  repeat (refine ⟨⟨_, rfl⟩, ?_⟩; conv => whnf)
  refine S_Sum256R (n := k) (f := g) Shows.vsl (by omega) hg (fun s2 hs2 hb2 => ?_)
  obtain rfl : s2 = s1 := hs2.trans hs1.symm
  rw [rowL]
  conv => whnf
  repeat (refine ⟨⟨_, rfl⟩, ?_⟩; conv => whnf)
  refine S_Mac (n := n) (k := k) (f := f) (g := g) (Shows.sl rfl (Nat.le_of_eq (Nat.zero_add _)) fun i hi => by rw [Nat.zero_add]) (Shows.sl rfl (Nat.le_of_eq (Nat.zero_add _)) fun i hi => by rw [Nat.zero_add]) (by omega) (by omega) hf hg (fun s3 hs3 hb3 => ?_)
  rw [rowL]
  conv => whnf
  repeat (refine ⟨⟨_, rfl⟩, ?_⟩; conv => whnf)
  refine S_RMac (n := n) (k := k) (f := f) (g := g) Shows.vsl Shows.vsl (by omega) (by omega) hf hg (fun s4 hs4 hb4 => ?_)
  obtain rfl : s4 = s3 := hs4.trans hs3.symm
  rw [rowL]
  conv => whnf
  repeat (refine ⟨⟨_, rfl⟩, ?_⟩; conv => whnf)
  refine S_Bytes (n1 := 32) (n2 := 32) (f := s2) (g := s2) (Shows.any rfl (by simp) (fun i hi => rowAt hi rfl)) (Shows.any rfl (by simp) (fun i hi => rowAt hi rfl)) (by omega) ?_
  rw [sameB_eq.2 ⟨rfl, fun _ _ => rfl⟩]
  conv => whnf
  repeat (refine ⟨⟨_, rfl⟩, ?_⟩; conv => whnf)
  refine S_Bytes (n1 := 32) (n2 := 32) (f := s4) (g := s4) (Shows.any rfl (by simp) (fun i hi => rowAt hi rfl)) (Shows.any rfl (by simp) (fun i hi => rowAt hi rfl)) (by omega) ?_
  rw [sameB_eq.2 ⟨rfl, fun _ _ => rfl⟩]
  conv => whnf
  repeat (refine ⟨⟨_, rfl⟩, ?_⟩; conv => whnf)
  refine S_Bytes (n1 := n) (n2 := n) (f := f) (g := f) (Shows.sl rfl (Nat.le_of_eq (Nat.zero_add _)) fun i hi => by rw [Nat.zero_add]) Shows.vsl (by omega) ?_
  rw [sameB_eq.2 ⟨rfl, fun _ _ => rfl⟩]
  conv => whnf
  repeat (refine ⟨⟨_, rfl⟩, ?_⟩; conv => whnf)
  refine S_Bytes (n1 := k) (n2 := k) (f := g) (g := g) (Shows.sl rfl (Nat.le_of_eq (Nat.zero_add _)) fun i hi => by rw [Nat.zero_add]) Shows.vsl (by omega) ?_
  rw [sameB_eq.2 ⟨rfl, fun _ _ => rfl⟩]
  conv => whnf
  repeat (refine ⟨⟨_, rfl⟩, ?_⟩; conv => whnf)
  refine S_wakes ?_
  conv => whnf
  repeat (refine ⟨⟨_, rfl⟩, ?_⟩; conv => whnf)
theorem S_row_ShaExact (avs : List AV) (h : okVs [.sl 1 (.int .u8), .sl 1 (.int .u8)] avs) : ∃ avs', Retold avs avs' ∧ ACall Pg F_witanlaw04_ShaExact avs' [] (fun x _ => x = .bool true) := by
  obtain ⟨v1, _, rfl, h1, v2, _, rfl, h2, rfl⟩ := h
  obtain ⟨n, c1, f, r1, _, _, hf⟩ := ok_bytes h1
  obtain ⟨k, c2, g, r2, _, _, hg⟩ := ok_bytes h2
  exact ⟨_, .cons r1 (.cons r2 .nil), S_ShaExact n c1 f k c2 g hf hg⟩
end Go.Proofs.Ytjflfecdeicccaa
end

section
/- ShaParts; no condition. -/
set_option linter.unusedVariables false
set_option linter.unusedSimpArgs false
set_option maxRecDepth 100000
set_option pp.maxSteps 3000
set_option pp.deepTerms false
set_option pp.deepTerms.threshold 7
namespace Go.Proofs.Ytjflfecdeicccaa
open Go Go.Wit

theorem row1 {nv : Bool} {σ : Nat → Option Nat} {P : Nat → Int} {c x : Int} {k i j p : Nat} {A : AV} (hj : j < 1) (hp : p = k) (hx : x = xorB (P k) c) (hA : A = updG ⟨1, 64, bytesG (fun i => if i < k then xorB (P i) c else 0)⟩ p 0 1 [.int .u8 x] i j) :
    RV nv σ A (bytesG (fun i => if i < k + 1 then xorB (P i) c else 0) i j) := by
  subst hp
  exact updB (a := fun i => xorB (P i) c) (z := fun _ => 0) hj hx hA
theorem row2 {nv : Bool} {σ : Nat → Option Nat} {P : Nat → Int} {c x y : Int} {k i j p q : Nat} {A : AV} (hj : j < 1) (hp : p = k) (hq : q = k) (hx : x = xorB (P k) c) (hA : A = updG ⟨1, 64, updG ⟨1, 64, bytesG (fun i => if i < k then xorB (P i) c else 0)⟩ q 0 1 [.int .u8 y]⟩ p 0 1 [.int .u8 x] i j) :
    RV nv σ A (bytesG (fun i => if i < k + 1 then xorB (P i) c else 0) i j) := by
  subst hp hq
  obtain rfl : j = 0 := by omega
  refine updB (a := fun i => xorB (P i) c) (z := fun _ => 0) (N := 64) hj hx ?_
  rw [hA, updG_one, updG_one, updG_one]
  by_cases h : i = q
  · rw [if_pos h, if_pos h]
  · rw [if_neg h, if_neg h, if_neg h]
theorem S_ShaParts (n c1 : Nat) (f : Nat → Int) (k c2 : Nat) (g : Nat → Int) (hf : ∀ i, i < n → 0 ≤ f i ∧ f i ≤ 255) (hg : ∀ i, i < k → 0 ≤ g i ∧ g i ≤ 255) :
    ACall Pg F_witanlaw04_ShaParts [.vsl 1 n c1 (bytesG f), .vsl 1 k c2 (bytesG g)] [] (fun x _ => x = .bool true) := by
  refine B_witanlaw04_ShaParts ⟨rfl, ?_⟩
  conv => whnf
  repeat (refine ⟨⟨_, rfl⟩, ?_⟩; conv => whnf)
  refine condB_mk (fun hn => ?_) (fun hn => ?_)
  rotate_left
  · conv => whnf
    repeat (refine ⟨⟨_, rfl⟩, ?_⟩; conv => whnf)
  have hn := eqf_of hn
  conv => whnf
  repeat (refine ⟨⟨_, rfl⟩, ?_⟩; conv => whnf)
  refine condB_mk (fun hk => ?_) (fun hk => ?_)
  · conv => whnf
    repeat (refine ⟨⟨_, rfl⟩, ?_⟩; conv => whnf)
  have hk : ¬ (k : Int) > 3000 := of_decide_eq_false hk
  have hP' : ∀ i, keyP n f i = if i < n then f i else 0 := fun i => by simp only [keyP, keyN, keyG, if_neg (show ¬ 64 < n by omega)]
  have hM : macB n f k g = sumB 96 (outF (keyP n f) (sumB (64 + k) (inF (keyP n f) g))) := rfl
  generalize keyP n f = P at *
  conv => whnf
  repeat (refine ⟨⟨_, rfl⟩, ?_⟩; conv => whnf)
  refine loop_wk mixed (I := fun q l m => ∃ (j : Nat), l = [(0, .vsl 1 n c1 (bytesG f)), (1, .vsl 1 k c2 (bytesG g)), (5, .ptr 0 0 0), (6, .ptr 1 0 0), (7, .int .i64 j)] ∧ m = [some ⟨1, 64, bytesG (fun i => if i < j then xorB (P i) 54 else 0)⟩, some ⟨1, 64, bytesG (fun i => if i < j then xorB (P i) 92 else 0)⟩] ∧ q + j = 64) 64
    (l0 := [(0, .vsl 1 n c1 (bytesG f)), (1, .vsl 1 k c2 (bytesG g)), (5, .ptr 0 0 0), (6, .ptr 1 0 0), (7, .int .i64 (0 : Nat))]) (m0 := [some ⟨1, 64, bytesG (fun i => if i < 0 then xorB (P i) 54 else 0)⟩, some ⟨1, 64, bytesG (fun i => if i < 0 then xorB (P i) 92 else 0)⟩]) [some 0, some 1] ⟨0, rfl, rfl, rfl⟩ ?_ ?_
  · exact .mk0 ⟨.eq _ _ rfl (.vsl _ _ _ _ rfl (fun _ _ _ _ => .int _ _)), .eq _ _ rfl (.vsl _ _ _ _ rfl (fun _ _ _ _ => .int _ _)), .ptr _ _ _ _ rfl, .ptr _ _ _ _ rfl, Flat.i rfl, trivial⟩ ⟨.old 0 0 _ _ rfl rfl ⟨rfl, Nat.le_refl _, fun i j hi hj => zeroW hj rfl⟩, .old 1 1 _ _ rfl rfl ⟨rfl, Nat.le_refl _, fun i j hi hj => zeroW hj rfl⟩, trivial⟩ rfl rfl
  · rintro q l m ⟨j, rfl, rfl, hq⟩
    conv => whnf
    repeat (refine ⟨⟨_, rfl⟩, ?_⟩; conv => whnf)
    refine condB_mk (fun hb => ?_) (fun hb => ?_)
    · have hb : j < 64 := by simp at hb; omega
      have e5 : IntKind.i64.wrap ((j : Int) + 1) = ((j + 1 : Nat) : Int) := by rw [w64 (by omega) (by omega)]; omega
      conv => whnf
      repeat (refine ⟨⟨_, rfl⟩, ?_⟩; conv => whnf)
      refine condB_ok (by simp; omega) ?_
      conv => whnf
      repeat (refine ⟨⟨_, rfl⟩, ?_⟩; conv => whnf)
      refine condB_ok (by simp [roomG, Nat.ble_eq]; omega) ?_
      conv => whnf
      repeat (refine ⟨⟨_, rfl⟩, ?_⟩; conv => whnf)
      refine condB_ok (by simp; omega) ?_
      conv => whnf
      repeat (refine ⟨⟨_, rfl⟩, ?_⟩; conv => whnf)
      refine condB_ok (by simp [roomG, Nat.ble_eq]; omega) ?_
      conv => whnf
      repeat (refine ⟨⟨_, rfl⟩, ?_⟩; conv => whnf)
      refine condB_mk (fun hb2 => ?_) (fun hb2 => ?_)
      · have hb2 : j < n := by simp at hb2; omega
        have hPj : P j = f j := by rw [hP', if_pos hb2]
        conv => whnf
        repeat (refine ⟨⟨_, rfl⟩, ?_⟩; conv => whnf)
        refine condB_ok (by simp; omega) ?_
        conv => whnf
        repeat (refine ⟨⟨_, rfl⟩, ?_⟩; conv => whnf)
        refine condB_ok (by simp; omega) ?_
        conv => whnf
        repeat (refine ⟨⟨_, rfl⟩, ?_⟩; conv => whnf)
        refine condB_ok (by simp; omega) ?_
        conv => whnf
        repeat (refine ⟨⟨_, rfl⟩, ?_⟩; conv => whnf)
        refine condB_ok (by simp [roomG, Nat.ble_eq]; omega) ?_
        conv => whnf
        repeat (refine ⟨⟨_, rfl⟩, ?_⟩; conv => whnf)
        refine condB_ok (by simp; omega) ?_
        conv => whnf
        repeat (refine ⟨⟨_, rfl⟩, ?_⟩; conv => whnf)
        refine condB_ok (by simp [roomG, Nat.ble_eq]; omega) ?_
        conv => whnf
        repeat (refine ⟨⟨_, rfl⟩, ?_⟩; conv => whnf)
        refine ⟨q - 1, [(0, .vsl 1 n c1 (bytesG f)), (1, .vsl 1 k c2 (bytesG g)), (5, .ptr 0 0 0), (6, .ptr 1 0 0), (7, .int .i64 ((j + 1 : Nat) : Int))], [some ⟨1, 64, bytesG (fun i => if i < j + 1 then xorB (P i) 54 else 0)⟩, some ⟨1, 64, bytesG (fun i => if i < j + 1 then xorB (P i) 92 else 0)⟩], [some 0, some 1], by omega, ⟨j + 1, rfl, rfl, by omega⟩, ?_⟩
        exact .mk0 ⟨.eq _ _ rfl (.vsl _ _ _ _ rfl (fun _ _ _ _ => .int _ _)), .eq _ _ rfl (.vsl _ _ _ _ rfl (fun _ _ _ _ => .int _ _)), .ptr _ _ _ _ rfl, .ptr _ _ _ _ rfl, Flat.i e5, trivial⟩ ⟨.old 0 0 _ _ rfl rfl ⟨rfl, Nat.le_refl _, fun a b ha hb => row2 hb (Nat.zero_add _) (Nat.zero_add _) (by rw [hPj]; rfl) rfl⟩, .old 1 1 _ _ rfl rfl ⟨rfl, Nat.le_refl _, fun a b ha hb => row2 hb (Nat.zero_add _) (Nat.zero_add _) (by rw [hPj]; rfl) rfl⟩, trivial⟩ rfl rfl
      · have hb2 : ¬ j < n := by simp at hb2; omega
        have hPj : P j = 0 := by rw [hP', if_neg hb2]
        conv => whnf
        repeat (refine ⟨⟨_, rfl⟩, ?_⟩; conv => whnf)
        refine ⟨q - 1, [(0, .vsl 1 n c1 (bytesG f)), (1, .vsl 1 k c2 (bytesG g)), (5, .ptr 0 0 0), (6, .ptr 1 0 0), (7, .int .i64 ((j + 1 : Nat) : Int))], [some ⟨1, 64, bytesG (fun i => if i < j + 1 then xorB (P i) 54 else 0)⟩, some ⟨1, 64, bytesG (fun i => if i < j + 1 then xorB (P i) 92 else 0)⟩], [some 0, some 1], by omega, ⟨j + 1, rfl, rfl, by omega⟩, ?_⟩
        exact .mk0 ⟨.eq _ _ rfl (.vsl _ _ _ _ rfl (fun _ _ _ _ => .int _ _)), .eq _ _ rfl (.vsl _ _ _ _ rfl (fun _ _ _ _ => .int _ _)), .ptr _ _ _ _ rfl, .ptr _ _ _ _ rfl, Flat.i e5, trivial⟩ ⟨.old 0 0 _ _ rfl rfl ⟨rfl, Nat.le_refl _, fun a b ha hb => row1 hb (Nat.zero_add _) (by rw [hPj]; decide) rfl⟩, .old 1 1 _ _ rfl rfl ⟨rfl, Nat.le_refl _, fun a b ha hb => row1 hb (Nat.zero_add _) (by rw [hPj]; decide) rfl⟩, trivial⟩ rfl rfl
    · have hb : j = 64 := by simp at hb; omega
      subst hb
      conv => whnf
      repeat (refine ⟨⟨_, rfl⟩, ?_⟩; conv => whnf)
      refine S_Twin (n := 64) (f := fun i => if i < 64 then xorB (P i) 54 else 0) (Shows.sl rfl (Nat.le_refl _) fun i hi => by rw [Nat.zero_add]) (by decide) (fun cap1 => ?_)
      conv => whnf
      repeat (refine ⟨⟨_, rfl⟩, ?_⟩; conv => whnf)
      refine condB_ok (app_ok (by first | rfl | simp) rfl rfl (by omega) (by omega)) (fun cap2 hcap2 => ?_)
      conv => whnf
      repeat (refine ⟨⟨_, rfl⟩, ?_⟩; conv => whnf)
      refine S_SumR (n := 64 + k) (f := inF P g) (Shows.slG rfl (by omega) fun i hi => ?_) (by omega) (fun i hi => ?_) (fun s1 hs1 hb1 => ?_)
      · unfold inF
        rw [Nat.zero_add]
        by_cases h : i < 64
        · rw [catG_lt h, if_pos h]; show AV.int .u8 (if i < 64 then _ else _) = _; rw [if_pos h]
        · rw [catG_ge (by omega), if_neg h]; rfl
      · unfold inF; split
        · exact xorB_lt _ _
        · exact hg _ (by omega)
      rw [rowL]
      conv => whnf
      repeat (refine ⟨⟨_, rfl⟩, ?_⟩; conv => whnf)
      refine S_Twin (n := 64) (f := fun i => if i < 64 then xorB (P i) 92 else 0) (Shows.sl rfl (Nat.le_refl _) fun i hi => by rw [Nat.zero_add]) (by decide) (fun cap3 => ?_)
      conv => whnf
      repeat (refine ⟨⟨_, rfl⟩, ?_⟩; conv => whnf)
      refine fun cap4 hcap4 => ?_
      conv => whnf
      repeat (refine ⟨⟨_, rfl⟩, ?_⟩; conv => whnf)
      refine S_SumR (n := 96) (f := outF P s1) (Shows.slG rfl (Nat.le_of_eq (Nat.zero_add _)) fun i hi => ?_) (by decide) (fun i hi => ?_) (fun s2 hs2 hb2 => ?_)
      · unfold outF
        rw [show 0 + i = i from Nat.zero_add i]
        by_cases h : i < 64
        · rw [catG_lt h, if_pos h]; show AV.int .u8 (if i < 64 then _ else _) = _; rw [if_pos h]
        · rw [catG_ge (by omega), if_neg h]; exact rowAtE (i := i - 64) (by omega) (by omega) rfl
      · unfold outF; split
        · exact xorB_lt _ _
        · exact hb1 _
      rw [rowL]
      conv => whnf
      repeat (refine ⟨⟨_, rfl⟩, ?_⟩; conv => whnf)
      refine S_Mac (n := n) (k := k) (f := f) (g := g) Shows.vsl Shows.vsl (by omega) (by omega) hf hg (fun s3 hs3 hb3 => ?_)
      obtain rfl : s3 = s2 := by rw [hs3, hM, hs2, hs1]
      rw [rowL]
      conv => whnf
      repeat (refine ⟨⟨_, rfl⟩, ?_⟩; conv => whnf)
      refine S_Bytes (n1 := 32) (n2 := 32) (f := s3) (g := s3) (Shows.any rfl (by simp) (fun i hi => rowAt hi rfl)) (Shows.any rfl (by simp) (fun i hi => rowAt hi rfl)) (by omega) ?_
      rw [sameB_eq.2 ⟨rfl, fun _ _ => rfl⟩]
      conv => whnf
      repeat (refine ⟨⟨_, rfl⟩, ?_⟩; conv => whnf)
      refine S_wakes ?_
      conv => whnf
      repeat (refine ⟨⟨_, rfl⟩, ?_⟩; conv => whnf)
theorem S_row_ShaParts (avs : List AV) (h : okVs [.sl 1 (.int .u8), .sl 1 (.int .u8)] avs) : ∃ avs', Retold avs avs' ∧ ACall Pg F_witanlaw04_ShaParts avs' [] (fun x _ => x = .bool true) := by
  obtain ⟨v1, _, rfl, h1, v2, _, rfl, h2, rfl⟩ := h
  obtain ⟨n, c1, f, r1, _, _, hf⟩ := ok_bytes h1
  obtain ⟨k, c2, g, r2, _, _, hg⟩ := ok_bytes h2
  exact ⟨_, .cons r1 (.cons r2 .nil), S_ShaParts n c1 f k c2 g hf hg⟩
end Go.Proofs.Ytjflfecdeicccaa
end

section
/- The law ShaParts answers true for all that it may be handed: its row; no condition. -/
namespace Go.Proofs.Ytjflfecdeicccaa.shaParts
open Go.ChangeShapes Go.WideShapes Go.ChangeAt Go.RowKit Go.Wit
set_option linter.unusedVariables false
theorem own : ownKnob Try.prog.godebug = none := by kernel_rfl
theorem laid : laidOutB Try.prog = true := by kernel_rfl
set_option maxRecDepth 100000 in
theorem lifted (os : Os) (started : os.Started) (H : Type) (enc : TypeId × Value → H) :
    ReturnsInHanded {} Try.checked os 4 .any (Rows.shaPartsSpec.pre6 enc Try.prog Try.f4 Rows.shaPartsRow.domain false) (Rows.shaPartsSpec.post enc Try.prog Try.f4 false true false false) := by
  refine returnsInHanded_of_change_sized (C := Try.checked) own started (by kernel_rfl) Try.func4
    (ChangeSpec.witness6 (enc := enc) (C := Try.checked) false ⟨#[], #[.slice none 0 0, .slice none 0 0], []⟩ 12 (by kernel_rfl) (by kernel_rfl) (by kernel_rfl) (by kernel_rfl)) ?_
  intro W base args ds gs before hval0 hW hcnd hsz0 _
  have hval : ∀ (j : Nat) t v, Try.f4.params[j]? = some t → args[j]? = some v → Value.okWide Try.prog W .any base t v := hval0
  have hW' := hW
  obtain ⟨p, q, hA0, hV, rfl, hfz, hnd⟩ := hW
  have hA : DataW.TrodAll enc Try.prog W 0 (fun _ => true) true Try.f4.params.toList args.toList ds p := hA0
  obtain ⟨rfl, rfl⟩ := trodVars_none hV
  have l0 : ds.length = 2 := trod_len hA
  obtain ⟨d1, ds1, rfl, l1⟩ := cons_of_len l0
  obtain ⟨d2, ds2, rfl, l2⟩ := cons_of_len l1
  obtain rfl := nil_of_len l2
  refine (law_open (tys := [.sl 1 (.int .u8), .sl 1 (.int .u8)]) (by kernel_rfl) (fun j t v h1 h2 => hval j t v (by simpa using h1) (by simpa using h2)) hA S_row_ShaParts).mono fun e W' ⟨he, bel⟩ => ?_
  subst he
  exact ⟨_, rfl, _, _, _, [], _, [], hW', trodAll_mk1 (shut_bool Try.underlying4 _), shut_vals laid bel (by kernel_rfl) hA, rfl, bel.frame _, fun h => by cases h⟩
theorem over : Rows.shaPartsRow.holds Try.pinned (OpenSpec.ofChange Rows.shaPartsSpec) :=
  OpenClaim.holds_of_wide 4 Try.f4 rfl rfl rfl rfl rfl rfl rfl ⟨rfl, rfl, rfl, rfl, rfl⟩ rfl rfl rfl rfl rfl (by kernel_rfl) Try.func4 (by kernel_rfl)
    (of_decide_eq_true (by kernel_rfl)) (by unfold Func.isWrapper; first | (rw [if_pos (by decide +kernel)]; kernel_rfl) | (rw [if_neg (by decide +kernel)]; exact ⟨rfl, rfl⟩))
    (fun os started H enc _ => lifted os started H enc)
theorem proved : Rows.ShaPartsSaid := over
#print axioms proved
end Go.Proofs.Ytjflfecdeicccaa.shaParts
namespace Go.Proofs.Ytjflfecdeicccaa
/-- The row, under a short name, for the claim. -/
theorem shaParts_holds : Rows.ShaPartsSaid := shaParts.proved
end Go.Proofs.Ytjflfecdeicccaa
end

