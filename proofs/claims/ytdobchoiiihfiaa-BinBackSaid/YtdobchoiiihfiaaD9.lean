/- Rows spoilt: the caller's block is given up; no condition. -/
import Derived.Test.YtdobchoiiihfiaaD8
set_option linter.unusedVariables false
set_option linter.unusedSimpArgs false
set_option maxRecDepth 100000
set_option pp.maxSteps 300
namespace Go.Proofs.Ytdobchoiiihfiaa
open Go Go.Wit

theorem S_Spoil0 (n cap : Nat) (f : Nat → Int) (hn : n ≤ 140737488355328) : ACall Pg F_witankeep_SpoilBytes [.sl 0 0 n cap] [some ⟨1, n, bytesG f⟩] (fun r m' => r = .tup []) := by
  refine B_witankeep_SpoilBytes ⟨rfl, ?_⟩
  conv => whnf
  refine loop_wk mixed (I := fun q l m => ∃ (k : Nat) (g : Nat → Int), l = [(0, .sl 0 0 n cap), (2, .int .i64 k)] ∧ m = [some ⟨1, n, bytesG g⟩] ∧ q + k = n) n
    (l0 := [(0, .sl 0 0 n cap), (2, .int .i64 0)]) (m0 := [some ⟨1, n, bytesG f⟩]) [some 0] ⟨0, f, rfl, rfl, rfl⟩ ?_ ?_
  · exact .mkN ⟨.sl _ _ _ _ _ rfl, Flat.i rfl, trivial⟩ ⟨.old 0 0 _ _ rfl rfl ⟨rfl, Nat.le_refl _, fun i j hi hj => .eq _ _ rfl (.int _ _)⟩, trivial⟩ rfl rfl rfl
  · rintro q l m ⟨k, g, rfl, rfl, hq⟩
    conv => whnf
    refine condB_mk (fun hb => ?_) (fun hb => ?_)
    · have hb : k < n := by simpa using hb
      conv => whnf
      refine condB_ok (by simp; omega) ?_
      conv => whnf
      simp only [Int.toNat_natCast, Nat.zero_add]
      refine condB_ok (by simp [roomG, Nat.ble_eq]; omega) ?_
      conv => whnf
      refine condB_ok (by simp; omega) ?_
      conv => whnf
      simp only [Int.toNat_natCast, Nat.zero_add]
      refine condB_ok (by simp [roomG, Nat.ble_eq]; omega) ?_
      conv => whnf
      rw [w64 (n := (k : Int) + 1) (by omega) (by omega)]
      refine ⟨q - 1, [(0, .sl 0 0 n cap), (2, .int .i64 ((k + 1 : Nat) : Int))], [some ⟨1, n, bytesG (fun i => if i = k then IntKind.u8.wrap (g k + 101) else g i)⟩], [some 0], by omega, ⟨k + 1, _, rfl, rfl, by omega⟩, ?_⟩
      refine .mkN ⟨.sl _ _ _ _ _ rfl, Flat.i (by omega), trivial⟩ ⟨.old 0 0 _ _ rfl rfl ⟨rfl, Nat.le_refl _, fun i j hi hj => ?_⟩, trivial⟩ rfl rfl rfl
      have hj : j < 1 := hj
      obtain rfl : j = 0 := by omega
      have e : updG ⟨1, n, bytesG g⟩ k 0 1 [.int .u8 (IntKind.u8.wrap (g k + 101))] i 0 = bytesG (fun i => if i = k then IntKind.u8.wrap (g k + 101) else g i) i 0 := by
        rw [updG_one]
        by_cases hik : i = k
        · rw [if_pos hik]; simp only [bytesG, if_pos hik]
        · rw [if_neg hik]; simp only [bytesG, if_neg hik]
      refine .eq _ _ e ?_
      show Flat false (updG ⟨1, n, bytesG g⟩ k 0 1 [.int .u8 (IntKind.u8.wrap (g k + 101))] i 0)
      rw [e]; exact .int _ _
    · conv => whnf

theorem S_Spoil {m : Mem} {l n cap : Nat} {f : Nat → Int} {K : AV → Mem → Prop} (hl : m[l]? = some (some ⟨1, n, bytesG f⟩)) (hn : n ≤ 140737488355328) (hK : setMK m l none (K (.tup []))) : ACall Pg F_witankeep_SpoilBytes [.sl l 0 n cap] m K :=
  lift_kill (S_Spoil0 n cap f hn) (.tup _ .nil) hl (by simpa only [setMK_eq] using hK)
end Go.Proofs.Ytdobchoiiihfiaa
