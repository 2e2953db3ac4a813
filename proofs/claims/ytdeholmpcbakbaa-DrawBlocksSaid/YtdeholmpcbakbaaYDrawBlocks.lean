/- Texts of a proof, one behind the other; the last of these: The law DrawBlocks answers true for all that it may be handed: its row; no condition. -/
import Derived.Test.YtdeholmpcbakbaaZ8
import Derived.Test.YtdeholmpcbakbaaRows
import Derived.WalkKit
import Derived.ProofKit
import Derived.OpenShut
import Derived.ShutString
import Derived.ChangeOld
import Derived.Below
import Derived.SizedLaws
section
/- The laws of streams; no condition. -/
set_option linter.unusedVariables false
set_option linter.unusedSimpArgs false
set_option maxRecDepth 100000
set_option pp.maxSteps 3000
namespace Go.Proofs.Ytdeholmpcbakbaa
open Go Go.Wit

/- kept for what follows: B_witanlaw05_DrawBlocks B_witanlaw05_DrawLong -/
theorem S_DrawStreams (k c1 : Nat) (f : Nat → Int) (n m : Int) (hf : ∀ j, j < k → 0 ≤ f j ∧ f j ≤ 255) :
    ACall Pg F_witanlaw05_DrawStreams [.vsl 1 k c1 (bytesG f), .int .i64 n, .int .i64 m] [] (fun v _ => v = .bool true) := by
  refine B_witanlaw05_DrawStreams ⟨rfl, ?_⟩
  conv => whnf
  repeat (refine ⟨⟨[], rfl⟩, ?_⟩; conv => whnf)
  refine condB_mk (fun h => ?_) (fun h => ?_)
  rotate_left
  · conv => whnf
    repeat (refine ⟨⟨[], rfl⟩, ?_⟩; conv => whnf)
  have hk : k ≤ 2000 := by simp at h; omega
  clear h
  conv => whnf
  repeat (refine ⟨⟨[], rfl⟩, ?_⟩; conv => whnf)
  refine condB_mk (fun h => ?_) (fun h => ?_)
  rotate_left
  · conv => whnf
    repeat (refine ⟨⟨[], rfl⟩, ?_⟩; conv => whnf)
  have hm0 : 0 ≤ m := by simp at h; omega
  clear h
  conv => whnf
  repeat (refine ⟨⟨[], rfl⟩, ?_⟩; conv => whnf)
  refine condB_mk (fun h => ?_) (fun h => ?_)
  · conv => whnf
    repeat (refine ⟨⟨[], rfl⟩, ?_⟩; conv => whnf)
  have hm : m ≤ 500 := by simp at h; omega
  clear h
  conv => whnf
  repeat (refine ⟨⟨[], rfl⟩, ?_⟩; conv => whnf)
  refine S_DStream (f := f) Shows.vsl (by omega) hf (fun g1 g2 cap1 => ?_) (fun hn g cap1 => ?_)
  rotate_left
  · conv => whnf
    repeat (refine ⟨⟨[], rfl⟩, ?_⟩; conv => whnf)
    refine condB_mk (fun h => ?_) (fun h => ?_)
    · have h : ¬ n < 0 := by simpa using h
      conv => whnf
      repeat (refine ⟨⟨[], rfl⟩, ?_⟩; conv => whnf)
      refine condB_yes (by simp; omega) ?_
      conv => whnf
      repeat (refine ⟨⟨[], rfl⟩, ?_⟩; conv => whnf)
      refine S_wakes05 ?_
      conv => whnf
      repeat (refine ⟨⟨[], rfl⟩, ?_⟩; conv => whnf)
    · conv => whnf
      repeat (refine ⟨⟨[], rfl⟩, ?_⟩; conv => whnf)
      refine S_wakes05 ?_
      conv => whnf
      repeat (refine ⟨⟨[], rfl⟩, ?_⟩; conv => whnf)
  obtain ⟨N, rfl⟩ : ∃ N : Nat, n = N := ⟨n.toNat, by omega⟩
  obtain ⟨M, rfl⟩ : ∃ M : Nat, m = M := ⟨m.toNat, by omega⟩
  conv => whnf
  repeat (refine ⟨⟨[], rfl⟩, ?_⟩; conv => whnf)
  refine condB_no (by simp; omega) ?_
  conv => whnf
  repeat (refine ⟨⟨[], rfl⟩, ?_⟩; conv => whnf)
  refine condB_yes (by simp) ?_
  conv => whnf
  repeat (refine ⟨⟨[], rfl⟩, ?_⟩; conv => whnf)
  obtain ⟨t, ht, e, l1, l2⟩ : ∃ t : Nat, t = (if M < N then M else N) ∧ (if (M : Int) < N then (M : Int) else N) = t ∧ t ≤ N ∧ t ≤ M := by
    by_cases h : M < N
    · exact ⟨M, by rw [if_pos h], by rw [if_pos (by omega)], by omega, by omega⟩
    · exact ⟨N, by rw [if_neg h], by rw [if_neg (by omega)], by omega, by omega⟩
  refine condB_mk (fun h => ?_) (fun h => ?_)
  · have hN : N ≤ 600 := by simp at h; omega
    conv => whnf
    repeat (refine ⟨⟨[], rfl⟩, ?_⟩; conv => whnf)
    refine S_RStream (f := f) (N := N) Shows.vsl (by omega) (by omega) hf (fun cap2 => ?_)
    conv => whnf
    repeat (refine ⟨⟨[], rfl⟩, ?_⟩; conv => whnf)
    refine S_Bytes (n1 := N) (n2 := N) (f := stF k f) (g := stF k f) (Shows.sl rfl (Nat.le_of_eq (Nat.zero_add _)) fun i hi => by rw [Nat.zero_add]) (Shows.sl rfl (Nat.le_of_eq (Nat.zero_add _)) fun i hi => by rw [Nat.zero_add]) (by omega) ?_
    rw [sameB_refl]
    conv => whnf
    repeat (refine ⟨⟨[], rfl⟩, ?_⟩; conv => whnf)
    refine S_DStream (f := f) Shows.vsl (by omega) hf (fun _ _ cap3 => ?_) (fun h => absurd h (by omega))
    conv => whnf
    repeat (refine ⟨⟨[], rfl⟩, ?_⟩; conv => whnf)
    refine condB_ok (by rw [e]; simp; omega) ?_
    conv => whnf
    repeat (refine ⟨⟨[], rfl⟩, ?_⟩; conv => whnf)
    refine condB_ok (by rw [e]; simp; omega) ?_
    conv => whnf
    repeat (refine ⟨⟨[], rfl⟩, ?_⟩; conv => whnf)
    refine S_Bytes (n1 := (if (M : Int) < N then (M : Int) else N).toNat - 0) (n2 := (if (M : Int) < N then (M : Int) else N).toNat - 0) (f := stF k f) (g := stF k f) (Shows.sl rfl (by rw [e]; show 0 + 0 + (t - 0) ≤ N; omega) fun i hi => by simp) (Shows.sl rfl (by rw [e]; show 0 + 0 + (t - 0) ≤ M; omega) fun i hi => by simp) (by rw [e]; show t - 0 ≤ _; omega) ?_
    rw [sameB_refl]
    conv => whnf
    repeat (refine ⟨⟨[], rfl⟩, ?_⟩; conv => whnf)
    refine S_wakes05 ?_
    conv => whnf
    repeat (refine ⟨⟨[], rfl⟩, ?_⟩; conv => whnf)
  · conv => whnf
    repeat (refine ⟨⟨[], rfl⟩, ?_⟩; conv => whnf)
    refine S_DStream (f := f) Shows.vsl (by omega) hf (fun _ _ cap3 => ?_) (fun h => absurd h (by omega))
    conv => whnf
    repeat (refine ⟨⟨[], rfl⟩, ?_⟩; conv => whnf)
    refine condB_ok (by rw [e]; simp; omega) ?_
    conv => whnf
    repeat (refine ⟨⟨[], rfl⟩, ?_⟩; conv => whnf)
    refine condB_ok (by rw [e]; simp; omega) ?_
    conv => whnf
    repeat (refine ⟨⟨[], rfl⟩, ?_⟩; conv => whnf)
    refine S_Bytes (n1 := (if (M : Int) < N then (M : Int) else N).toNat - 0) (n2 := (if (M : Int) < N then (M : Int) else N).toNat - 0) (f := stF k f) (g := stF k f) (Shows.sl rfl (by rw [e]; show 0 + 0 + (t - 0) ≤ N; omega) fun i hi => by simp) (Shows.sl rfl (by rw [e]; show 0 + 0 + (t - 0) ≤ M; omega) fun i hi => by simp) (by rw [e]; show t - 0 ≤ _; omega) ?_
    rw [sameB_refl]
    conv => whnf
    repeat (refine ⟨⟨[], rfl⟩, ?_⟩; conv => whnf)
    refine S_wakes05 ?_
    conv => whnf
    repeat (refine ⟨⟨[], rfl⟩, ?_⟩; conv => whnf)
theorem S_row_DrawStreams (avs : List AV) (h : okVs [.sl 1 (.int .u8), .int .i64, .int .i64] avs) : ∃ avs', Retold avs avs' ∧ ACall Pg F_witanlaw05_DrawStreams avs' [] (fun x _ => x = .bool true) := by
  obtain ⟨p, _, rfl, h1, q, _, rfl, h2, r, _, rfl, h3, rfl⟩ := h
  obtain ⟨n, c1, f, r1, _, _, hF⟩ := ok_bytes h1
  obtain ⟨x, rfl, _, _⟩ := ok_int h2
  obtain ⟨y, rfl, _, _⟩ := ok_int h3
  exact ⟨_, .cons r1 (.cons (Retold1.refl _) (.cons (Retold1.refl _) .nil)), S_DrawStreams n c1 f x y hF⟩

theorem st_at {k c i : Nat} {f : Nat → Int} (hi : i < 32) : stF k f (32 * c + i) = macB k f 8 (beF (c : Nat) 8) i := by
  unfold stF
  rw [show (32 * c + i) / 32 = c by omega, show (32 * c + i) % 32 = i by omega]
theorem be8 {d : Nat} (hd : d < 65536) {i : Nat} (hi : i < 6) : (0 : Int) = beF d 8 i := by
  have : i = 0 ∨ i = 1 ∨ i = 2 ∨ i = 3 ∨ i = 4 ∨ i = 5 := by omega
  unfold beF
  rcases this with rfl | rfl | rfl | rfl | rfl | rfl
  · show (0 : Int) = (d : Int) / 72057594037927936 % 256; omega
  · show (0 : Int) = (d : Int) / 281474976710656 % 256; omega
  · show (0 : Int) = (d : Int) / 1099511627776 % 256; omega
  · show (0 : Int) = (d : Int) / 4294967296 % 256; omega
  · show (0 : Int) = (d : Int) / 16777216 % 256; omega
  · show (0 : Int) = (d : Int) / 65536 % 256; omega
theorem det3_sl {fl : Bool} {l o n c : Nat} (h : 0 < c + n) (hf : fl = false := by rfl) : det3 fl (.sl l o n c) = true := by
  subst hf
  show (!false && Nat.blt 0 (c + n)) = true
  rw [show Nat.blt 0 (c + n) = true by rw [Nat.blt_eq]; exact h]
  rfl
theorem be87 {n : Nat} : IntKind.u8.wrap (n : Int) = beF n 8 7 := by
  rw [IntKind.wrap_u8]; unfold beF; simp
theorem be86 {n : Nat} : IntKind.u8.wrap ((n : Int).fdiv (2 ^ 8)) = beF n 8 6 := wu8 (k := 0) (s := 8) (i := 6) (e := 8) _ (by omega) rfl
theorem S_DrawBlocks (k c1 : Nat) (f : Nat → Int) (n0 : Int) (hf : ∀ j, j < k → 0 ≤ f j ∧ f j ≤ 255) :
    ACall Pg F_witanlaw05_DrawBlocks [.vsl 1 k c1 (bytesG f), .int .i64 n0] [] (fun v _ => v = .bool true) := by
  refine B_witanlaw05_DrawBlocks ⟨rfl, ?_⟩
  obtain ⟨N, hN, eN⟩ : ∃ N : Nat, N < 300 ∧ IntKind.i64.wrap ((IntKind.u64.wrap n0).tmod 300) = N := by
    obtain ⟨u, hu⟩ : ∃ u : Nat, IntKind.u64.wrap n0 = u := ⟨(IntKind.u64.wrap n0).toNat, by rw [wu64]; omega⟩
    refine ⟨u % 300, Nat.mod_lt _ (by decide), ?_⟩
    rw [hu, show (300 : Int) = ((300 : Nat) : Int) from rfl, tmod_nn, w64 (by omega) (by omega)]
  conv => whnf
  repeat (refine ⟨⟨[], rfl⟩, ?_⟩; conv => whnf)
  refine condB_mk (fun h => ?_) (fun h => ?_)
  · conv => whnf
    repeat (refine ⟨⟨[], rfl⟩, ?_⟩; conv => whnf)
  have hk : k ≤ 2000 := by simp at h; omega
  clear h
  conv => whnf
  repeat (refine ⟨⟨[], rfl⟩, ?_⟩; conv => whnf)
  rw [eN]
  refine S_DStream (f := f) (n := N) Shows.vsl (by omega) hf (fun _ _ cap1 => ?_) (fun h => absurd h (by omega))
  conv => whnf
  repeat (refine ⟨⟨[], rfl⟩, ?_⟩; conv => whnf)
  refine condB_no (by simp) ?_
  conv => whnf
  repeat (refine ⟨⟨[], rfl⟩, ?_⟩; conv => whnf)
  refine loop_wk mixed (I := fun q l m => ∃ (c : Nat), l = [(0, .vsl 1 k c1 (bytesG f)), (1, .int .i64 N), (5, .sl 0 0 N cap1), (7, .int .i64 ((32 * c : Nat) : Int))] ∧ m = [some ⟨1, N, bytesG (stF k f)⟩] ∧ q + c = (N + 31) / 32) ((N + 31) / 32)
    (l0 := [(0, .vsl 1 k c1 (bytesG f)), (1, .int .i64 N), (5, .sl 0 0 N cap1), (7, .int .i64 ((32 * 0 : Nat) : Int))]) (m0 := [some ⟨1, N, bytesG (stF k f)⟩]) [some 0] ⟨0, rfl, rfl, by omega⟩ ?_ ?_
  · exact .mk0 ⟨.eq _ _ rfl flat_bytesV, Flat.i rfl, .sl _ _ _ _ _ rfl, Flat.i rfl, trivial⟩ ⟨.old 0 0 _ _ rfl rfl ⟨rfl, Nat.le_refl _, fun i j hi hj => RV.of rfl (.int _ _)⟩, trivial⟩ rfl rfl
  · rintro q l m ⟨c, rfl, rfl, hq⟩
    conv => whnf
    repeat (refine ⟨⟨[], rfl⟩, ?_⟩; conv => whnf)
    refine condB_mk (fun hb => ?_) (fun hb => ?_)
    · have hb : 32 * c < N := by simp at hb; omega
      have ec : IntKind.i64.wrap (((32 * c : Nat) : Int).tdiv 32) = (c : Int) := by
        rw [show (32 : Int) = ((32 : Nat) : Int) from rfl, tdiv_nn, w64 (by omega) (by omega)]; omega
      conv => whnf
      repeat (refine ⟨⟨[], rfl⟩, ?_⟩; conv => whnf)
      rw [ec]
      refine S_Mac (n := k) (k := 8) (f := f) (g := beF c 8) Shows.vsl (Shows.any rfl (Nat.le_refl 8) fun i hi => ?_) (by omega) (by decide) hf (fun _ _ => beF_lt) (fun s hs hsb => ?_)
      · have : i = 0 ∨ i = 1 ∨ i = 2 ∨ i = 3 ∨ i = 4 ∨ i = 5 ∨ i = 6 ∨ i = 7 := by omega
        rcases this with rfl | rfl | rfl | rfl | rfl | rfl | rfl | rfl
        · exact congrArg (AV.int .u8) (be8 (by omega) (by decide))
        · exact congrArg (AV.int .u8) (be8 (by omega) (by decide))
        · exact congrArg (AV.int .u8) (be8 (by omega) (by decide))
        · exact congrArg (AV.int .u8) (be8 (by omega) (by decide))
        · exact congrArg (AV.int .u8) (be8 (by omega) (by decide))
        · exact congrArg (AV.int .u8) (be8 (by omega) (by decide))
        · exact congrArg (AV.int .u8) (be86 (n := c))
        · exact congrArg (AV.int .u8) (be87 (n := c))
      rw [rowL]
      obtain ⟨T, eT, t1, t2, t3, eU⟩ : ∃ T : Nat, (if (N : Int) < IntKind.i64.wrap (((32 * c : Nat) : Int) + 32) then (N : Int) else IntKind.i64.wrap (((32 * c : Nat) : Int) + 32)) = T ∧ 32 * c < T ∧ T ≤ N ∧ T ≤ 32 * c + 32 ∧
          (if IntKind.i64.wrap ((N : Int) - ((32 * c : Nat) : Int)) < 32 then IntKind.i64.wrap ((N : Int) - ((32 * c : Nat) : Int)) else 32) = ((T - 32 * c : Nat) : Int) := by
        rw [w64 (n := ((32 * c : Nat) : Int) + 32) (by omega) (by omega), w64 (n := (N : Int) - ((32 * c : Nat) : Int)) (by omega) (by omega)]
        by_cases h : N < 32 * c + 32
        · exact ⟨N, by rw [if_pos (by omega)], hb, Nat.le_refl _, by omega, by rw [if_pos (by omega)]; omega⟩
        · exact ⟨32 * c + 32, by rw [if_neg (by omega)]; omega, by omega, by omega, Nat.le_refl _, by rw [if_neg (by omega)]; omega⟩
      conv => whnf
      repeat (refine ⟨⟨[], rfl⟩, ?_⟩; conv => whnf)
      rw [eT]
      refine condB_ok (by simp; omega) ?_
      conv => whnf
      repeat (refine ⟨⟨[], rfl⟩, ?_⟩; conv => whnf)
      rw [det3_sl (by omega)]
      conv => whnf
      repeat (refine ⟨⟨[], rfl⟩, ?_⟩; conv => whnf)
      rw [eU]
      refine condB_ok (by simp; omega) ?_
      conv => whnf
      repeat (refine ⟨⟨[], rfl⟩, ?_⟩; conv => whnf)
      refine S_Bytes (n1 := T - 32 * c) (n2 := T - 32 * c) (f := fun i => stF k f (32 * c + i)) (g := s) (Shows.sl rfl (by show 0 + 32 * c + (T - 32 * c) ≤ N; omega) fun i hi => by rw [Nat.zero_add]; rfl) (Shows.any rfl (by show 0 + 0 + (T - 32 * c) ≤ 32; omega) fun i hi => ?_) (by omega) ?_
      · refine rowAtE (by omega) ?_ rfl
        omega
      rw [sameB_eq.2 ⟨rfl, fun i hi => by rw [st_at (by omega), hs]⟩]
      conv => whnf
      repeat (refine ⟨⟨[], rfl⟩, ?_⟩; conv => whnf)
      have e5 : IntKind.i64.wrap (((32 * c : Nat) : Int) + 32) = ((32 * (c + 1) : Nat) : Int) := by rw [w64 (by omega) (by omega)]; omega
      refine ⟨q - 1, [(0, .vsl 1 k c1 (bytesG f)), (1, .int .i64 N), (5, .sl 0 0 N cap1), (7, .int .i64 ((32 * (c + 1) : Nat) : Int))], [some ⟨1, N, bytesG (stF k f)⟩], [some 0], by omega, ⟨c + 1, rfl, rfl, by omega⟩, ?_⟩
      exact .mk0 ⟨.eq _ _ rfl flat_bytesV, Flat.i rfl, .sl _ _ _ _ _ rfl, Flat.i e5, trivial⟩ ⟨.old 0 0 _ _ rfl rfl ⟨rfl, Nat.le_refl _, fun i j hi hj => RV.of rfl (.int _ _)⟩, trivial⟩ rfl rfl
    · conv => whnf
      repeat (refine ⟨⟨[], rfl⟩, ?_⟩; conv => whnf)
      refine S_wakes05 ?_
      conv => whnf
      repeat (refine ⟨⟨[], rfl⟩, ?_⟩; conv => whnf)
theorem S_row_DrawBlocks (avs : List AV) (h : okVs [.sl 1 (.int .u8), .int .i64] avs) : ∃ avs', Retold avs avs' ∧ ACall Pg F_witanlaw05_DrawBlocks avs' [] (fun x _ => x = .bool true) := by
  obtain ⟨p, _, rfl, h1, q, _, rfl, h2, rfl⟩ := h
  obtain ⟨n, c1, f, r1, _, _, hF⟩ := ok_bytes h1
  obtain ⟨x, rfl, _, _⟩ := ok_int h2
  exact ⟨_, .cons r1 (.cons (Retold1.refl _) .nil), S_DrawBlocks n c1 f x hF⟩
end Go.Proofs.Ytdeholmpcbakbaa
end

section
/- The law DrawBlocks answers true for all that it may be handed: its row; no condition. -/
namespace Go.Proofs.Ytdeholmpcbakbaa.drawBlocks
open Go.ChangeShapes Go.WideShapes Go.ChangeAt Go.RowKit Go.Wit
set_option linter.unusedVariables false
theorem own : ownKnob Try.prog.godebug = none := by kernel_rfl
theorem laid : laidOutB Try.prog = true := by kernel_rfl
set_option maxRecDepth 100000 in
theorem lifted (os : Os) (started : os.Started) (H : Type) (enc : TypeId × Value → H) :
    ReturnsInHanded {} Try.checked os 9 .any (Rows.drawBlocksSpec.pre6 enc Try.prog Try.f9 Rows.drawBlocksRow.domain false) (Rows.drawBlocksSpec.post enc Try.prog Try.f9 false true false false) := by
  refine returnsInHanded_of_change_sized (C := Try.checked) own started (by kernel_rfl) Try.func9
    (ChangeSpec.witness6 (enc := enc) (C := Try.checked) false ⟨#[], #[.slice none 0 0, .int .i64 0], []⟩ 12 (by kernel_rfl) (by kernel_rfl) (by kernel_rfl) (by kernel_rfl)) ?_
  intro W base args ds gs before hval0 hW hcnd hsz0 _
  have hval : ∀ (j : Nat) t v, Try.f9.params[j]? = some t → args[j]? = some v → Value.okWide Try.prog W .any base t v := hval0
  have hW' := hW
  obtain ⟨p, q, hA0, hV, rfl, hfz, hnd⟩ := hW
  have hA : DataW.TrodAll enc Try.prog W 0 (fun _ => true) true Try.f9.params.toList args.toList ds p := hA0
  obtain ⟨rfl, rfl⟩ := trodVars_none hV
  have l0 : ds.length = 2 := trod_len hA
  obtain ⟨d1, ds1, rfl, l1⟩ := cons_of_len l0
  obtain ⟨d2, ds2, rfl, l2⟩ := cons_of_len l1
  obtain rfl := nil_of_len l2
  refine (law_open (tys := [.sl 1 (.int .u8), .int .i64]) (by kernel_rfl) (fun j t v h1 h2 => hval j t v (by simpa using h1) (by simpa using h2)) hA S_row_DrawBlocks).mono fun e W' ⟨he, bel⟩ => ?_
  subst he
  exact ⟨_, rfl, _, _, _, [], _, [], hW', trodAll_mk1 (shut_bool Try.underlying4 _), shut_vals laid bel (by kernel_rfl) hA, rfl, bel.frame _, fun h => by cases h⟩
theorem over : Rows.drawBlocksRow.holds Try.pinned (OpenSpec.ofChange Rows.drawBlocksSpec) :=
  OpenClaim.holds_of_wide 9 Try.f9 rfl rfl rfl rfl rfl rfl rfl ⟨rfl, rfl, rfl, rfl, rfl⟩ rfl rfl rfl rfl rfl (by kernel_rfl) Try.func9 (by kernel_rfl)
    (of_decide_eq_true (by kernel_rfl)) (by unfold Func.isWrapper; first | (rw [if_pos (by decide +kernel)]; kernel_rfl) | (rw [if_neg (by decide +kernel)]; exact ⟨rfl, rfl⟩))
    (fun os started H enc _ => lifted os started H enc)
theorem proved : Rows.DrawBlocksSaid := over
#print axioms proved
end Go.Proofs.Ytdeholmpcbakbaa.drawBlocks
namespace Go.Proofs.Ytdeholmpcbakbaa
/-- The row, under a short name, for the claim. -/
theorem drawBlocks_holds : Rows.DrawBlocksSaid := drawBlocks.proved
end Go.Proofs.Ytdeholmpcbakbaa
end

