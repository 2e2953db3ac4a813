/- The sum of bytes: what the program makes; no condition. -/
import Derived.Test.YtdobchoiiihfiaaD13
set_option linter.unusedVariables false
set_option linter.unusedSimpArgs false
set_option maxRecDepth 100000
set_option pp.maxSteps 300
namespace Go.Proofs.Ytdobchoiiihfiaa
open Go Go.Wit

def kList : List Int := [1116352408, 1899447441, 3049323471, 3921009573, 961987163, 1508970993, 2453635748, 2870763221, 3624381080, 310598401, 607225278, 1426881987, 1925078388, 2162078206, 2614888103, 3248222580, 3835390401, 4022224774, 264347078, 604807628, 770255983, 1249150122, 1555081692, 1996064986, 2554220882, 2821834349, 2952996808, 3210313671, 3336571891, 3584528711, 113926993, 338241895, 666307205, 773529912, 1294757372, 1396182291, 1695183700, 1986661051, 2177026350, 2456956037, 2730485921, 2820302411, 3259730800, 3345764771, 3516065817, 3600352804, 4094571909, 275423344, 430227734, 506948616, 659060556, 883997877, 958139571, 1322822218, 1537002063, 1747873779, 1955562222, 2024104815, 2227730452, 2361852424, 2428436474, 2756734187, 3204031479, 3329325298]
def kTab (i : Nat) : Int := kList.getD i 0
def hList : List Int := [1779033703, 3144134277, 1013904242, 2773480762, 1359893119, 2600822924, 528734635, 1541459225]
def hTab (i : Nat) : Int := hList.getD i 0
def u32G (f : Nat → Int) : Nat → Nat → AV := fun i _ => .int .u32 (f i)

def addU (a b : Int) : Int := IntKind.u32.wrap (a + b)
def xorU (a b : Int) : Int := bitsV .xor .u32 a b
def andU (a b : Int) : Int := bitsV .and .u32 a b
def shrU (a : Int) (k : Int) : Int := a.fdiv (2 ^ (min k.toNat IntKind.u32.bits))
def notU (a : Int) : Int := bitsV .xor .u32 (IntKind.max .u32) a
def sigA (x : Int) : Int := xorU (xorU (rotI x (-7)) (rotI x (-18))) (shrU x 3)
def sigB (x : Int) : Int := xorU (xorU (rotI x (-17)) (rotI x (-19))) (shrU x 10)
def sigE (x : Int) : Int := xorU (xorU (rotI x (-6)) (rotI x (-11))) (rotI x (-25))
def sigF (x : Int) : Int := xorU (xorU (rotI x (-2)) (rotI x (-13))) (rotI x (-22))
def newW (b : Nat → Int) (k : Nat) (w : Nat → Int) : Int := if k < 16 then getV b (4 * k) 4 else addU (addU (addU (w (k - 16)) (sigA (w (k - 15)))) (w (k - 7))) (sigB (w (k - 2)))
def Wn (b : Nat → Int) : Nat → Nat → Int
  | 0 => fun _ => 0
  | k + 1 => fun i => if i = k then newW b k (Wn b k) else Wn b k i
def oneU (v : Nat → Int) (kk wk : Int) : Int := addU (addU (addU (addU (v 7) (sigE (v 4))) (xorU (andU (v 4) (v 5)) (andU (notU (v 4)) (v 6)))) kk) wk
def twoU (v : Nat → Int) : Int := addU (sigF (v 0)) (xorU (xorU (andU (v 0) (v 1)) (andU (v 0) (v 2))) (andU (v 1) (v 2)))
def rnd (v : Nat → Int) (kk wk : Int) : Nat → Int
  | 0 => addU (oneU v kk wk) (twoU v)
  | 1 => v 0
  | 2 => v 1
  | 3 => v 2
  | 4 => addU (v 3) (oneU v kk wk)
  | 5 => v 4
  | 6 => v 5
  | 7 => v 6
  | _ => 0
def Rn (h w : Nat → Int) : Nat → Nat → Int
  | 0 => h
  | k + 1 => rnd (Rn h w k) (kTab k) (w k)
def blkB (b : Nat → Int) (q : Nat) (i : Nat) : Int := b (64 * q + i)
def nextH (h w : Nat → Int) (i : Nat) : Int := addU (h i) (Rn h w 64 i)
def Hn (b : Nat → Int) : Nat → Nat → Int
  | 0 => hTab
  | q + 1 => nextH (Hn b q) (Wn (blkB b q) 64)
def sumB (n : Nat) (f : Nat → Int) (i : Nat) : Int := IntKind.u8.wrap ((Hn (padF n f) (padN n / 64) (i / 4)).fdiv (2 ^ (24 - 8 * (i % 4))))
def sumL (n : Nat) (f : Nat → Int) : List AV := (List.range 32).map fun i => .int .u8 (sumB n f i)

/-- A row that a call has made lies in the caller's next block. -/
theorem lift_row {P : Program} {fn : FuncId} {args args0 : List AV} {m : Mem} {K : AV → Mem → Prop} {es n : Nat} {G : Nat → Nat → AV} (h : ACall P fn args0 [] (fun v m' => ∃ l cap N g, v = .sl l 0 n cap ∧ m'[l]? = some (some ⟨es, N, g⟩) ∧ n ≤ N ∧ ∀ i j, i < n → j < es → g i j = G i j ∧ Flat true (G i j)))
    (ha : Lends (fun _ => none) (List.range m.length) m args args0) (hK : ∀ cap, memK (m ++ [some ⟨es, n, G⟩]) (K (.sl m.length 0 n cap))) : ACall P fn args m K := by
  simp only [memK_eq] at hK
  refine h.frame0 true (List.range m.length) (fun h => by cases h) ha (fun v m' hv => ?_)
  obtain ⟨l, cap, N, g, rfl, h1, h2, h3⟩ := hv
  refine ⟨.sl m.length 0 n cap, [some ⟨es, n, G⟩], [some l], Nat.le_refl _, fun i j q hi hj => ?_, .sl _ _ _ _ _ (by simp [shiftT]), ⟨.old _ l _ _ (by simp [shiftT]) h1 ⟨rfl, h2, fun i j hi hj => ?_⟩, trivial⟩, hK cap⟩
  · cases i <;> cases j <;> simp at hi hj; rfl
  · obtain ⟨g1, g2⟩ := h3 i j hi hj
    exact .eq _ _ g1 (show Flat true (g i j) from g1 ▸ g2)

theorem flats_ints {nv : Bool} {k : IntKind} : ∀ (l : List Int), Flats nv (l.map (AV.int k))
  | [] => .nil
  | x :: r => .cons _ _ (.int _ _) (flats_ints r)

theorem S_rounds {m : Mem} {K : AV → Mem → Prop} (hK : ∀ cap, memK (m ++ [some ⟨1, 64, u32G kTab⟩]) (K (.sl m.length 0 64 cap))) : ACall Pg F_sha_rounds [] m K := by
  refine lift_row (n := 64) (es := 1) (G := u32G kTab) (?_ : ACall Pg F_sha_rounds [] [] _) .nil hK
  refine B_sha_rounds ⟨rfl, ?_⟩
  conv => whnf
  refine ⟨0, 64, 64, _, rfl, rfl, Nat.le_refl _, fun i j hi hj => ⟨?_, .int _ _⟩⟩
  obtain rfl : j = 0 := by omega
  have : ∀ i : Fin 64, (List.getD (kList.map (AV.int .u32)) (i.val * 1 + 0) .un) = u32G kTab i.val 0 := by
    intro i
    simp only [u32G, kTab, Nat.mul_one, Nat.add_zero, List.getD_eq_getElem?_getD, List.getElem?_map]
    rw [List.getElem?_eq_getElem (by have := i.isLt; simp [kList])]
    rfl
  exact this ⟨i, hi⟩

theorem S_k256 {m : Mem} {K : AV → Mem → Prop} (hK : K (.agg (kList.map (AV.int .u32))) m) : ACall Pg F_witanref04_k256 [] m K := by
  refine lift_flat (R := fun v => v = .agg (kList.map (AV.int .u32))) (?_ : ACall Pg F_witanref04_k256 [] [] _) .nil (fun v hv => by subst hv; exact hK)
  refine B_witanref04_k256 ⟨rfl, ?_⟩
  conv => whnf
  exact ⟨rfl, .agg _ (flats_ints kList)⟩

theorem wu32 (n : Int) : IntKind.u32.wrap n = n % 4294967296 := by simp [IntKind.wrap, IntKind.bits, IntKind.signed]

theorem updW {nv : Bool} {σ : Nat → Option Nat} {b : Nat → Int} {k i j n : Nat} {A : AV} (hj : j < 1) (hA : A = updG ⟨1, n, u32G (Wn b k)⟩ k 0 1 [.int .u32 (Wn b (k + 1) k)] i j) : RV nv σ A (u32G (Wn b (k + 1)) i j) := by
  subst hA
  obtain rfl : j = 0 := by omega
  have : updG ⟨1, n, u32G (Wn b k)⟩ k 0 1 [.int .u32 (Wn b (k + 1) k)] i 0 = u32G (Wn b (k + 1)) i 0 := by
    rw [updG_one]
    by_cases h : i = k
    · rw [if_pos h, h]; rfl
    · rw [if_neg h]
      show u32G (Wn b k) i 0 = u32G (Wn b (k + 1)) i 0
      simp only [u32G]
      rw [show Wn b (k + 1) i = Wn b k i from if_neg h]
  rw [this]; exact .eq _ _ rfl (.int _ _)

theorem eight {nv : Bool} {σ : Nat → Option Nat} {G : Nat → Nat → AV} {r : Nat → Int} {i j : Nat} (hi : i < 8) (hj : j < 1) (h0 : G 0 0 = .int .u32 (r 0)) (h1 : G 1 0 = .int .u32 (r 1)) (h2 : G 2 0 = .int .u32 (r 2)) (h3 : G 3 0 = .int .u32 (r 3))
    (h4 : G 4 0 = .int .u32 (r 4)) (h5 : G 5 0 = .int .u32 (r 5)) (h6 : G 6 0 = .int .u32 (r 6)) (h7 : G 7 0 = .int .u32 (r 7)) : RV nv σ (G i j) (u32G r i j) := by
  obtain rfl : j = 0 := by omega
  have : G i 0 = .int .u32 (r i) := by
    have : i = 0 ∨ i = 1 ∨ i = 2 ∨ i = 3 ∨ i = 4 ∨ i = 5 ∨ i = 6 ∨ i = 7 := by omega
    rcases this with rfl | rfl | rfl | rfl | rfl | rfl | rfl | rfl <;> assumption
  exact .eq _ _ this (this ▸ .int _ _)

theorem cellG_one {N a t : Nat} {G : Nat → Nat → AV} : cellG ⟨1, N, G⟩ a 0 t = G (a + t) 0 := by
  unfold cellG
  cases h : Nat.blt (0 + t) 1 with
  | true =>
    have : t = 0 := by rw [Nat.blt_eq] at h; omega
    subst this; rfl
  | false => simp [Nat.mod_one]

theorem updG_all {n sz i : Nat} {g : Nat → Nat → AV} {vs : List AV} (h1 : 1 < sz) (hi : i < sz) : updG ⟨1, n, g⟩ 0 0 sz vs i 0 = vs.getD i .un := by
  unfold updG
  have : Nat.ble (0 + sz) 1 = false := by
    cases h : Nat.ble (0 + sz) 1 with
    | false => rfl
    | true => have := Nat.le_of_ble_eq_true h; omega
  simp only [this, cond_false, pickA_eq]
  have h2 : Nat.blt (i * 1 + 0) (0 * 1 + 0 + sz) = true := by rw [Nat.blt_eq]; omega
  have h3 : Nat.ble (0 * 1 + 0) (i * 1 + 0) = true := by rw [Nat.ble_eq]; omega
  simp only [h2, h3, Bool.and_self, cond_true]
  simp

theorem row_get1 {N k i : Nat} {G : Nat → Nat → AV} (hi : i < k) : (List.map (cellG ⟨1, N, G⟩ 0 0) (List.range k)).getD i .un = G i 0 := by
  rw [List.getD_eq_getElem?_getD, List.getElem?_map, List.getElem?_range hi]
  simp [cellG_one]

theorem updH {nv : Bool} {σ : Nat → Option Nat} {h r : Nat → Int} {k i j : Nat} {A : AV} (hj : j < 1) (hA : A = updG ⟨1, 8, u32G (fun i => if i < k then addU (h i) (r i) else h i)⟩ k 0 1 [.int .u32 (IntKind.u32.wrap ((if k < k then addU (h k) (r k) else h k) + r k))] i j) :
    RV nv σ A (u32G (fun i => if i < k + 1 then addU (h i) (r i) else h i) i j) := by
  subst hA
  obtain rfl : j = 0 := by omega
  have : updG ⟨1, 8, u32G (fun i => if i < k then addU (h i) (r i) else h i)⟩ k 0 1 [.int .u32 (IntKind.u32.wrap ((if k < k then addU (h k) (r k) else h k) + r k))] i 0 = u32G (fun i => if i < k + 1 then addU (h i) (r i) else h i) i 0 := by
    rw [updG_one]
    by_cases he : i = k
    · subst he
      rw [if_pos rfl]
      simp only [u32G, Nat.lt_irrefl, if_false, Nat.lt_succ_self, if_true]
      rfl
    · rw [if_neg he]
      simp only [u32G]
      by_cases hl : i < k
      · rw [if_pos hl, if_pos (by omega)]
      · rw [if_neg hl, if_neg (by omega)]
  rw [this]; exact .eq _ _ rfl (.int _ _)

theorem eightC {nv : Bool} {σ : Nat → Option Nat} {A : AV} {g : Nat → Nat → AV} {r : Nat → Int} {i j : Nat} (hi : i < 8) (hj : j < 1) (hA : A = updG ⟨1, 8, g⟩ 0 0 8 (List.map (cellG ⟨1, 8, u32G r⟩ 0 0) (List.range 8)) i j) : RV nv σ A (u32G r i j) := by
  obtain rfl : j = 0 := by omega
  have : A = u32G r i 0 := by rw [hA, updG_all (by omega) hi, row_get1 hi]
  rw [this]; exact .eq _ _ rfl (.int _ _)

theorem updO {nv : Bool} {σ : Nat → Option Nat} {s : Nat → Int} {k i j e d : Nat} {x : Int} {A : AV} (hj : j < 1) (hS : s k = IntKind.u8.wrap (x.fdiv (2 ^ d))) (he : e = d) (hA : A = updG ⟨1, 32, bytesG (fun i => if i < k then s i else 0)⟩ k 0 1 [.int .u8 (IntKind.u8.wrap (x.fdiv (2 ^ e)))] i j) :
    RV nv σ A (bytesG (fun i => if i < k + 1 then s i else 0) i j) := by
  subst hA he
  obtain rfl : j = 0 := by omega
  have : updG ⟨1, 32, bytesG (fun i => if i < k then s i else 0)⟩ k 0 1 [.int .u8 (IntKind.u8.wrap (x.fdiv (2 ^ e)))] i 0 = bytesG (fun i => if i < k + 1 then s i else 0) i 0 := by
    rw [updG_one, ← hS]
    by_cases he : i = k
    · subst he
      rw [if_pos rfl]
      simp only [bytesG, Nat.lt_succ_self, if_true]
    · rw [if_neg he]
      simp only [bytesG]
      by_cases hl : i < k
      · rw [if_pos hl, if_pos (by omega)]
      · rw [if_neg hl, if_neg (by omega)]
  rw [this]; exact .eq _ _ rfl (.int _ _)

theorem outRow {s : Nat → Int} {g : Nat → Nat → AV} {l : List AV} (hl : l = List.map (cellG ⟨1, 32, updG ⟨1, 32, g⟩ 0 0 32 (List.map (cellG ⟨1, 32, bytesG (fun i => if i < 32 then s i else 0)⟩ 0 0) (List.range 32))⟩ 0 0) (List.range 32)) : l = (List.range 32).map fun i => .int .u8 (s i) := by
  subst hl
  refine List.map_congr_left fun i hi => ?_
  have hi : i < 32 := List.mem_range.mp hi
  rw [cellG_one, Nat.zero_add, updG_all (by omega) hi, row_get1 hi]
  simp only [bytesG]
  rw [if_pos hi]

theorem outSum {n : Nat} {f : Nat → Int} {g : Nat → Nat → AV} {l : List AV} (hl : l = List.map (cellG ⟨1, 32, updG ⟨1, 32, g⟩ 0 0 32 (List.map (cellG ⟨1, 32, bytesG (fun i => if i < 32 then sumB n f i else 0)⟩ 0 0) (List.range 32))⟩ 0 0) (List.range 32)) : AV.agg l = .agg (sumL n f) ∧ Flat true (.agg l) := by
  have e : l = sumL n f := outRow hl
  subst e
  refine ⟨rfl, .agg _ ?_⟩
  have := flats_ints (nv := true) (k := .u8) ((List.range 32).map (sumB n f))
  rw [List.map_map] at this
  exact this

theorem oneU0 {nv : Bool} {σ : Nat → Option Nat} {j : Nat} {A : AV} (hj : j < 1) (hA : A = [AV.int IntKind.u8 0].getD j AV.un) : RV nv σ A (AV.int IntKind.u8 0) := by
  subst hA
  obtain rfl : j = 0 := by omega
  exact .eq _ _ rfl (.int _ _)

set_option maxHeartbeats 4000000 in
theorem S_Sum0 (n cap : Nat) (f : Nat → Int) (hn : n ≤ 1000000) (hf : ∀ i, i < n → 0 ≤ f i ∧ f i ≤ 255) : ACall Pg F_sha_Sum [.vsl 1 n cap (bytesG f)] [] (fun v _ => v = .agg (sumL n f) ∧ Flat true v) := by
  obtain ⟨p1, p2, p3⟩ := padN_ge n
  refine B_sha_Sum ⟨rfl, ?_⟩
  conv => whnf
  refine S_rounds (fun capk => ?_)
  conv => whnf
  refine S_padded (f := f) Shows.vsl hn (fun capp => ?_)
  conv => whnf
  have hb := padF_lt hf
  generalize hB : padF n f = b at *
  refine loop_wk mixed (I := fun q l m => ∃ (j off cp : Nat), l = [(2, .ptr 0 0 0), (3, .ptr 1 0 0), (4, .sl 2 0 64 capk), (5, .sl 3 off (64 * q) cp)] ∧ m = [some ⟨1, 32, fun _ _ => .int .u8 0⟩, some ⟨1, 8, u32G (Hn b j)⟩, some ⟨1, 64, u32G kTab⟩, some ⟨1, padN n, bytesG b⟩] ∧ q + j = padN n / 64 ∧ off = 64 * j) (padN n / 64)
    (l0 := [(2, .ptr 0 0 0), (3, .ptr 1 0 0), (4, .sl 2 0 64 capk), (5, .sl 3 0 (64 * (padN n / 64)) capp)]) (m0 := [some ⟨1, 32, fun _ _ => .int .u8 0⟩, some ⟨1, 8, u32G hTab⟩, some ⟨1, 64, u32G kTab⟩, some ⟨1, padN n, bytesG b⟩]) [some 0, some 1, some 2, some 3] ⟨0, 0, capp, rfl, rfl, by omega, rfl⟩ ?_ ?_
  · have hN : AV.sl 3 0 (64 * (padN n / 64)) capp = .sl 3 0 (padN n) capp := by rw [show 64 * (padN n / 64) = padN n by omega]
    rw [hN]
    refine .mk0 ⟨.ptr _ _ _ _ rfl, .ptr _ _ _ _ rfl, .sl _ _ _ _ _ rfl, .sl _ _ _ _ _ rfl, trivial⟩ ⟨.old 0 0 _ _ rfl rfl ⟨rfl, Nat.le_refl _, fun i j hi hj => oneU0 hj rfl⟩, .old 1 1 _ _ rfl rfl ⟨rfl, Nat.le_refl _, fun i j hi hj => ?_⟩,
      .old 2 2 _ _ rfl rfl ⟨rfl, Nat.le_refl _, fun i j hi hj => .eq _ _ rfl (.int _ _)⟩, .old 3 3 _ _ rfl rfl ⟨rfl, Nat.le_refl _, fun i j hi hj => .eq _ _ rfl (.int _ _)⟩, trivial⟩ rfl rfl
    exact eight hi hj rfl rfl rfl rfl rfl rfl rfl rfl
  · rintro q l m ⟨j, off, cp, rfl, rfl, hq, rfl⟩
    conv => whnf
    refine condB_mk (fun hc => ?_) (fun hc => ?_)
    · have hc : 0 < q := by simp at hc; omega
      conv => whnf
      have hj : j < padN n / 64 := by omega
      refine loop_wk mixed (I := fun q' l m => ∃ (k : Nat), l = [(2, .ptr 0 0 0), (3, .ptr 1 0 0), (4, .sl 2 0 64 capk), (5, .sl 3 (64 * j) (64 * q) cp), (6, .ptr 4 0 0), (32, .int .i64 k)] ∧
          m = [some ⟨1, 32, fun _ _ => .int .u8 0⟩, some ⟨1, 8, u32G (Hn b j)⟩, some ⟨1, 64, u32G kTab⟩, some ⟨1, padN n, bytesG b⟩, some ⟨1, 64, u32G (Wn (blkB b j) k)⟩] ∧ q' + k = 64) 64
        (l0 := [(2, .ptr 0 0 0), (3, .ptr 1 0 0), (4, .sl 2 0 64 capk), (5, .sl 3 (64 * j) (64 * q) cp), (6, .ptr 4 0 0), (32, .int .i64 (0 : Nat))])
        (m0 := [some ⟨1, 32, fun _ _ => .int .u8 0⟩, some ⟨1, 8, u32G (Hn b j)⟩, some ⟨1, 64, u32G kTab⟩, some ⟨1, padN n, bytesG b⟩, some ⟨1, 64, u32G (Wn (blkB b j) 0)⟩]) [some 0, some 1, some 2, some 3, some 4] ⟨0, rfl, rfl, rfl⟩ ?_ ?_
      · refine .mk0 ⟨.ptr _ _ _ _ rfl, .ptr _ _ _ _ rfl, .sl _ _ _ _ _ rfl, .sl _ _ _ _ _ rfl, .ptr _ _ _ _ rfl, Flat.i rfl, trivial⟩ ⟨.old 0 0 _ _ rfl rfl ⟨rfl, Nat.le_refl _, fun i j hi hj => .eq _ _ rfl (.int _ _)⟩, .old 1 1 _ _ rfl rfl ⟨rfl, Nat.le_refl _, fun i j hi hj => .eq _ _ rfl (.int _ _)⟩,
          .old 2 2 _ _ rfl rfl ⟨rfl, Nat.le_refl _, fun i j hi hj => .eq _ _ rfl (.int _ _)⟩, .old 3 3 _ _ rfl rfl ⟨rfl, Nat.le_refl _, fun i j hi hj => .eq _ _ rfl (.int _ _)⟩, .old 4 4 _ _ rfl rfl ⟨rfl, Nat.le_refl _, fun i j hi hj => ?_⟩, trivial⟩ rfl rfl
        have hj : j < 1 := hj
        obtain rfl : j = 0 := by omega
        exact .eq _ _ rfl (.int _ _)
      · rintro q' l m ⟨k, rfl, rfl, hk⟩
        conv => whnf
        refine condB_mk (fun hc => ?_) (fun hc => ?_)
        · have hc : k < 64 := by simp at hc; omega
          conv => whnf
          refine condB_mk (fun hd => ?_) (fun hd => ?_)
          · have hd : k < 16 := by simp at hd; omega
            conv => whnf
            have e1 : IntKind.i64.wrap (4 * (k : Int)) = ((4 * k : Nat) : Int) := by rw [w64 (by omega) (by omega)]; omega
            have e2 : IntKind.i64.wrap (((4 * k : Nat) : Int) + 4) = ((4 * k + 4 : Nat) : Int) := by rw [w64 (by omega) (by omega)]; omega
            simp only [e1, e2, Int.toNat_natCast]
            refine condB_ok (by simp; omega) ?_
            conv => whnf
            simp only [Nat.add_sub_cancel_left]
            refine S_high (n := 4) (f := fun i => b (64 * j + 4 * k + i)) (Shows.any rfl (by omega) (fun i hi => rfl)) (by omega) (fun i _ => hb _) ?_
            conv => whnf
            have e3 : IntKind.u32.wrap (getV (fun i => b (64 * j + 4 * k + i)) 0 4) = Wn (blkB b j) (k + 1) k := by
              obtain ⟨g1, g2⟩ := getV_lt (f := fun i => b (64 * j + 4 * k + i)) (p := 0) (k := 4) (fun i _ => hb _)
              rw [wu32, show Wn (blkB b j) (k + 1) k = newW (blkB b j) k (Wn (blkB b j) k) from if_pos rfl, newW, if_pos hd]
              rw [Int.emod_eq_of_lt g1 (by omega)]
              simp only [getV, blkB, Nat.zero_add, Nat.add_zero, Nat.add_assoc]
            simp only [e3]
            refine condB_ok (by simp; omega) ?_
            conv => whnf
            simp only [Int.toNat_natCast, Nat.zero_add]
            refine condB_ok (by simp [roomG, Nat.ble_eq]; omega) ?_
            conv => whnf
            have e4 : IntKind.i64.wrap ((k : Int) + 1) = ((k + 1 : Nat) : Int) := by rw [w64 (by omega) (by omega)]; omega
            refine ⟨q' - 1, [(2, .ptr 0 0 0), (3, .ptr 1 0 0), (4, .sl 2 0 64 capk), (5, .sl 3 (64 * j) (64 * q) cp), (6, .ptr 4 0 0), (32, .int .i64 ((k + 1 : Nat) : Int))],
              [some ⟨1, 32, fun _ _ => .int .u8 0⟩, some ⟨1, 8, u32G (Hn b j)⟩, some ⟨1, 64, u32G kTab⟩, some ⟨1, padN n, bytesG b⟩, some ⟨1, 64, u32G (Wn (blkB b j) (k + 1))⟩], [some 0, some 1, some 2, some 3, some 4], by omega, ⟨k + 1, rfl, rfl, by omega⟩, ?_⟩
            refine .mk0 ⟨.ptr _ _ _ _ rfl, .ptr _ _ _ _ rfl, .sl _ _ _ _ _ rfl, .sl _ _ _ _ _ rfl, .ptr _ _ _ _ rfl, Flat.i e4, trivial⟩ ⟨.old 0 0 _ _ rfl rfl ⟨rfl, Nat.le_refl _, fun i j hi hj => .eq _ _ rfl (.int _ _)⟩, .old 1 1 _ _ rfl rfl ⟨rfl, Nat.le_refl _, fun i j hi hj => .eq _ _ rfl (.int _ _)⟩,
              .old 2 2 _ _ rfl rfl ⟨rfl, Nat.le_refl _, fun i j hi hj => .eq _ _ rfl (.int _ _)⟩, .old 3 3 _ _ rfl rfl ⟨rfl, Nat.le_refl _, fun i j hi hj => .eq _ _ rfl (.int _ _)⟩, .old 4 4 _ _ rfl rfl ⟨rfl, Nat.le_refl _, fun i j hi hj => ?_⟩, trivial⟩ rfl rfl
            exact updW hj rfl
          · have hd : ¬ k < 16 := by simp at hd; omega
            conv => whnf
            have e1 : IntKind.i64.wrap ((k : Int) - 15) = ((k - 15 : Nat) : Int) := by rw [w64 (by omega) (by omega)]; omega
            have e2 : IntKind.i64.wrap ((k : Int) - 2) = ((k - 2 : Nat) : Int) := by rw [w64 (by omega) (by omega)]; omega
            have e3 : IntKind.i64.wrap ((k : Int) - 16) = ((k - 16 : Nat) : Int) := by rw [w64 (by omega) (by omega)]; omega
            have e4 : IntKind.i64.wrap ((k : Int) - 7) = ((k - 7 : Nat) : Int) := by rw [w64 (by omega) (by omega)]; omega
            simp only [e1]
            refine condB_ok (by simp; omega) ?_
            conv => whnf
            simp only [Int.toNat_natCast, Nat.zero_add]
            refine condB_ok (by simp [roomG, Nat.ble_eq]; omega) ?_
            conv => whnf
            simp only [e2]
            refine condB_ok (by simp; omega) ?_
            conv => whnf
            simp only [Int.toNat_natCast, Nat.zero_add]
            refine condB_ok (by simp [roomG, Nat.ble_eq]; omega) ?_
            conv => whnf
            refine S_rot _ _ ?_
            conv => whnf
            refine S_rot _ _ ?_
            conv => whnf
            refine S_rot _ _ ?_
            conv => whnf
            refine S_rot _ _ ?_
            conv => whnf
            simp only [e3]
            refine condB_ok (by simp; omega) ?_
            conv => whnf
            simp only [Int.toNat_natCast, Nat.zero_add]
            refine condB_ok (by simp [roomG, Nat.ble_eq]; omega) ?_
            conv => whnf
            simp only [e4]
            refine condB_ok (by simp; omega) ?_
            conv => whnf
            simp only [Int.toNat_natCast, Nat.zero_add]
            refine condB_ok (by simp [roomG, Nat.ble_eq]; omega) ?_
            conv => whnf
            refine condB_ok (by simp; omega) ?_
            conv => whnf
            simp only [Int.toNat_natCast, Nat.zero_add]
            refine condB_ok (by simp [roomG, Nat.ble_eq]; omega) ?_
            conv => whnf
            have e5 : IntKind.i64.wrap ((k : Int) + 1) = ((k + 1 : Nat) : Int) := by rw [w64 (by omega) (by omega)]; omega
            have eW : Wn (blkB b j) (k + 1) k = addU (addU (addU (Wn (blkB b j) k (k - 16)) (sigA (Wn (blkB b j) k (k - 15)))) (Wn (blkB b j) k (k - 7))) (sigB (Wn (blkB b j) k (k - 2))) := by
              rw [show Wn (blkB b j) (k + 1) k = newW (blkB b j) k (Wn (blkB b j) k) from if_pos rfl, newW, if_neg hd]
            refine ⟨q' - 1, [(2, .ptr 0 0 0), (3, .ptr 1 0 0), (4, .sl 2 0 64 capk), (5, .sl 3 (64 * j) (64 * q) cp), (6, .ptr 4 0 0), (32, .int .i64 ((k + 1 : Nat) : Int))],
              [some ⟨1, 32, fun _ _ => .int .u8 0⟩, some ⟨1, 8, u32G (Hn b j)⟩, some ⟨1, 64, u32G kTab⟩, some ⟨1, padN n, bytesG b⟩, some ⟨1, 64, u32G (Wn (blkB b j) (k + 1))⟩], [some 0, some 1, some 2, some 3, some 4], by omega, ⟨k + 1, rfl, rfl, by omega⟩, ?_⟩
            refine .mk0 ⟨.ptr _ _ _ _ rfl, .ptr _ _ _ _ rfl, .sl _ _ _ _ _ rfl, .sl _ _ _ _ _ rfl, .ptr _ _ _ _ rfl, Flat.i e5, trivial⟩ ⟨.old 0 0 _ _ rfl rfl ⟨rfl, Nat.le_refl _, fun i j hi hj => .eq _ _ rfl (.int _ _)⟩, .old 1 1 _ _ rfl rfl ⟨rfl, Nat.le_refl _, fun i j hi hj => .eq _ _ rfl (.int _ _)⟩,
              .old 2 2 _ _ rfl rfl ⟨rfl, Nat.le_refl _, fun i j hi hj => .eq _ _ rfl (.int _ _)⟩, .old 3 3 _ _ rfl rfl ⟨rfl, Nat.le_refl _, fun i j hi hj => .eq _ _ rfl (.int _ _)⟩, .old 4 4 _ _ rfl rfl ⟨rfl, Nat.le_refl _, fun i j hi hj => ?_⟩, trivial⟩ rfl rfl
            exact updW hj (by rw [eW]; rfl)
        · have hc : k = 64 := by simp at hc; omega
          subst hc
          conv => whnf
          generalize hW : Wn (blkB b j) 64 = w
          generalize hH : Hn b j = h
          refine loop_wk mixed (I := fun q' l m => ∃ (k : Nat), l = [(2, .ptr 0 0 0), (3, .ptr 1 0 0), (4, .sl 2 0 64 capk), (5, .sl 3 (64 * j) (64 * q) cp), (6, .ptr 4 0 0), (12, .ptr 5 0 0), (89, .int .i64 k)] ∧
              m = [some ⟨1, 32, fun _ _ => .int .u8 0⟩, some ⟨1, 8, u32G h⟩, some ⟨1, 64, u32G kTab⟩, some ⟨1, padN n, bytesG b⟩, some ⟨1, 64, u32G w⟩, some ⟨1, 8, u32G (Rn h w k)⟩] ∧ q' + k = 64) 64
            (l0 := [(2, .ptr 0 0 0), (3, .ptr 1 0 0), (4, .sl 2 0 64 capk), (5, .sl 3 (64 * j) (64 * q) cp), (6, .ptr 4 0 0), (12, .ptr 5 0 0), (89, .int .i64 (0 : Nat))])
            (m0 := [some ⟨1, 32, fun _ _ => .int .u8 0⟩, some ⟨1, 8, u32G h⟩, some ⟨1, 64, u32G kTab⟩, some ⟨1, padN n, bytesG b⟩, some ⟨1, 64, u32G w⟩, some ⟨1, 8, u32G (Rn h w 0)⟩]) [some 0, some 1, some 2, some 3, some 4, some 5] ⟨0, rfl, rfl, rfl⟩ ?_ ?_
          · refine .mk0 ⟨.ptr _ _ _ _ rfl, .ptr _ _ _ _ rfl, .sl _ _ _ _ _ rfl, .sl _ _ _ _ _ rfl, .ptr _ _ _ _ rfl, .ptr _ _ _ _ rfl, Flat.i rfl, trivial⟩ ⟨.old 0 0 _ _ rfl rfl ⟨rfl, Nat.le_refl _, fun i j hi hj => .eq _ _ rfl (.int _ _)⟩, .old 1 1 _ _ rfl rfl ⟨rfl, Nat.le_refl _, fun i j hi hj => .eq _ _ rfl (.int _ _)⟩,
              .old 2 2 _ _ rfl rfl ⟨rfl, Nat.le_refl _, fun i j hi hj => .eq _ _ rfl (.int _ _)⟩, .old 3 3 _ _ rfl rfl ⟨rfl, Nat.le_refl _, fun i j hi hj => .eq _ _ rfl (.int _ _)⟩, .old 4 4 _ _ rfl rfl ⟨rfl, Nat.le_refl _, fun i j hi hj => .eq _ _ rfl (.int _ _)⟩, .old 5 5 _ _ rfl rfl ⟨rfl, Nat.le_refl _, fun i j hi hj => ?_⟩, trivial⟩ rfl rfl
            exact eightC hi hj rfl
          · rintro q' l m ⟨k, rfl, rfl, hk⟩
            conv => whnf
            refine condB_mk (fun hc => ?_) (fun hc => ?_)
            · have hc : k < 64 := by simp at hc; omega
              conv => whnf
              generalize hR : Rn h w k = r
              refine S_rot _ _ ?_
              conv => whnf
              refine S_rot _ _ ?_
              conv => whnf
              refine S_rot _ _ ?_
              conv => whnf
              refine condB_ok (by simp; omega) ?_
              conv => whnf
              simp only [Int.toNat_natCast, Nat.zero_add]
              refine condB_ok (by simp [roomG, Nat.ble_eq]; omega) ?_
              conv => whnf
              refine condB_ok (by simp; omega) ?_
              conv => whnf
              simp only [Int.toNat_natCast, Nat.zero_add]
              refine condB_ok (by simp [roomG, Nat.ble_eq]; omega) ?_
              conv => whnf
              refine S_rot _ _ ?_
              conv => whnf
              refine S_rot _ _ ?_
              conv => whnf
              refine S_rot _ _ ?_
              conv => whnf
              have e5 : IntKind.i64.wrap ((k : Int) + 1) = ((k + 1 : Nat) : Int) := by rw [w64 (by omega) (by omega)]; omega
              have eR : Rn h w (k + 1) = rnd r (kTab k) (w k) := by rw [← hR]; rfl
              refine ⟨q' - 1, [(2, .ptr 0 0 0), (3, .ptr 1 0 0), (4, .sl 2 0 64 capk), (5, .sl 3 (64 * j) (64 * q) cp), (6, .ptr 4 0 0), (12, .ptr 5 0 0), (89, .int .i64 ((k + 1 : Nat) : Int))],
                [some ⟨1, 32, fun _ _ => .int .u8 0⟩, some ⟨1, 8, u32G h⟩, some ⟨1, 64, u32G kTab⟩, some ⟨1, padN n, bytesG b⟩, some ⟨1, 64, u32G w⟩, some ⟨1, 8, u32G (Rn h w (k + 1))⟩], [some 0, some 1, some 2, some 3, some 4, some 5], by omega, ⟨k + 1, rfl, rfl, by omega⟩, ?_⟩
              rw [eR]
              refine .mk0 ⟨.ptr _ _ _ _ rfl, .ptr _ _ _ _ rfl, .sl _ _ _ _ _ rfl, .sl _ _ _ _ _ rfl, .ptr _ _ _ _ rfl, .ptr _ _ _ _ rfl, Flat.i e5, trivial⟩ ⟨.old 0 0 _ _ rfl rfl ⟨rfl, Nat.le_refl _, fun i j hi hj => .eq _ _ rfl (.int _ _)⟩, .old 1 1 _ _ rfl rfl ⟨rfl, Nat.le_refl _, fun i j hi hj => .eq _ _ rfl (.int _ _)⟩,
                .old 2 2 _ _ rfl rfl ⟨rfl, Nat.le_refl _, fun i j hi hj => .eq _ _ rfl (.int _ _)⟩, .old 3 3 _ _ rfl rfl ⟨rfl, Nat.le_refl _, fun i j hi hj => .eq _ _ rfl (.int _ _)⟩, .old 4 4 _ _ rfl rfl ⟨rfl, Nat.le_refl _, fun i j hi hj => .eq _ _ rfl (.int _ _)⟩, .old 5 5 _ _ rfl rfl ⟨rfl, Nat.le_refl _, fun i j hi hj => ?_⟩, trivial⟩ rfl rfl
              exact eight hi hj rfl rfl rfl rfl rfl rfl rfl rfl
            · have hc : k = 64 := by simp at hc; omega
              subst hc
              conv => whnf
              generalize hR : Rn h w 64 = r
              have hNext : Hn b (j + 1) = fun i => addU (h i) (r i) := by
                rw [show Hn b (j + 1) = nextH (Hn b j) (Wn (blkB b j) 64) from rfl, hW, hH]
                funext i
                rw [nextH, hR]
              refine loop_wk mixed (I := fun q' l m => ∃ (k : Nat), l = [(2, .ptr 0 0 0), (3, .ptr 1 0 0), (4, .sl 2 0 64 capk), (5, .sl 3 (64 * j) (64 * q) cp), (12, .ptr 5 0 0), (172, .int .i64 k)] ∧
                  m = [some ⟨1, 32, fun _ _ => .int .u8 0⟩, some ⟨1, 8, u32G (fun i => if i < k then addU (h i) (r i) else h i)⟩, some ⟨1, 64, u32G kTab⟩, some ⟨1, padN n, bytesG b⟩, none, some ⟨1, 8, u32G r⟩] ∧ q' + k = 8) 8
                (l0 := [(2, .ptr 0 0 0), (3, .ptr 1 0 0), (4, .sl 2 0 64 capk), (5, .sl 3 (64 * j) (64 * q) cp), (12, .ptr 5 0 0), (172, .int .i64 (0 : Nat))])
                (m0 := [some ⟨1, 32, fun _ _ => .int .u8 0⟩, some ⟨1, 8, u32G (fun i => if i < 0 then addU (h i) (r i) else h i)⟩, some ⟨1, 64, u32G kTab⟩, some ⟨1, padN n, bytesG b⟩, none, some ⟨1, 8, u32G r⟩]) [some 0, some 1, some 2, some 3, none, some 5] ⟨0, rfl, rfl, rfl⟩ ?_ ?_
              · refine .mk0 ⟨.ptr _ _ _ _ rfl, .ptr _ _ _ _ rfl, .sl _ _ _ _ _ rfl, .sl _ _ _ _ _ rfl, .ptr _ _ _ _ rfl, Flat.i rfl, trivial⟩ ⟨.old 0 0 _ _ rfl rfl ⟨rfl, Nat.le_refl _, fun i j hi hj => .eq _ _ rfl (.int _ _)⟩, .old 1 1 _ _ rfl rfl ⟨rfl, Nat.le_refl _, fun i j hi hj => ?_⟩,
                  .old 2 2 _ _ rfl rfl ⟨rfl, Nat.le_refl _, fun i j hi hj => .eq _ _ rfl (.int _ _)⟩, .old 3 3 _ _ rfl rfl ⟨rfl, Nat.le_refl _, fun i j hi hj => .eq _ _ rfl (.int _ _)⟩, .dead _, .old 5 5 _ _ rfl rfl ⟨rfl, Nat.le_refl _, fun i j hi hj => .eq _ _ rfl (.int _ _)⟩, trivial⟩ rfl rfl
                exact .eq _ _ (by simp only [u32G]; rw [if_neg (Nat.not_lt_zero _)]) (.int _ _)
              · rintro q' l m ⟨k, rfl, rfl, hk⟩
                conv => whnf
                refine condB_mk (fun hc => ?_) (fun hc => ?_)
                · have hc : k < 8 := by simp at hc; omega
                  conv => whnf
                  refine condB_ok (by simp; omega) ?_
                  conv => whnf
                  simp only [Int.toNat_natCast, Nat.zero_add]
                  refine condB_ok (by simp [roomG, Nat.ble_eq]; omega) ?_
                  conv => whnf
                  refine condB_ok (by simp; omega) ?_
                  conv => whnf
                  simp only [Int.toNat_natCast, Nat.zero_add]
                  refine condB_ok (by simp [roomG, Nat.ble_eq]; omega) ?_
                  conv => whnf
                  refine condB_ok (by simp; omega) ?_
                  conv => whnf
                  simp only [Int.toNat_natCast, Nat.zero_add]
                  refine condB_ok (by simp [roomG, Nat.ble_eq]; omega) ?_
                  conv => whnf
                  have e5 : IntKind.i64.wrap ((k : Int) + 1) = ((k + 1 : Nat) : Int) := by rw [w64 (by omega) (by omega)]; omega
                  refine ⟨q' - 1, [(2, .ptr 0 0 0), (3, .ptr 1 0 0), (4, .sl 2 0 64 capk), (5, .sl 3 (64 * j) (64 * q) cp), (12, .ptr 5 0 0), (172, .int .i64 ((k + 1 : Nat) : Int))],
                    [some ⟨1, 32, fun _ _ => .int .u8 0⟩, some ⟨1, 8, u32G (fun i => if i < k + 1 then addU (h i) (r i) else h i)⟩, some ⟨1, 64, u32G kTab⟩, some ⟨1, padN n, bytesG b⟩, none, some ⟨1, 8, u32G r⟩], [some 0, some 1, some 2, some 3, none, some 5], by omega, ⟨k + 1, rfl, rfl, by omega⟩, ?_⟩
                  refine .mk0 ⟨.ptr _ _ _ _ rfl, .ptr _ _ _ _ rfl, .sl _ _ _ _ _ rfl, .sl _ _ _ _ _ rfl, .ptr _ _ _ _ rfl, Flat.i e5, trivial⟩ ⟨.old 0 0 _ _ rfl rfl ⟨rfl, Nat.le_refl _, fun i j hi hj => .eq _ _ rfl (.int _ _)⟩, .old 1 1 _ _ rfl rfl ⟨rfl, Nat.le_refl _, fun i j hi hj => ?_⟩,
                    .old 2 2 _ _ rfl rfl ⟨rfl, Nat.le_refl _, fun i j hi hj => .eq _ _ rfl (.int _ _)⟩, .old 3 3 _ _ rfl rfl ⟨rfl, Nat.le_refl _, fun i j hi hj => .eq _ _ rfl (.int _ _)⟩, .dead _, .old 5 5 _ _ rfl rfl ⟨rfl, Nat.le_refl _, fun i j hi hj => .eq _ _ rfl (.int _ _)⟩, trivial⟩ rfl rfl
                  exact updH hj rfl
                · have hc : k = 8 := by simp at hc; omega
                  subst hc
                  conv => whnf
                  refine condB_ok (by simp; omega) ?_
                  conv => whnf
                  refine ⟨q - 1, [(2, .ptr 0 0 0), (3, .ptr 1 0 0), (4, .sl 2 0 64 capk), (5, .sl 3 (64 * (j + 1)) (64 * (q - 1)) (cp - 64))],
                    [some ⟨1, 32, fun _ _ => .int .u8 0⟩, some ⟨1, 8, u32G (Hn b (j + 1))⟩, some ⟨1, 64, u32G kTab⟩, some ⟨1, padN n, bytesG b⟩], [some 0, some 1, some 2, some 3], by omega, ⟨j + 1, 64 * (j + 1), cp - 64, rfl, rfl, by omega, rfl⟩, ?_⟩
                  rw [hNext]
                  refine .mk0 ⟨.ptr _ _ _ _ rfl, .ptr _ _ _ _ rfl, .sl _ _ _ _ _ rfl, ?_, trivial⟩ ⟨.old 0 0 _ _ rfl rfl ⟨rfl, Nat.le_refl _, fun i j hi hj => .eq _ _ rfl (.int _ _)⟩, .old 1 1 _ _ rfl rfl ⟨rfl, Nat.le_refl _, fun i j hi hj => ?_⟩,
                    .old 2 2 _ _ rfl rfl ⟨rfl, Nat.le_refl _, fun i j hi hj => .eq _ _ rfl (.int _ _)⟩, .old 3 3 _ _ rfl rfl ⟨rfl, Nat.le_refl _, fun i j hi hj => .eq _ _ rfl (.int _ _)⟩, trivial⟩ rfl rfl
                  · have : AV.sl 3 (64 * (j + 1)) (64 * (q - 1)) (cp - 64) = .sl 3 (64 * j + (64 : Int).toNat) (64 * q - (64 : Int).toNat) (cp - (64 : Int).toNat) := by
                      rw [show (64 : Int).toNat = 64 from rfl, show 64 * (j + 1) = 64 * j + 64 by omega, show 64 * (q - 1) = 64 * q - 64 by omega]
                    rw [this]
                    exact .sl _ _ _ _ _ rfl
                  · have hi : i < 8 := hi
                    exact .eq _ _ (by simp only [u32G]; rw [if_pos hi]) (.int _ _)
    · have hc : q = 0 := by simp at hc; omega
      conv => whnf
      obtain rfl : j = padN n / 64 := by omega
      generalize hH : Hn b (padN n / 64) = h
      have hS : ∀ i, i < 32 → sumB n f i = IntKind.u8.wrap ((h (i / 4)).fdiv (2 ^ (24 - 8 * (i % 4)))) := fun i hi => by rw [sumB, hB, hH]
      refine loop_wk mixed (I := fun q' l m => ∃ (k : Nat), l = [(2, .ptr 0 0 0), (3, .ptr 1 0 0), (21, .ptr 2 0 0), (184, .int .i64 k)] ∧
          m = [some ⟨1, 32, fun _ _ => .int .u8 0⟩, some ⟨1, 8, u32G h⟩, some ⟨1, 32, bytesG (fun i => if i < k then sumB n f i else 0)⟩] ∧ q' + k = 32) 32
        (l0 := [(2, .ptr 0 0 0), (3, .ptr 1 0 0), (21, .ptr 2 0 0), (184, .int .i64 (0 : Nat))])
        (m0 := [some ⟨1, 32, fun _ _ => .int .u8 0⟩, some ⟨1, 8, u32G h⟩, some ⟨1, 32, bytesG (fun i => if i < 0 then sumB n f i else 0)⟩]) [some 0, some 1, some 4] ⟨0, rfl, rfl, rfl⟩ ?_ ?_
      · refine .mk0 ⟨.ptr _ _ _ _ rfl, .ptr _ _ _ _ rfl, .ptr _ _ _ _ rfl, Flat.i rfl, trivial⟩ ⟨.old 0 0 _ _ rfl rfl ⟨rfl, Nat.le_refl _, fun i j hi hj => .eq _ _ rfl (.int _ _)⟩, .old 1 1 _ _ rfl rfl ⟨rfl, Nat.le_refl _, fun i j hi hj => .eq _ _ rfl (.int _ _)⟩, .old 2 4 _ _ rfl rfl ⟨rfl, Nat.le_refl _, fun i j hi hj => ?_⟩, trivial⟩ rfl rfl
        have hj : j < 1 := hj
        obtain rfl : j = 0 := by omega
        exact .eq _ _ (by simp only [bytesG]; rw [if_neg (Nat.not_lt_zero _)]; rfl) (.int _ _)
      · rintro q' l m ⟨k, rfl, rfl, hk⟩
        conv => whnf
        refine condB_mk (fun hc => ?_) (fun hc => ?_)
        · have hc : k < 32 := by simp at hc; omega
          conv => whnf
          have e1 : IntKind.i64.wrap ((k : Int).tdiv 4) = ((k / 4 : Nat) : Int) := by
            rw [Int.tdiv_eq_ediv_of_nonneg (by omega), w64 (by omega) (by omega)]; omega
          have e2 : (k : Int).tmod 4 = ((k % 4 : Nat) : Int) := tmod_nat k 4
          have e3 : IntKind.i64.wrap (8 * ((k % 4 : Nat) : Int)) = ((8 * (k % 4) : Nat) : Int) := by rw [w64 (by omega) (by omega)]; omega
          have e4 : IntKind.i64.wrap (24 - ((8 * (k % 4) : Nat) : Int)) = ((24 - 8 * (k % 4) : Nat) : Int) := by rw [w64 (by omega) (by omega)]; omega
          simp only [e1]
          refine condB_ok (by simp; omega) ?_
          conv => whnf
          simp only [Int.toNat_natCast, Nat.zero_add]
          refine condB_ok (by simp [roomG, Nat.ble_eq]; omega) ?_
          conv => whnf
          simp only [e2, e3, e4]
          conv => whnf
          refine condB_ok (by simp; omega) ?_
          conv => whnf
          simp only [Int.toNat_natCast, Nat.zero_add]
          refine condB_ok (by simp [roomG, Nat.ble_eq]; omega) ?_
          conv => whnf
          have e5 : IntKind.i64.wrap ((k : Int) + 1) = ((k + 1 : Nat) : Int) := by rw [w64 (by omega) (by omega)]; omega
          have e6 : min (24 - 8 * (k % 4)) IntKind.u32.bits = 24 - 8 * (k % 4) := by simp only [IntKind.bits]; omega
          refine ⟨q' - 1, [(2, .ptr 0 0 0), (3, .ptr 1 0 0), (21, .ptr 2 0 0), (184, .int .i64 ((k + 1 : Nat) : Int))],
            [some ⟨1, 32, fun _ _ => .int .u8 0⟩, some ⟨1, 8, u32G h⟩, some ⟨1, 32, bytesG (fun i => if i < k + 1 then sumB n f i else 0)⟩], [some 0, some 1, some 2], by omega, ⟨k + 1, rfl, rfl, by omega⟩, ?_⟩
          refine .mk0 ⟨.ptr _ _ _ _ rfl, .ptr _ _ _ _ rfl, .ptr _ _ _ _ rfl, Flat.i e5, trivial⟩ ⟨.old 0 0 _ _ rfl rfl ⟨rfl, Nat.le_refl _, fun i j hi hj => .eq _ _ rfl (.int _ _)⟩, .old 1 1 _ _ rfl rfl ⟨rfl, Nat.le_refl _, fun i j hi hj => .eq _ _ rfl (.int _ _)⟩, .old 2 2 _ _ rfl rfl ⟨rfl, Nat.le_refl _, fun i j hi hj => ?_⟩, trivial⟩ rfl rfl
          exact updO hj (hS k hc) e6 rfl
        · have hc : k = 32 := by simp at hc; omega
          subst hc
          conv => whnf
          exact outSum rfl

theorem S_Sum {m : Mem} {x : AV} {n : Nat} {f : Nat → Int} {K : AV → Mem → Prop} (hx : Shows m x n f) (hn : n ≤ 1000000) (hf : ∀ i, i < n → 0 ≤ f i ∧ f i ≤ 255) (h : K (.agg (sumL n f)) m) : ACall Pg F_sha_Sum [x] m K := by
  obtain ⟨cap, hl⟩ := hx
  refine lift_flat (S_Sum0 n cap f hn hf) (.cons _ _ _ _ hl .nil) ?_
  rintro v rfl
  exact h

end Go.Proofs.Ytdobchoiiihfiaa
