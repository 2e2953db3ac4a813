/- The law BinExact: what is put and got is the page's; no condition. -/
import Derived.Test.YtdobchoiiihfiaaD5
import Derived.Test.YtdobchoiiihfiaaD9
set_option linter.unusedVariables false
set_option linter.unusedSimpArgs false
set_option maxRecDepth 100000
set_option pp.maxSteps 300
namespace Go.Proofs.Ytdobchoiiihfiaa
open Go Go.Wit

def putN (n : Nat) (v s : Int) : Nat := if putOk v s then n + s.toNat else 0
def putEr (v s : Int) : Int := if putOk v s then 0 else 1
def ppN (n k : Nat) : Nat := if k ≤ 16384 then n + 4 + k else 0
def ppE (k : Nat) : Int := if k ≤ 16384 then 0 else 4
def gpN (n : Nat) (f : Nat → Int) (pos : Int) : Nat := if partOk n f pos then (partV f pos).toNat else 0
def gpNext (n : Nat) (f : Nat → Int) (pos : Int) : Int := if partOk n f pos then pos + 4 + partV f pos else 0
def gpE (n : Nat) (f : Nat → Int) (pos : Int) : Int := if partOk n f pos then 0 else partE n pos

theorem S_PutU {m : Mem} {x : AV} {n : Nat} {f : Nat → Int} {K : AV → Mem → Prop} (v s : Int) (hx : Shows m x n f) (hn : n ≤ 140737488355000)
    (hK : ∀ cap g, (∀ i, i < putN n v s → g i = putB n f v s i) → memK (m ++ [some ⟨1, putN n v s, bytesG g⟩]) (K (.tup [.sl m.length 0 (putN n v s) cap, .int .i64 (putEr v s)]))) : ACall Pg F_bin_Put [x, .int .i64 v, .int .i64 s] m K := by
  refine S_Put v s hx hn (fun h cap f' => ?_) (fun h cap => ?_)
  · have := hK cap f' (fun i hi => by simp [putN, h] at hi)
    simpa [putN, putEr, h, memK_eq] using this
  · have := hK cap (putB n f v s) (fun i hi => rfl)
    simpa [putN, putEr, h, memK_eq] using this

theorem S_refPutU {m : Mem} {x : AV} {n : Nat} {f : Nat → Int} {K : AV → Mem → Prop} (v s : Int) (hx : Shows m x n f) (hn : n ≤ 140737488355000) (hv : -9223372036854775808 ≤ v ∧ v ≤ 9223372036854775807)
    (hK : ∀ cap g, (∀ i, i < putN n v s → g i = putB n f v s i) → memK (m ++ [some ⟨1, putN n v s, bytesG g⟩]) (K (.tup [.sl m.length 0 (putN n v s) cap, .int .i64 (putEr v s)]))) : ACall Pg F_witanref10_Put [x, .int .i64 v, .int .i64 s] m K := by
  refine S_refPut v s hx hn hv (fun h cap f' => ?_) (fun h cap => ?_)
  · have := hK cap f' (fun i hi => by simp [putN, h] at hi)
    simpa [putN, putEr, h, memK_eq] using this
  · have := hK cap (putB n f v s) (fun i hi => rfl)
    simpa [putN, putEr, h, memK_eq] using this

theorem S_PutPartU {m : Mem} {x y : AV} {n k : Nat} {f g : Nat → Int} {K : AV → Mem → Prop} (hx : Shows m x n f) (hy : Shows m y k g) (hn : n ≤ 140737488300000)
    (hK : ∀ cap h, (∀ i, i < ppN n k → h i = catB (n + 4) (putB n f k 4) g i) → memK (m ++ [some ⟨1, ppN n k, bytesG h⟩]) (K (.tup [.sl m.length 0 (ppN n k) cap, .int .i64 (ppE k)]))) : ACall Pg F_bin_PutPart [x, y] m K := by
  refine S_PutPart hx hy hn (fun h cap f' => ?_) (fun h cap => ?_)
  · have := hK cap f' (fun i hi => by simp [ppN, h] at hi)
    simpa [ppN, ppE, h, memK_eq] using this
  · have := hK cap (catB (n + 4) (putB n f k 4) g) (fun i hi => rfl)
    simpa [ppN, ppE, h, memK_eq] using this

theorem S_refPutPartU {m : Mem} {x y : AV} {n k : Nat} {f g : Nat → Int} {K : AV → Mem → Prop} (hx : Shows m x n f) (hy : Shows m y k g) (hn : n ≤ 140737488300000)
    (hK : ∀ cap h, (∀ i, i < ppN n k → h i = catB (n + 4) (putB n f k 4) g i) → memK (m ++ [some ⟨1, ppN n k, bytesG h⟩]) (K (.tup [.sl m.length 0 (ppN n k) cap, .int .i64 (ppE k)]))) : ACall Pg F_witanref10_PutPart [x, y] m K := by
  refine S_refPutPart hx hy hn (fun h cap f' => ?_) (fun h cap => ?_)
  · have := hK cap f' (fun i hi => by simp [ppN, h] at hi)
    simpa [ppN, ppE, h, memK_eq] using this
  · have := hK cap (catB (n + 4) (putB n f k 4) g) (fun i hi => rfl)
    simpa [ppN, ppE, h, memK_eq] using this

theorem S_GetPartU {m : Mem} {x : AV} {n : Nat} {f : Nat → Int} {K : AV → Mem → Prop} (pos : Int) (hx : Shows m x n f) (hn : n ≤ 140737488300000) (hf : ∀ i, i < n → 0 ≤ f i ∧ f i ≤ 255)
    (hK : ∀ cap h, (∀ i, i < gpN n f pos → h i = f (i + (pos.toNat + 4))) → memK (m ++ [some ⟨1, gpN n f pos, bytesG h⟩]) (K (.tup [.sl m.length 0 (gpN n f pos) cap, .int .i64 (gpNext n f pos), .int .i64 (gpE n f pos)]))) : ACall Pg F_bin_GetPart [x, .int .i64 pos] m K := by
  refine S_GetPart pos hx hn hf (fun h cap f' => ?_) (fun h cap => ?_)
  · have := hK cap f' (fun i hi => by simp [gpN, h] at hi)
    simpa [gpN, gpE, gpNext, h, memK_eq] using this
  · have := hK cap _ (fun i hi => rfl)
    simpa [gpN, gpE, gpNext, h, memK_eq] using this

theorem S_refGetPartU {m : Mem} {x : AV} {n : Nat} {f : Nat → Int} {K : AV → Mem → Prop} (pos : Int) (hx : Shows m x n f) (hn : n ≤ 140737488300000) (hf : ∀ i, i < n → 0 ≤ f i ∧ f i ≤ 255)
    (hK : ∀ cap h, (∀ i, i < gpN n f pos → h i = f (i + (pos.toNat + 4))) → memK (m ++ [some ⟨1, gpN n f pos, bytesG h⟩]) (K (.tup [.sl m.length 0 (gpN n f pos) cap, .int .i64 (gpNext n f pos), .int .i64 (gpE n f pos)]))) : ACall Pg F_witanref10_GetPart [x, .int .i64 pos] m K := by
  refine S_refGetPart pos hx hn hf (fun h cap f' => ?_) (fun h cap => ?_)
  · have := hK cap f' (fun i hi => by simp [gpN, h] at hi)
    simpa [gpN, gpE, gpNext, h, memK_eq] using this
  · have := hK cap _ (fun i hi => rfl)
    simpa [gpN, gpE, gpNext, h, memK_eq] using this

def getN1 (n : Nat) (f : Nat → Int) (pos s : Int) : Int := if getE n pos s = 0 then getV f pos.toNat s.toNat else 0
def getN2 (n : Nat) (f : Nat → Int) (pos s : Int) : Int := if getE n pos s = 0 then pos + s else 0
theorem getR_eq {n : Nat} {f : Nat → Int} {pos s : Int} : getR n f pos s = .tup [.int .i64 (getN1 n f pos s), .int .i64 (getN2 n f pos s), .int .i64 (getE n pos s)] := by
  unfold getR getN1 getN2
  by_cases h : getE n pos s = 0
  · simp [h]
  · simp [h]

theorem sameB_t {n : Nat} {f g h : Nat → Int} (h1 : ∀ i, i < n → f i = h i) (h2 : ∀ i, i < n → g i = h i) : sameB n f n g = true := sameB_eq.2 ⟨rfl, fun i hi => (h1 i hi).trans (h2 i hi).symm⟩

theorem S_BinExact (n c1 k c2 : Nat) (f g : Nat → Int) (v pos s : Int) (hf : ∀ i, i < n → 0 ≤ f i ∧ f i ≤ 255) (hv : -9223372036854775808 ≤ v ∧ v ≤ 9223372036854775807) :
    ACall Pg F_witanlaw10_BinExact [.vsl 1 n c1 (bytesG f), .vsl 1 k c2 (bytesG g), .int .i64 v, .int .i64 pos, .int .i64 s] [] (fun r _ => r = .bool true) := by
  refine B_witanlaw10_BinExact ⟨rfl, ?_⟩
  conv => whnf
  refine condB_mk (fun h1 => ?_) (fun h1 => ?_)
  rotate_left
  · conv => whnf
  have h1 : n ≤ 2000 := by simp at h1; omega
  conv => whnf
  refine condB_mk (fun h2 => ?_) (fun h2 => ?_)
  · conv => whnf
  have h2 : k ≤ 2000 := by simp at h2; omega
  conv => whnf
  refine S_Twin (f := f) Shows.vsl (by omega) (fun capI => ?_)
  conv => whnf
  refine S_Twin (f := g) Shows.vsl (by omega) (fun capP => ?_)
  conv => whnf
  have hsI : ∀ {t : Mem}, Shows (some ⟨1, n, bytesG f⟩ :: t) (.sl 0 0 n capI) n f := fun {t} => Shows.sl (N := n) (f' := f) rfl (by omega) (fun i hi => by simp)
  have hsP : ∀ {a} {t : Mem}, Shows (a :: some ⟨1, k, bytesG g⟩ :: t) (.sl 1 0 k capP) k g := fun {a t} => Shows.sl (N := k) (f' := g) rfl (by omega) (fun i hi => by simp)
  have hN : putN n v s ≤ n + 7 := by
    unfold putN
    by_cases h : putOk v s
    · rw [if_pos h]; simp [putOk] at h; omega
    · rw [if_neg h]; omega
  have hPP : ppN n k ≤ 20000 := by unfold ppN; split <;> omega
  have hG : gpN n f pos ≤ 16384 := by
    unfold gpN
    by_cases h : partOk n f pos
    · rw [if_pos h]; simp [partOk] at h; omega
    · rw [if_neg h]; omega
  refine S_PutU v s hsI (by omega) (fun cap1 x1 hx1 => ?_)
  have p1 := fun (m : Mem) (x : AV) (K : AV → Mem → Prop) (hx : Shows m x n f) => S_refPutU (K := K) v s hx (by omega) hv
  generalize putN n v s = N1 at *
  generalize putEr v s = E1 at *
  generalize putB n f v s = G1 at *
  conv => whnf
  refine p1 _ _ _ (Shows.vsl (f := f)) (fun cap2 x2 hx2 => ?_)
  clear p1
  conv => whnf
  refine S_Bytes (f := x1) (g := x2) (Shows.sl (N := N1) (f' := x1) rfl (by omega) (fun i hi => by simp)) (Shows.sl (N := N1) (f' := x2) rfl (by omega) (fun i hi => by simp)) (by omega) ?_
  rw [sameB_t hx1 hx2]
  conv => whnf
  refine condB_mk (fun hb => ?_) (fun hb => ?_)
  · simp at hb
  conv => whnf
  refine S_Spoil (f := x1) rfl (by omega) ?_
  conv => whnf
  refine S_Get (f := f) pos s hsI (by omega) hf ?_
  rw [getR_eq]
  have p2 : ∀ (m : Mem) (x : AV) (K : AV → Mem → Prop) (hx : Shows m x n f), K (.tup [.int .i64 (getN1 n f pos s), .int .i64 (getN2 n f pos s), .int .i64 (getE n pos s)]) m → ACall Pg F_witanref10_Get [x, .int .i64 pos, .int .i64 s] m K := fun m x K hx h => S_refGet pos s hx (by omega) hf (by rw [getR_eq]; exact h)
  generalize getN1 n f pos s = A1 at *
  generalize getN2 n f pos s = A2 at *
  generalize getE n pos s = A3 at *
  conv => whnf
  refine p2 _ _ _ (Shows.vsl (f := f)) ?_
  clear p2
  conv => whnf
  refine condB_mk (fun hb => ?_) (fun hb => ?_)
  rotate_left
  · simp at hb
  conv => whnf
  refine condB_mk (fun hb => ?_) (fun hb => ?_)
  rotate_left
  · simp at hb
  conv => whnf
  refine condB_mk (fun hb => ?_) (fun hb => ?_)
  · simp at hb
  conv => whnf
  refine S_PutPartU hsI hsP (by omega) (fun cap3 x3 hx3 => ?_)
  have p3 := fun (m : Mem) (x y : AV) (K : AV → Mem → Prop) (hx : Shows m x n f) (hy : Shows m y k g) => S_refPutPartU (K := K) hx hy (by omega)
  generalize ppN n k = N2 at *
  generalize ppE k = E2 at *
  generalize catB (n + 4) (putB n f k 4) g = G2 at *
  conv => whnf
  refine p3 _ _ _ _ (Shows.vsl (f := f)) (Shows.vsl (f := g)) (fun cap4 x4 hx4 => ?_)
  clear p3
  conv => whnf
  refine S_Bytes (f := x3) (g := x4) (Shows.sl (N := N2) (f' := x3) rfl (by omega) (fun i hi => by simp)) (Shows.sl (N := N2) (f' := x4) rfl (by omega) (fun i hi => by simp)) (by omega) ?_
  rw [sameB_t hx3 hx4]
  conv => whnf
  refine condB_mk (fun hb => ?_) (fun hb => ?_)
  · simp at hb
  conv => whnf
  refine S_Spoil (f := x3) rfl (by omega) ?_
  conv => whnf
  refine S_GetPartU pos hsI (by omega) hf (fun cap5 x5 hx5 => ?_)
  have p4 := fun (m : Mem) (x : AV) (K : AV → Mem → Prop) (hx : Shows m x n f) => S_refGetPartU (K := K) pos hx (by omega) hf
  generalize gpN n f pos = N3 at *
  generalize gpNext n f pos = X3 at *
  generalize gpE n f pos = E3 at *
  conv => whnf
  refine p4 _ _ _ (Shows.vsl (f := f)) (fun cap6 x6 hx6 => ?_)
  clear p4
  conv => whnf
  refine S_Bytes (f := x5) (g := x6) (Shows.sl (N := N3) (f' := x5) rfl (by omega) (fun i hi => by simp)) (Shows.sl (N := N3) (f' := x6) rfl (by omega) (fun i hi => by simp)) (by omega) ?_
  rw [sameB_t hx5 hx6]
  conv => whnf
  refine condB_mk (fun hb => ?_) (fun hb => ?_)
  rotate_left
  · simp at hb
  conv => whnf
  refine condB_mk (fun hb => ?_) (fun hb => ?_)
  · simp at hb
  conv => whnf
  refine S_Spoil (f := x5) rfl (by omega) ?_
  conv => whnf
  refine S_Bytes (f := f) (g := f) hsI (Shows.vsl (f := f)) (by omega) ?_
  rw [sameB_t (fun _ _ => rfl) (fun _ _ => rfl)]
  conv => whnf
  refine S_Bytes (f := g) (g := g) hsP (Shows.vsl (f := g)) (by omega) ?_
  rw [sameB_t (fun _ _ => rfl) (fun _ _ => rfl)]
  conv => whnf
  refine S_wakes10 ?_
  conv => whnf

theorem S_row_BinExact (avs : List AV) (h : okVs [.sl 1 (.int .u8), .sl 1 (.int .u8), .int .i64, .int .i64, .int .i64] avs) : ∃ avs', Retold avs avs' ∧ ACall Pg F_witanlaw10_BinExact avs' [] (fun x _ => x = .bool true) := by
  obtain ⟨a, _, rfl, h1, b, _, rfl, h2, c, _, rfl, h3, d, _, rfl, h4, e, _, rfl, h5, rfl⟩ := h
  obtain ⟨n, c1, f, r1, _, _, hf⟩ := ok_bytes h1
  obtain ⟨k, c2, g, r2, _, _, hg⟩ := ok_bytes h2
  obtain ⟨v, rfl, v1, v2⟩ := ok_int h3
  obtain ⟨p, rfl, _⟩ := ok_int h4
  obtain ⟨s, rfl, _⟩ := ok_int h5
  exact ⟨_, .cons r1 (.cons r2 (.cons (Retold1.refl _) (.cons (Retold1.refl _) (.cons (Retold1.refl _) .nil)))), S_BinExact n c1 k c2 f g v p s hf ⟨v1, v2⟩⟩
end Go.Proofs.Ytdobchoiiihfiaa
