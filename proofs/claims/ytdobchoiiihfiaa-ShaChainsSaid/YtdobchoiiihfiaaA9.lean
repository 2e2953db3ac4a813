/- Operations whose outcome is open (append, a string's bytes), bytes into strings, bytes of a constant, rows of cells held against one another; no condition. -/
import Derived.Test.YtdobchoiiihfiaaA8
import Derived.Laws.AppendOwn
set_option linter.unusedVariables false
set_option linter.unusedSimpArgs false
namespace Go.Wit

def condB : Bool → Prop → Prop → Prop
  | true, p, _ => p
  | false, _, q => q

def killO (m : Mem) : Option Nat → Mem
  | none => m
  | some l => m.set l none

def appDst (es : Nat) (m : Mem) : AV → Option (Bool × Option Nat × Nat × (Nat → Nat → AV))
  | .nils => some (true, none, 0, fun _ _ => .un)
  | .sl l off len cap =>
    match m[l]? with
    | some (some blk) => bif off == 0 && blk.es == es then some (decide (len ≤ blk.n), some l, len, blk.get) else none
    | _ => none
  | .vsl _ len cap _ => bif len == 0 && cap == 0 then some (true, none, 0, fun _ _ => .un) else none
  | _ => none

def catG (n1 : Nat) (g1 g2 : Nat → Nat → AV) : Nat → Nat → AV := fun i j => pickA (Nat.blt i n1) (g1 i j) (g2 (i - n1) j)

def esOk (es : Nat) (m : Mem) (y : AV) : Bool :=
  match esS m y with
  | some e => e == es
  | none => true

def vcApp (es bytes : Nat) (m : Mem) (x y : AV) (K : AV → Mem → Prop) : Prop :=
  match appDst es m x, viewS m y with
  | some (b1, l, n1, g1), some (b2, n2, g2) =>
    condB ((b1 && b2) && (esOk es m y && (decide ((n1 + n2) * bytes ≤ 140737488355328) && decide (n1 + n2 ≤ 140737488355328))))
      (∀ cap', n1 + n2 ≤ cap' → K (.sl m.length 0 (n1 + n2) cap') (killO m l ++ [some ⟨es, n1 + n2, catG n1 g1 g2⟩])) False
  | _, _ => False

def vcBstr (m : Mem) (x : AV) (K : AV → Mem → Prop) : Prop :=
  match x with
  | .nils => K (.str .empty) m
  | .str _ => False
  | x =>
    match viewS m x, esS m x with
    | some (b, n, g), some es => condB (b && es == 1) ((∀ i, i < n → ∃ k, g i 0 = .int .u8 k) ∧ K (.str ⟨((List.range n).map fun i => byteOfA (g i 0)).toArray⟩) m) False
    | _, _ => False

def vcFrz (m : Mem) (x : AV) (K : AV → Mem → Prop) : Prop :=
  match x with
  | .sl l off len cap =>
    match m[l]? with
    | some (some blk) => condB (decide (off + len ≤ blk.n) && decide (0 < cap)) (K (.vsl blk.es len cap (fun i j => blk.get (off + i) j)) (m.set l none)) False
    | _ => False
  | _ => False

def vcSbytes (m : Mem) (x : AV) (K : AV → Mem → Prop) : Prop :=
  match x with
  | .str s => ∀ cap', s.size ≤ cap' → K (.vsl 1 s.size cap' (fun i _ => .int .u8 (s.data.getD i 0).toNat)) m
  | _ => False

def GoodK (P : Program) (C : Ctx) (m : Mem) (w : World) (L : Lay) (o : Oper) (a : Act) (K : AV → Mem → Prop) : Prop :=
  ∃ v m' r w' L', ((execOp a.eval o).run P w = .ok (.value r) w' ∨ ((execOp a.eval o).run P w = .ok .skip w' ∧ r = undef)) ∧ K v m' ∧ MRel C m' w' L' ∧
    Ext w.heap L (OO C m L) w'.heap L' (OO C m' L') ∧ VR w'.heap L' (OO C m' L') v r

section
variable {P : Program} {C : Ctx} {m : Mem} {w : World} {L : Lay} {e : Env} {a : Act} {o : Oper}

theorem condB_true {b : Bool} {p : Prop} (h : condB b p False) : b = true ∧ p := by cases b <;> simp [condB] at h ⊢; exact h

theorem oneCells_range {n es : Nat} {f : Nat → Value} (hf : ∀ k, k < n * es → (f k).oneCell' = true) : ∀ u ∈ (List.range (n * es)).map f, u.oneCell' = true := by
  intro u hu
  simp only [List.mem_map, List.mem_range] at hu
  obtain ⟨q, hq, rfl⟩ := hu
  exact hf q hq

theorem catG_lt {n1 : Nat} {g1 g2 : Nat → Nat → AV} {i j : Nat} (h : i < n1) : catG n1 g1 g2 i j = g1 i j := by unfold catG; rw [blt_true h, pickA_eq]; rfl
theorem catG_ge {n1 : Nat} {g1 g2 : Nat → Nat → AV} {i j : Nat} (h : n1 ≤ i) : catG n1 g1 g2 i j = g2 (i - n1) j := by unfold catG; rw [blt_false (by omega), pickA_eq]; rfl

/-- The cells of what is read: a function, whatever kind of row it is. -/
theorem src_cells (hR : MRel C m w L) {y : AV} {r : Value} (hv : VR w.heap L (OO C m L) y r) {n es : Nat} {g : Nat → Nat → AV} (h1 : viewS m y = some (true, n, g)) (h2 : esOk es m y = true) :
    (Builtin.lenOf r).run P w = .ok n w ∧ ∃ f : Nat → Value, (Builtin.firstCells es n r).run P w = .ok ((List.range (n * es)).map f).toArray w ∧ ∀ k, k < n * es → VR w.heap L (OO C m L) (g (k / es) (k % es)) (f k) ∧ (f k).oneCell' = true := by
  by_cases hs : ∃ s, y = .str s
  · obtain ⟨s, rfl⟩ := hs
    cases hv
    simp only [viewS, Option.some.injEq, Prod.mk.injEq, true_and] at h1
    obtain ⟨rfl, rfl⟩ := h1
    simp [esOk, esS] at h2
    subst h2
    refine ⟨rfl, fun k => .int .u8 (s.data.getD k 0).toNat, ?_, fun k hk => ⟨?_, rfl⟩⟩
    · simp only [Builtin.firstCells, Sem.run_pure, Nat.mul_one]
      have hx : (Array.map (fun b : UInt8 => Value.int IntKind.u8 (b.toNat : Int)) s.data).extract 0 s.size = Array.map (fun b : UInt8 => Value.int IntKind.u8 (b.toNat : Int)) s.data := by
        have hs : s.size = (Array.map (fun b : UInt8 => Value.int IntKind.u8 (b.toNat : Int)) s.data).size := by rw [Array.size_map]; rfl
        rw [hs, Array.extract_size]
      have hx2 : (s.extract 0 s.size) = s := by simp
      rw [hx2]
      congr 1
      apply Array.ext'
      simp only [Array.toList_map]
      apply List.ext_getElem?
      intro k
      rw [List.getElem?_map, List.getElem?_map]
      by_cases hk : k < s.data.size
      · rw [List.getElem?_range (show k < s.size from hk), Array.getElem?_toList, Array.getElem?_eq_getElem hk]
        have hk2 : k < s.size := hk
        simp [Array.getD, hk, hk2]
      · rw [List.getElem?_eq_none (by simpa using (Nat.le_of_not_lt hk)), List.getElem?_eq_none (by simpa using (show s.size ≤ k from Nat.le_of_not_lt hk))]; rfl
    · simp only [Nat.div_one]; exact .int _ _
  · by_cases hn : y = .nils
    · subst hn
      cases hv
      simp only [viewS, Option.some.injEq, Prod.mk.injEq, true_and] at h1
      obtain ⟨rfl, rfl⟩ := h1
      refine ⟨rfl, fun _ => undef, ?_, fun k hk => by simp at hk⟩
      simp [Builtin.firstCells]
    · have hes : esS m y = some es := by
        unfold esOk at h2
        cases he : esS m y with
        | some q => simp [he] at h2; rw [h2]
        | none =>
          cases y with
          | sl l off len cap =>
            cases hm : m[l]? with
            | none => simp [viewS, hm] at h1
            | some ob => cases ob with
              | none => simp [viewS, hm] at h1
              | some b => simp [esS, hm] at he
          | nils => exact absurd rfl hn
          | vsl => simp [esS] at he
          | str s => exact absurd ⟨s, rfl⟩ hs
          | _ => simp [viewS] at h1
      obtain ⟨ad, cap, rfl, hc⟩ := view_cells hR hv h1 hes (fun s h => hs ⟨s, h⟩)
      obtain ⟨f, f1, f2⟩ := cells_fun hR hc
      exact ⟨rfl, f, run_firstCells f1 n, f2⟩

theorem run_app_room {t u ty el : TypeId} {i : TypeInfo} {d : TypeDesc} (ht : P.underlying t = some (.slice el)) (hu : P.underlying u = some d) (hd : ∀ k, d ≠ .int k) (hi : P.info? el = some i) {base : Option Addr} {sLen sCap n : Nat} {x : Value} {news : Array Value}
    (hl : (Builtin.lenOf x).run P w = .ok n w) (hf : (Builtin.firstCells i.size n x).run P w = .ok news w) (hroom : sLen + n ≤ sCap) {w' : World} (hst : ∀ b, base = some b → (storeCells (b.add (sLen * i.size)) news.toList).run P w = .ok () w') (hnone : base = none → w' = w) :
    (Builtin.append_ #[t, u] ty #[.slice base sLen sCap, x]).run P w = .ok (.slice base (sLen + n) sCap) w' := by
  have hz : (match d with | .int _ => true | _ => false) = false := by cases d <;> first | rfl | exact absurd rfl (hd _)
  cases base with
  | none =>
    have := hnone rfl; subst this
    simp [Builtin.append_, run_underlying ht, run_underlying hu, sizeOf, typeInfo, hi, hz, hl, hroom, hf]
  | some b =>
    simp [Builtin.append_, run_underlying ht, run_underlying hu, sizeOf, typeInfo, hi, hz, hl, hroom, hf, hst b rfl]

theorem run_app_grow {t u ty el : TypeId} {i : TypeInfo} {z : Value} {d : TypeDesc} (ht : P.underlying t = some (.slice el)) (hu : P.underlying u = some d) (hd : ∀ k, d ≠ .int k) (hi : P.info? el = some i) (hz : i.zero = some z) {base : Option Addr} {sLen sCap n : Nat} {x : Value} {olds news : Array Value}
    (hl : (Builtin.lenOf x).run P w = .ok n w) (hfo : (Builtin.firstCells i.size sLen (.slice base sLen sCap)).run P w.drew = .ok olds w.drew) (hf : (Builtin.firstCells i.size n x).run P w.drew = .ok news w.drew) (hroom : sCap < sLen + n) (h63 : sLen + n ≤ 9223372036854775807) (hb : (sLen + n) * i.bytes ≤ 140737488355328) :
    (Builtin.append_ #[t, u] ty #[.slice base sLen sCap, x]).run P w = .ok (.slice (some ⟨w.heap.size, 0, none⟩) (sLen + n) (grownCap w (sLen + n) sCap el)) (w.drew.alloc (.cells (olds ++ news ++ Builtin.zeroCells z.cells (grownCap w (sLen + n) sCap el - (sLen + n))) el)) := by
  have hz' : (match d with | .int _ => true | _ => false) = false := by cases d <;> first | rfl | exact absurd rfl (hd _)
  have hn : ¬ (sLen + n ≤ sCap) := by omega
  have h63' : ¬ (9223372036854775807 < ((sLen : Int) + (n : Int))) := by omega
  have h48' : ¬ (281474976710656 < Builtin.nextslicecap (sLen + n) sCap * i.bytes) := by have := growslice_fits hroom hb; omega
  simp [Builtin.append_, run_underlying ht, run_underlying hu, sizeOf, typeInfo, zeroValue, hi, hz, hz', hl, hn, h63', h48', Question.forced, hf, hfo, newRow, grownCap]

theorem zeroCells_get (z : Array Value) (n k : Nat) (hk : k < n * z.size) : (Builtin.zeroCells z n)[k]? = some (z[k % z.size]!) := by
  simp [Builtin.zeroCells, hk]

theorem appDst_lt {es : Nat} {U : AV} {b : Bool} {l n : Nat} {g : Nat → Nat → AV} (h : appDst es m U = some (b, some l, n, g)) : l < m.length := by
  cases U <;> simp only [appDst, Option.some.injEq, Prod.mk.injEq, reduceCtorEq, false_and, and_false] at h
  case sl l0 off len cap =>
    split at h
    · rename_i blk hm
      cases hb : (off == 0 && blk.es == es) <;> simp [hb] at h
      obtain ⟨_, rfl, _⟩ := h
      exact lt_of_get hm
    · simp at h
  case vsl es' len cap get =>
    cases hb : (len == 0 && cap == 0) <;> simp [hb] at h

theorem app_sound (hR : MRel C m w L) (hE : ERel C e m a w L) {t u el es bytes : Nat} {x y : Operand} {x' y' : Opn} {i : TypeInfo} {z : Value} {d : TypeDesc} (ho : o.op = .call { callee := .builtin .append, args := #[x, y], argTypes := #[t, u] })
    (ht : P.underlying t = some (.slice el)) (hu : P.underlying u = some d) (hd : ∀ k, d ≠ .int k) (hi : P.info? el = some i) (hz : i.zero = some z) (hzc : z.cells.size = es) (hes : i.size = es) (hby : i.bytes = bytes) (hes0 : 0 < es)
    (hx : opnOk x x' = true) (hy : opnOk y y' = true) {K : AV → Mem → Prop} (hvc : vcApp es bytes m (x'.ev e) (y'.ev e) K) : GoodK P C m w L o a K := by
  have hx := opn_rel hE hx
  have hy := opn_rel hE hy
  generalize x'.ev e = U at hx hvc
  generalize y'.ev e = V at hy hvc
  generalize hra : a.eval x = r at hx
  generalize hrb : a.eval y = s at hy
  unfold vcApp at hvc
  split at hvc
  case h_2 => exact hvc.elim
  rename_i b1 l n1 g1 b2 n2 g2 hd1 hv2
  obtain ⟨hc, hK⟩ := condB_true hvc
  simp only [Bool.and_eq_true, decide_eq_true_eq] at hc
  obtain ⟨⟨rfl, rfl⟩, hesy, hbytes, hmax⟩ := hc
  have hexec : ∀ {v : Value} {w'}, (Builtin.append_ #[t, u] o.type #[r, s]).run P w = .ok v w' → (execOp a.eval o).run P w = .ok (.value v) w' := by
    intro n w' h
    simp [execOp, ho, resolve, invoke, builtin, hra, hrb, h]
  obtain ⟨hlen, f2, hf2, hv2'⟩ := src_cells (P := P) hR hy hv2 hesy
  have hRd : MRel C m w.drew L := hR.drawn _
  obtain ⟨_, f2d, hf2d, hv2d⟩ := src_cells (P := P) (w := w.drew) hRd hy hv2 hesy
  -- what stands in the row that is appended to
  have hdst : ∃ base sCap, r = .slice base n1 sCap ∧ n1 ≤ sCap ∧
      ((∃ f1d : Nat → Value, (Builtin.firstCells es n1 r).run P w.drew = .ok ((List.range (n1 * es)).map f1d).toArray w.drew ∧ ∀ k, k < n1 * es → VR w.heap L (OO C m L) (g1 (k / es) (k % es)) (f1d k) ∧ (f1d k).oneCell' = true)) ∧
      (sCap = 0 ∨ ∃ l0 blk le, l = some l0 ∧ m[l0]? = some (some blk) ∧ L l0 = some le ∧ blk.es = es ∧ g1 = blk.get ∧ n1 ≤ blk.n ∧ sCap ≤ le.tot ∧ base = some ⟨le.b, 0, none⟩) := by
    cases hx <;> (try (simp [appDst] at hd1; done))
    case nils =>
      simp only [appDst, Option.some.injEq, Prod.mk.injEq, true_and] at hd1
      obtain ⟨rfl, rfl, rfl⟩ := hd1
      exact ⟨none, 0, rfl, Nat.le_refl _, ⟨fun _ => undef, by simp [Builtin.firstCells], fun k hk => by simp at hk⟩, .inl rfl⟩
    case sl0 l0 off ad =>
      simp only [appDst] at hd1
      split at hd1
      case h_2 => simp at hd1
      rename_i blk hm
      cases hb : (off == 0 && blk.es == es) <;> simp [hb] at hd1
      obtain ⟨rfl, rfl, rfl⟩ := hd1
      exact ⟨some ad, 0, rfl, Nat.le_refl _, ⟨fun _ => undef, by simp [Builtin.firstCells, loadCells, loadCellsFrom], fun k hk => by simp at hk⟩, .inl rfl⟩
    case sl0n l0 off =>
      simp only [appDst] at hd1
      split at hd1
      case h_2 => simp at hd1
      rename_i blk hm
      cases hb : (off == 0 && blk.es == es) <;> simp [hb] at hd1
      obtain ⟨rfl, rfl, rfl⟩ := hd1
      exact ⟨none, 0, rfl, Nat.le_refl _, ⟨fun _ => undef, by simp [Builtin.firstCells], fun k hk => by simp at hk⟩, .inl rfl⟩
    case sl l0 off len cap le hl q1 q2 =>
      simp only [appDst] at hd1
      split at hd1
      case h_2 => simp at hd1
      rename_i blk hm
      cases hb : (off == 0 && blk.es == es) <;> simp [hb] at hd1
      obtain ⟨hle, rfl, rfl, rfl⟩ := hd1
      simp only [Bool.and_eq_true, beq_iff_eq] at hb
      obtain ⟨rfl, hbes⟩ := hb
      have hsl : VR w.drew.heap L (OO C m L) (.sl l0 0 len cap) (.slice (some ⟨le.b, 0 * le.es, none⟩) len cap) := .sl _ _ _ _ _ hl q1 q2
      have hvw : viewS m (.sl l0 0 len cap) = some (true, len, fun i j => blk.get (0 + i) j) := by simp [viewS, hm, hle]
      obtain ⟨_, f1d, g1d, g2d⟩ := src_cells (P := P) (w := w.drew) (es := es) hRd hsl hvw (by simp [esOk, esS, hm, hbes])
      refine ⟨some ⟨le.b, 0 * le.es, none⟩, cap, rfl, q1, ⟨f1d, g1d, fun k hk => by have := g2d k hk; simp only [Nat.zero_add] at this; exact this⟩, ?_⟩
      right
      exact ⟨l0, blk, le, rfl, hm, hl, hbes, rfl, hle, by omega, by simp⟩
    case vsl0 es' get ad =>
      simp [appDst] at hd1
      obtain ⟨rfl, rfl, rfl⟩ := hd1
      exact ⟨ad, 0, rfl, Nat.le_refl _, ⟨fun _ => undef, by cases ad <;> simp [Builtin.firstCells, loadCells, loadCellsFrom], fun k hk => by simp at hk⟩, .inl rfl⟩
    case vsl es' len cap get b o' vals hle hc hv =>
      simp only [appDst] at hd1
      cases hb : (len == 0 && cap == 0) <;> simp [hb] at hd1
      simp only [Bool.and_eq_true, beq_iff_eq] at hb
      obtain ⟨rfl, rfl⟩ := hb
      obtain ⟨rfl, rfl, rfl⟩ := hd1
      exact ⟨some ⟨b, o', none⟩, 0, rfl, Nat.le_refl _, ⟨fun _ => undef, by simp [Builtin.firstCells, loadCells, loadCellsFrom], fun k hk => by simp at hk⟩, .inl rfl⟩
  obtain ⟨base, sCap, rfl, hn1, ⟨f1d, hf1d, hv1d⟩, hcase⟩ := hdst
  have hkill := hR.kill
  by_cases hroom : n1 + n2 ≤ sCap
  · -- in place
    rcases hcase with rfl | ⟨l0, blk, le, rfl, hm, hl, hbes, rfl, hle, hcap, rfl⟩
    · -- nothing to be put, and no room
      have e1 : n1 = 0 := by omega
      have e2 : n2 = 0 := by omega
      subst e1 e2
      have hrun := run_app_room (P := P) (ty := o.type) ht hu hd hi (base := base) (sLen := 0) (sCap := 0) hlen (by rw [hes]; exact hf2) hroom (w' := w) (by intro b _; simp [storeCells]) (fun _ => rfl)
      have hk : MRel C (killO m l) w L ∧ Ext w.heap L (OO C m L) w.heap L (OO C (killO m l) L) := by
        cases l with
        | none => exact ⟨hR, Ext.refl _ _ _⟩
        | some l0 => exact hR.kill l0
      have hkl : (killO m l).length = m.length := by cases l <;> simp [killO]
      obtain ⟨p1, p2⟩ := hk.1.phantom es (catG 0 g1 g2)
      rw [hkl] at p1 p2
      refine ⟨_, _, .slice base 0 0, w, _, .inl (hexec (by simpa using hrun)), hK 0 (Nat.le_refl _), p1, hk.2.trans p2 (Nat.le_refl _), ?_⟩
      cases base with
      | none => exact .sl0n _ _
      | some b => exact .sl0 _ _ _
    · obtain ⟨e0, k1, k2, k5, k0⟩ := hR.blk l0 blk hm
      rw [hl] at k1; obtain rfl := Option.some.inj k1
      rcases Nat.eq_zero_or_pos le.tot with ht0 | ht0
      · have e1 : n1 = 0 := by omega
        have e2 : n2 = 0 := by omega
        have e3 : sCap = 0 := by omega
        subst e1 e2 e3
        have hrun := run_app_room (P := P) (ty := o.type) ht hu hd hi (base := some ⟨le.b, 0, none⟩) (sLen := 0) (sCap := 0) hlen (by rw [hes]; exact hf2) hroom (w' := w) (by intro b _; simp [storeCells]) (fun _ => rfl)
        have hk := hR.kill l0
        have hkl : (m.set l0 none).length = m.length := by simp
        obtain ⟨p1, p2⟩ := hk.1.phantom es (catG 0 blk.get g2)
        rw [hkl] at p1 p2
        exact ⟨_, _, .slice (some ⟨le.b, 0, none⟩) 0 0, w, _, .inl (hexec (by simpa using hrun)), hK 0 (Nat.le_refl _), p1, hk.2.trans p2 (Nat.le_refl _), .sl0 _ _ _⟩
      · obtain ⟨c, T, k3, k4, k6, k7⟩ := k0 ht0
        have hles : le.es = es := by rw [k2, hbes]
        have hin : n1 * es + n2 * es ≤ c.size := by rw [k4, hles, ← Nat.add_mul]; exact Nat.mul_le_mul_right _ (by omega)
        have hst := run_storeCells_at (P := P) le.b (n1 * es) T ((List.range (n2 * es)).map f2) 0 c w k3 (by simp; omega) (oneCells_range (fun k hk => (hv2' k hk).2))
        simp only [Nat.add_zero, List.length_map, List.length_range] at hst
        have hrun := run_app_room (P := P) (ty := o.type) ht hu hd hi (base := some ⟨le.b, 0, none⟩) (sLen := n1) (sCap := sCap) hlen (by rw [hes]; exact hf2) hroom (w' := w.setRow le.b (c.toList.take (n1 * es) ++ (List.range (n2 * es)).map f2 ++ c.toList.drop (n1 * es + n2 * es)).toArray) (by
          intro b hb; obtain rfl := Option.some.inj hb
          rw [addr_add, hes, Nat.zero_add]; exact hst) (fun h => by cases h)
        have hw := hR.write hm hl ht0 k2 k3 (c.toList.take (n1 * es) ++ (List.range (n2 * es)).map f2 ++ c.toList.drop (n1 * es + n2 * es)).toArray (by simp; omega) (n1 + n2) (by omega) (catG n1 blk.get g2) (fun i j hi hj => by
          rw [hbes] at hj ⊢
          simp only [List.getElem?_toArray]
          have hlen : ((List.range (n2 * es)).map f2).length = n2 * es := by simp
          have hsp := getElem?_splice c.toList (n1 * es) ((List.range (n2 * es)).map f2) (i * es + j) (by rw [hlen]; simp only [Array.length_toList]; exact hin)
          rw [hlen] at hsp
          rw [hsp]
          have b1 : (i + 1) * es ≤ (n1 + n2) * es := Nat.mul_le_mul_right _ hi
          rw [Nat.add_mul, Nat.add_mul] at b1
          by_cases h1 : i < n1
          · rw [catG_lt h1]
            have b2 : (i + 1) * es ≤ n1 * es := Nat.mul_le_mul_right _ h1
            rw [Nat.add_mul] at b2
            rw [if_neg (by intro hh; omega)]
            obtain ⟨v, v1, v2, v3⟩ := k7 i j (by omega) (by rw [hbes]; exact hj)
            rw [hbes] at v1
            exact ⟨v, by simpa using v1, v2, v3⟩
          · rw [catG_ge (by omega)]
            have e1 : (i - n1) * es + n1 * es = i * es := by rw [← Nat.add_mul]; congr 1; omega
            have hc1 : n1 * es ≤ i * es + j := by omega
            have hc2 : i * es + j < n1 * es + n2 * es := by omega
            rw [if_pos ⟨hc1, hc2⟩]
            have e3 : i * es + j - n1 * es = (i - n1) * es + j := by omega
            have hc3 : (i - n1) * es + j < n2 * es := by omega
            rw [e3]
            refine ⟨f2 ((i - n1) * es + j), by rw [List.getElem?_map, List.getElem?_range hc3]; rfl, ?_⟩
            have := hv2' ((i - n1) * es + j) hc3
            have d1 : ((i - n1) * es + j) / es = i - n1 := by rw [Nat.mul_comm, Nat.mul_add_div hes0, Nat.div_eq_of_lt hj]; rfl
            have d2 : ((i - n1) * es + j) % es = j := by rw [Nat.mul_comm, Nat.mul_add_mod, Nat.mod_eq_of_lt hj]
            rw [d1, d2] at this
            exact this)
        have hm' : (m.set l0 (some ⟨blk.es, n1 + n2, catG n1 blk.get g2⟩))[l0]? = some (some ⟨blk.es, n1 + n2, catG n1 blk.get g2⟩) := by
          rw [List.getElem?_set]; simp [lt_of_get hm]
        obtain ⟨p1, p2⟩ := hw.1.move hm' hl
        have e4 : (m.set l0 (some ⟨blk.es, n1 + n2, catG n1 blk.get g2⟩)).set l0 none = m.set l0 none := by simp [List.set_set]
        have e5 : (m.set l0 (some ⟨blk.es, n1 + n2, catG n1 blk.get g2⟩)).length = m.length := by simp
        rw [e4, e5, hbes] at p1 p2
        rw [hbes] at hw
        refine ⟨_, _, .slice (some ⟨le.b, 0, none⟩) (n1 + n2) sCap, _, _, .inl (hexec hrun), hK sCap hroom, p1, hw.2.trans p2 (by simp), ?_⟩
        have := VR.sl (L := L.put m.length le) (h := (w.setRow le.b (c.toList.take (n1 * es) ++ (List.range (n2 * es)).map f2 ++ c.toList.drop (n1 * es + n2 * es)).toArray).heap) (O := OO C (m.set l0 none ++ [some ⟨es, n1 + n2, catG n1 blk.get g2⟩]) (L.put m.length le)) m.length 0 (n1 + n2) sCap le (Lay.put_self _ _ _) hroom (by omega)
        rw [Nat.zero_mul] at this
        exact this
  · -- a new row
    have hrun := run_app_grow (P := P) (ty := o.type) ht hu hd hi hz (base := base) (sLen := n1) (sCap := sCap) hlen (by rw [hes]; exact hf1d) (by rw [hes]; exact hf2d) (by omega) (by omega) (by rw [hby]; exact hbytes)
    generalize hnc : grownCap w (n1 + n2) sCap el = nc at hrun
    have hge : n1 + n2 ≤ nc := by rw [← hnc]; exact grownCap_ge _ _ _ _
    have hsz : (((List.range (n1 * es)).map f1d).toArray ++ ((List.range (n2 * es)).map f2d).toArray ++ Builtin.zeroCells z.cells (nc - (n1 + n2))).size = nc * es := by
      simp only [Array.size_append, List.size_toArray, List.length_map, List.length_range, size_zeroCells, hzc]
      rw [← Nat.add_mul, ← Nat.add_mul]; congr 1; omega
    obtain ⟨p1, p2⟩ := hRd.new (((List.range (n1 * es)).map f1d).toArray ++ ((List.range (n2 * es)).map f2d).toArray ++ Builtin.zeroCells z.cells (nc - (n1 + n2))) el ⟨es, n1 + n2, catG n1 g1 g2⟩ nc hsz hge (fun i j hi hj => by
      simp only at hi hj ⊢
      have b1 : (i + 1) * es ≤ (n1 + n2) * es := Nat.mul_le_mul_right _ hi
      rw [Nat.add_mul, Nat.add_mul] at b1
      rw [Array.getElem?_append_left (by simp; omega)]
      by_cases h1 : i < n1
      · have b2 : (i + 1) * es ≤ n1 * es := Nat.mul_le_mul_right _ h1
        rw [Nat.add_mul] at b2
        have hk : i * es + j < n1 * es := by omega
        rw [catG_lt h1, Array.getElem?_append_left (by simp; omega)]
        refine ⟨f1d (i * es + j), by simp [hk], ?_⟩
        have := hv1d (i * es + j) hk
        have d1 : (i * es + j) / es = i := by rw [Nat.mul_comm, Nat.mul_add_div hes0, Nat.div_eq_of_lt hj]; rfl
        have d2 : (i * es + j) % es = j := by rw [Nat.mul_comm, Nat.mul_add_mod, Nat.mod_eq_of_lt hj]
        rw [d1, d2] at this
        exact this
      · have e1 : (i - n1) * es + n1 * es = i * es := by rw [← Nat.add_mul]; congr 1; omega
        have hc3 : (i - n1) * es + j < n2 * es := by omega
        rw [catG_ge (by omega), Array.getElem?_append_right (by simp; omega)]
        have e3 : i * es + j - ((List.range (n1 * es)).map f1d).toArray.size = (i - n1) * es + j := by simp; omega
        rw [e3]
        refine ⟨f2d ((i - n1) * es + j), by simp [hc3], ?_⟩
        have := hv2d ((i - n1) * es + j) hc3
        have d1 : ((i - n1) * es + j) / es = i - n1 := by rw [Nat.mul_comm, Nat.mul_add_div hes0, Nat.div_eq_of_lt hj]; rfl
        have d2 : ((i - n1) * es + j) % es = j := by rw [Nat.mul_comm, Nat.mul_add_mod, Nat.mod_eq_of_lt hj]
        rw [d1, d2] at this
        exact this) (w.drew.alloc (.cells (((List.range (n1 * es)).map f1d).toArray ++ ((List.range (n2 * es)).map f2d).toArray ++ Builtin.zeroCells z.cells (nc - (n1 + n2))) el)) (by rfl)
    have hk : MRel C (killO m l ++ [some ⟨es, n1 + n2, catG n1 g1 g2⟩]) (w.drew.alloc (.cells (((List.range (n1 * es)).map f1d).toArray ++ ((List.range (n2 * es)).map f2d).toArray ++ Builtin.zeroCells z.cells (nc - (n1 + n2))) el)) (L.put m.length ⟨w.drew.heap.size, es, nc⟩) ∧
        Ext (w.drew.alloc (.cells (((List.range (n1 * es)).map f1d).toArray ++ ((List.range (n2 * es)).map f2d).toArray ++ Builtin.zeroCells z.cells (nc - (n1 + n2))) el)).heap (L.put m.length ⟨w.drew.heap.size, es, nc⟩) (OO C (m ++ [some ⟨es, n1 + n2, catG n1 g1 g2⟩]) (L.put m.length ⟨w.drew.heap.size, es, nc⟩))
          (w.drew.alloc (.cells (((List.range (n1 * es)).map f1d).toArray ++ ((List.range (n2 * es)).map f2d).toArray ++ Builtin.zeroCells z.cells (nc - (n1 + n2))) el)).heap (L.put m.length ⟨w.drew.heap.size, es, nc⟩) (OO C (killO m l ++ [some ⟨es, n1 + n2, catG n1 g1 g2⟩]) (L.put m.length ⟨w.drew.heap.size, es, nc⟩)) := by
      cases l with
      | none => exact ⟨p1, Ext.refl _ _ _⟩
      | some l0 =>
        have hlt : l0 < m.length := appDst_lt hd1
        have := p1.kill l0
        have e4 : (m ++ [some (Blk.mk es (n1 + n2) (catG n1 g1 g2))]).set l0 none = m.set l0 none ++ [some (Blk.mk es (n1 + n2) (catG n1 g1 g2))] := by
          rw [List.set_append_left _ _ hlt]
        rw [e4] at this
        exact this
    refine ⟨_, _, .slice (some ⟨w.heap.size, 0, none⟩) (n1 + n2) nc, _, _, .inl (hexec hrun), hK nc hge, hk.1, (p2.trans hk.2 (by simp)), ?_⟩
    have := VR.sl (L := L.put m.length ⟨w.drew.heap.size, es, nc⟩) (h := (w.drew.alloc (.cells (((List.range (n1 * es)).map f1d).toArray ++ ((List.range (n2 * es)).map f2d).toArray ++ Builtin.zeroCells z.cells (nc - (n1 + n2))) el)).heap) (O := OO C (killO m l ++ [some ⟨es, n1 + n2, catG n1 g1 g2⟩]) (L.put m.length ⟨w.drew.heap.size, es, nc⟩)) m.length 0 (n1 + n2) nc ⟨w.drew.heap.size, es, nc⟩ (Lay.put_self _ _ _) hge (by simp)
    rw [Nat.zero_mul] at this
    exact this


theorem bstr_sound (hR : MRel C m w L) (hE : ERel C e m a w L) {t t2 el : Nat} {x : Operand} {x' : Opn} (ho : o.op = .convert t t2 x) (ht : P.underlying t = some (.slice el)) (he : P.underlying el = some (.int .u8)) (hd : P.underlying t2 = some .string)
    (hx : opnOk x x' = true) {K : AV → Mem → Prop} (hvc : vcBstr m (x'.ev e) K) : GoodK P C m w L o a K := by
  have hx := opn_rel hE hx
  generalize x'.ev e = U at hx hvc
  generalize hra : a.eval x = r at hx
  have hexec : ∀ {v : Value}, (convert t t2 r).run P w = .ok v w → (execOp a.eval o).run P w = .ok (.value v) w := by
    intro v h
    simp [execOp, ho, hra, h]
  by_cases hn : U = .nils
  · subst hn
    cases hx
    exact ⟨.str .empty, m, _, w, L, .inl (hexec (run_convert_bytes_nil w t el ht he 0 0 t2 hd)), hvc, hR, Ext.refl _ _ _, .str _⟩
  · by_cases hs : ∃ s, U = .str s
    · obtain ⟨s, rfl⟩ := hs; exact hvc.elim
    · have hvc' : (match viewS m U, esS m U with
        | some (b, n, g), some es => condB (b && es == 1) ((∀ i, i < n → ∃ k, g i 0 = .int .u8 k) ∧ K (.str ⟨((List.range n).map fun i => byteOfA (g i 0)).toArray⟩) m) False
        | _, _ => False) := by
        cases U <;> first | exact hvc | exact absurd rfl hn | exact absurd ⟨_, rfl⟩ hs
      split at hvc'
      case h_2 => exact hvc'.elim
      rename_i b n g es h1 h2
      obtain ⟨hb, hg, hK⟩ := condB_true hvc'
      simp only [Bool.and_eq_true, beq_iff_eq] at hb
      obtain ⟨rfl, rfl⟩ := hb
      obtain ⟨ad, cap, rfl, hc⟩ := view_cells hR hx h1 h2 (fun s h => hs ⟨s, h⟩)
      have hnum : ∀ i, i < n → ∃ k, g i 0 = .int .u8 k := hg
      have hxs : ∀ i, i < n → (g i 0 = .int .u8 (match g i 0 with | .int _ k => k | _ => 0)) := by
        intro i hi
        obtain ⟨k, hk⟩ := hg i hi
        rw [hk]
      generalize hxl : (List.range n).map (fun i => match g i 0 with | .int _ k => k | _ => (0 : Int)) = xs
      have hres : (⟨((List.range n).map fun i => byteOfA (g i 0)).toArray⟩ : ByteArray) = strOfNums xs := by
        have : (strOfNums xs).data.toList = ((List.range n).map fun i => byteOfA (g i 0)) := by
          rw [strOfNums_data, ← hxl, List.map_map]
          apply List.map_congr_left
          intro i hi
          obtain ⟨k, hk⟩ := hg i (by simpa using hi)
          simp [hk, byteOfA]
        rw [← this]
      rw [hres] at hK
      have hl : xs.length = n := by rw [← hxl]; simp
      rcases Nat.eq_zero_or_pos n with h0 | h0
      · subst h0
        have hxe : xs = [] := List.eq_nil_of_length_eq_zero hl
        subst hxe
        cases ad with
        | none =>
          refine ⟨.str (strOfNums []), m, _, w, L, .inl (hexec (run_convert_bytes_nil w t el ht he 0 cap t2 hd)), hK, hR, Ext.refl _ _ _, ?_⟩
          exact .str _
        | some ad =>
          have hr : (convert t t2 (.slice (some ad) 0 cap)).run P w = .ok (.string (strOfNums [])) w := by
            rw [run_convert_bytes_string w t t2 el _ 0 cap ht he hd, run_bytesToString w ad 0 cap [] (by simp [loadCells, loadCellsFrom])]
            rfl
          exact ⟨.str (strOfNums []), m, _, w, L, .inl (hexec hr), hK, hR, Ext.refl _ _ _, .str _⟩
      · obtain ⟨b, o', rfl, hcc⟩ := hc (by omega)
        have hr := run_convert_bytes_arg (P := P) w t el ht he b o' n cap xs hl (fun i hi => by
          obtain ⟨v, v1, v2, _⟩ := hcc i (by omega)
          rw [v1]
          congr 1
          have : (g (i / 1) (i % 1)) = .int .u8 (xs.getD i 0) := by
            rw [Nat.div_one, Nat.mod_one, hxs i hi, ← hxl]
            simp [List.getD, hi]
          rw [this] at v2
          cases v2; rfl) t2 hd
        exact ⟨.str (strOfNums xs), m, _, w, L, .inl (hexec hr), hK, hR, Ext.refl _ _ _, .str _⟩

theorem freeze_heap (w : World) (b n : Nat) (c : Array Value) (T : TypeId) (h : w.heap[b]? = some (.cells c T (0, 0))) :
    (w.freeze ⟨b, n, none⟩ 1).heap[b]? = some (.cells c T (n, n + 1)) ∧ (∀ k, k ≠ b → (w.freeze ⟨b, n, none⟩ 1).heap[k]? = w.heap[k]?) ∧ (w.freeze ⟨b, n, none⟩ 1).heap.size = w.heap.size ∧
    (w.freeze ⟨b, n, none⟩ 1).os = w.os ∧ (w.freeze ⟨b, n, none⟩ 1).tape = w.tape ∧ (w.freeze ⟨b, n, none⟩ 1).output = w.output := by
  unfold World.freeze
  simp only [Nat.one_ne_zero, if_false]
  refine ⟨?_, ?_, ?_, ?_, ?_, ?_⟩
  · simp [Array.getElem?_modify, h]
  · intro k hk
    simp [Array.getElem?_modify, Ne.symm hk]
  · simp
  · trivial
  · trivial
  · trivial

theorem run_markStringish (w : World) (b o n : Nat) (c : Array Value) (T : TypeId) (h : w.heap[b]? = some (.cells c T (0, 0))) : (markStringish ⟨b, o, none⟩).run P w = .ok () (w.freeze ⟨b, c.size, none⟩ 1) := by
  have : w.shape? b = some (T, c.size) := by simp [World.shape?, h]
  simp [markStringish, this]

theorem frz_sound (hR : MRel C m w L) (hE : ERel C e m a w L) {t el : Nat} {x : Operand} {x' : Opn} (ho : o.op = .convert t t x) (ht : P.underlying t = some (.slice el)) (he : P.underlying el = some (.int .u8))
    (hx : opnOk x x' = true) {K : AV → Mem → Prop} (hvc : vcFrz m (x'.ev e) K) : GoodK P C m w L o a K := by
  have hx := opn_rel hE hx
  generalize x'.ev e = U at hx hvc
  generalize hra : a.eval x = r at hx
  cases U <;> (try exact False.elim hvc)
  rename_i l off len cap
  simp only [vcFrz] at hvc
  split at hvc
  case h_2 => exact hvc.elim
  rename_i blk hm
  obtain ⟨hb, hK⟩ := condB_true hvc
  simp only [Bool.and_eq_true, decide_eq_true_eq] at hb
  obtain ⟨hle, hcap⟩ := hb
  cases hx with
  | sl0 => omega
  | sl0n => omega
  | sl _ _ _ _ le hl g1 g2 =>
    obtain ⟨e0, k1, k2, k5, k0⟩ := hR.blk l blk hm
    rw [hl] at k1; obtain rfl := Option.some.inj k1
    obtain ⟨c, T, k3, k4, k6, k7⟩ := k0 (by omega)
    obtain ⟨f1, f2, f3, f4, f5, f6⟩ := freeze_heap w le.b c.size c T k3
    have hrun : (convert t t (.slice (some ⟨le.b, off * le.es, none⟩) len cap)).run P w = .ok (.slice (some ⟨le.b, off * le.es, none⟩) len cap) (w.freeze ⟨le.b, c.size, none⟩ 1) := by
      have hms := run_markStringish (P := P) w le.b (off * le.es) c.size c T k3
      simp only [convert, Sem.run_bind, run_underlying ht, Result.andThen_ok, run_underlying he, beq_self_eq_true, hms, Sem.run_pure]
    obtain ⟨q1, q2⟩ := hR.kill l
    have hown : own m L le.b := ⟨l, blk, le, hm, hl, by omega, rfl⟩
    have hnown : ¬ OO C (m.set l none) L le.b := by
      rintro (h | ⟨k, bk, e', h1, h2, h4, h3⟩)
      · exact hR.notX _ hown h
      · obtain ⟨n1, n2⟩ := get_set_none h1
        exact n1 (hR.inj k l bk blk e' le n2 hm h2 hl h4 (by omega) h3)
    have hx2 : Ext w.heap L (OO C m L) (w.freeze ⟨le.b, c.size, none⟩ 1).heap L (OO C (m.set l none) L) :=
      ⟨fun _ _ h => h, fun b hb hO => f2 b (fun h => hO (.inr (h ▸ hown))), q2.own⟩
    refine ⟨_, m.set l none, .slice (some ⟨le.b, off * le.es, none⟩) len cap, _, L, .inl (by simp [execOp, ho, hra, hrun]), hK, ?_, hx2, ?_⟩
    · refine ⟨by rw [f4]; exact hR.os, by rw [f5]; exact hR.tape, by rw [f6]; exact hR.output, by rw [f3]; exact hR.size, ?_, q1.lay, ?_, q1.inj, q1.base, hR.xlt, q1.notX⟩
      · intro b hb hO
        by_cases hbe : b = le.b
        · subst hbe
          rcases k6 with k6 | k6
          · omega
          · exact absurd k6 hO
        · rw [f2 b hbe]; exact hR.frame b hb hO
      · intro k bk h
        obtain ⟨n1, n2⟩ := get_set_none h
        obtain ⟨e1, p1, p2, p5, p0⟩ := hR.blk k bk n2
        refine ⟨e1, p1, p2, p5, fun htp => ?_⟩
        obtain ⟨c1, T1, p3, p4, p6, p7⟩ := p0 htp
        have hne : e1.b ≠ le.b := fun hh => n1 (hR.inj k l bk blk e1 le n2 hm p1 hl htp (by omega) hh)
        refine ⟨c1, T1, by rw [f2 _ hne]; exact p3, p4, p6, fun i j hi hj => ?_⟩
        obtain ⟨v, h1, h2, h3⟩ := p7 i j hi hj
        exact ⟨v, h1, h2.ext hx2, h3⟩
    · have hcells : ∀ i j, ∃ v, i < len → j < blk.es → c[(off + i) * blk.es + j]? = some v ∧ VR w.heap L (OO C m L) (blk.get (off + i) j) v ∧ v.oneCell' = true := by
        intro i j
        by_cases hi : i < len
        · by_cases hj : j < blk.es
          · obtain ⟨v, hv⟩ := k7 (off + i) j (by omega) hj; exact ⟨v, fun _ _ => hv⟩
          · exact ⟨undef, fun _ h => absurd h hj⟩
        · exact ⟨undef, fun h => absurd h hi⟩
      refine .vsl blk.es len cap _ le.b (off * le.es) (fun i j => (hcells i j).choose) g1 (fun i j hi hj => ?_) (fun i j hi hj => ((hcells i j).choose_spec hi hj).2.1.ext hx2)
      have hh := (hcells i j).choose_spec hi hj
      refine ⟨hnown, ?_, hh.2.2⟩
      unfold cellAt
      rw [f1]
      have e1 : off * le.es + (i * blk.es + j) = (off + i) * blk.es + j := by rw [k2, Nat.add_mul]; omega
      simp only [e1]
      exact hh.1

theorem sbytes_sound (hR : MRel C m w L) (hE : ERel C e m a w L) {t t2 el : Nat} {x : Operand} {x' : Opn} (ho : o.op = .convert t t2 x) (ht : P.underlying t = some .string) (hd : P.underlying t2 = some (.slice el)) (he : P.underlying el = some (.int .u8))
    (hx : opnOk x x' = true) {K : AV → Mem → Prop} (hvc : vcSbytes m (x'.ev e) K) : GoodK P C m w L o a K := by
  have hx := opn_rel hE hx
  generalize x'.ev e = U at hx hvc
  generalize hra : a.eval x = r at hx
  cases hx <;> (try exact False.elim hvc)
  rename_i s
  simp only [vcSbytes] at hvc
  generalize hnc : grownCap w s.size 0 el = nc
  have hge : s.size ≤ nc := by rw [← hnc]; exact grownCap_ge _ _ _ _
  generalize hcs : (s.data.map (fun b => Value.int .u8 b.toNat) ++ Array.replicate (nc - s.size) (Value.int .u8 0) : Array Value) = c
  have hnew : (w.drew.alloc (.cells c el)).heap[w.heap.size]? = some (.cells c el (0, 0)) := heap_alloc_new w.drew _
  obtain ⟨f1, f2, f3, f4, f5, f6⟩ := freeze_heap (w.drew.alloc (.cells c el)) w.heap.size c.size c el hnew
  have hrun : (convert t t2 (.string s)).run P w = .ok (.slice (some ⟨w.heap.size, 0, none⟩) s.size nc) ((w.drew.alloc (.cells c el)).freeze ⟨w.heap.size, c.size, none⟩ 1) := by
    have hms := run_markStringish (P := P) (w.drew.alloc (.cells c el)) w.heap.size 0 c.size c el hnew
    have hch : (choose (.appendCap s.size 0 el)).run P w = .ok nc w.drew := by
      rw [run_choose]; simp [Question.forced]; rw [← hnc]; rfl
    simp only [convert, Sem.run_bind, run_underlying ht, run_underlying hd, Result.andThen_ok, run_underlying he, Conv.stringToBytes, hch, newRow, run_newObj, Sem.run_pure, hcs]
    simp only [markStringish] at hms
    simp only [markStringish]
    erw [hms]
    rfl
  have hw' : ((w.drew.alloc (.cells c el)).freeze ⟨w.heap.size, c.size, none⟩ 1) = { w with heap := w.heap.push (.cells c el (c.size, c.size + 1)), drawn := ((w.drew.alloc (.cells c el)).freeze ⟨w.heap.size, c.size, none⟩ 1).drawn } := by
    have hh : ((w.drew.alloc (.cells c el)).freeze ⟨w.heap.size, c.size, none⟩ 1).heap = w.heap.push (.cells c el (c.size, c.size + 1)) := by
      apply Array.ext_getElem?
      intro k
      by_cases hk : k = w.heap.size
      · subst hk; rw [f1]; simp
      · rw [f2 k hk]
        show (w.heap.push _)[k]? = _
        rw [Array.getElem?_push, Array.getElem?_push]
        simp [hk]
    rw [← hh]; rfl
  obtain ⟨p1, p2⟩ := hR.push (.cells c el (c.size, c.size + 1)) _ hw'
  refine ⟨_, m, .slice (some ⟨w.heap.size, 0, none⟩) s.size nc, _, L, .inl (by simp [execOp, ho, hra, hrun]), hvc nc hge, p1, p2, ?_⟩
  refine .vsl 1 s.size nc _ w.heap.size 0 (fun i _ => .int .u8 (s.data.getD i 0).toNat) hge (fun i j hi hj => ⟨?_, ?_, rfl⟩) (fun i j hi hj => .int _ _)
  · rintro (h | ⟨k, bk, e', h1, h2, h4, h3⟩)
    · have := hR.xlt _ h; have := hR.size; omega
    · obtain ⟨e1, q1, q2, q5, q0⟩ := hR.blk k bk h1
      rw [h2] at q1; obtain rfl := Option.some.inj q1
      obtain ⟨c1, T1, q3, _⟩ := q0 h4
      have := (Array.getElem?_eq_some_iff.1 q3).1
      omega
  · have : j = 0 := by omega
    subst this
    unfold cellAt
    rw [f1]
    have hlt : i < s.data.size := hi
    simp only [Nat.zero_add, Nat.mul_one, Nat.add_zero, ← hcs]
    rw [Array.getElem?_append_left (by simpa using hlt)]
    have hlt2 : i < s.size := hlt
    simp [Array.getD, hlt, hlt2]

end
end Go.Wit
