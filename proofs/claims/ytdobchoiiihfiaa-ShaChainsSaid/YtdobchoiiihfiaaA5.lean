/- Each told operation does what is told of it (third part: stores, addresses, parts, slices of what is there); no condition. -/
import Derived.Test.YtdobchoiiihfiaaA4
set_option linter.unusedVariables false
set_option linter.unusedSimpArgs false
namespace Go.Wit
section
variable {P : Program} {C : Ctx} {m : Mem} {w : World} {L : Lay} {e : Env} {a : Act} {o : Oper}

theorem blt_true {a b : Nat} (h : a < b) : Nat.blt a b = true := by simpa [Nat.blt_eq] using h

theorem upd_lt {m : Mem} {l : Nat} {b blk : Blk} (h : m[l]? = some (some blk)) : m.upd (some (l, b)) = m.set l (some b) := by
  have : l < m.length := by
    rcases Nat.lt_or_ge l m.length with h1 | h1
    · exact h1
    · rw [List.getElem?_eq_none h1] at h; cases h
  simp [Mem.upd, blt_true this]

theorem blt_false {a b : Nat} (h : ¬ a < b) : Nat.blt a b = false := by
  cases hq : Nat.blt a b with
  | false => rfl
  | true => exact absurd (by simpa [Nat.blt_eq] using hq) h
theorem ble_false {a b : Nat} (h : ¬ a ≤ b) : Nat.ble a b = false := by
  cases hq : Nat.ble a b with
  | false => rfl
  | true => exact absurd (Nat.le_of_ble_eq_true hq) h

/-- What a store makes of the cells of a block, place by place. -/
theorem updG_spec {blk : Blk} {i j sz : Nat} {vs : List AV} (h : roomG blk i j sz = true) {i' j' : Nat} (hj' : j' < blk.es) :
    updG blk i j sz vs i' j' = if i * blk.es + j ≤ i' * blk.es + j' ∧ i' * blk.es + j' < i * blk.es + j + sz then vs.getD (i' * blk.es + j' - (i * blk.es + j)) .un else blk.get i' j' := by
  unfold updG
  by_cases hb : j + sz ≤ blk.es
  · rw [Nat.ble_eq_true_of_le hb, cond_true, pickA_eq]
    by_cases he : i' = i
    · subst he
      have e1 : (i' * blk.es + j ≤ i' * blk.es + j' ∧ i' * blk.es + j' < i' * blk.es + j + sz) ↔ (j ≤ j' ∧ j' < j + sz) := by omega
      have e2 : i' * blk.es + j' - (i' * blk.es + j) = j' - j := by omega
      simp only [e1, e2, beq_self_eq_true, Bool.true_and]
      by_cases h1 : j ≤ j' ∧ j' < j + sz
      · rw [if_pos h1, Nat.ble_eq_true_of_le h1.1, blt_true h1.2]; rfl
      · rw [if_neg h1]
        by_cases h2 : j ≤ j'
        · rw [blt_false (show ¬ j' < j + sz by omega)]; simp
        · rw [ble_false h2]; simp
    · have : (i' == i) = false := by simpa using he
      rw [this]
      simp only [Bool.false_and, cond_false]
      rw [if_neg]
      intro hh
      rcases Nat.lt_or_gt_of_ne he with h1 | h1
      · have := Nat.mul_le_mul_right blk.es (show i' + 1 ≤ i by omega)
        rw [Nat.add_mul] at this; omega
      · have := Nat.mul_le_mul_right blk.es (show i + 1 ≤ i' by omega)
        rw [Nat.add_mul] at this; omega
  · rw [ble_false hb, cond_false, pickA_eq]
    by_cases h1 : i * blk.es + j ≤ i' * blk.es + j' ∧ i' * blk.es + j' < i * blk.es + j + sz
    · rw [if_pos h1, Nat.ble_eq_true_of_le h1.1, blt_true h1.2]; rfl
    · rw [if_neg h1]
      by_cases h2 : i * blk.es + j ≤ i' * blk.es + j'
      · rw [blt_false (show ¬ i' * blk.es + j' < i * blk.es + j + sz by omega)]; simp
      · rw [ble_false h2]; simp

theorem roomG_flat {blk : Blk} {i j sz : Nat} (h : roomG blk i j sz = true) : i * blk.es + j + sz ≤ blk.n * blk.es := by
  unfold roomG at h
  by_cases hb : j + sz ≤ blk.es
  · rw [Nat.ble_eq_true_of_le hb] at h
    simp at h
    have := Nat.mul_le_mul_right blk.es (show i + 1 ≤ blk.n by omega)
    rw [Nat.add_mul] at this; omega
  · rw [ble_false hb] at h
    simp at h; exact h.2

theorem getElem?_splice (c : List Value) (o : Nat) (vs : List Value) (k : Nat) (h : o + vs.length ≤ c.length) : (c.take o ++ vs ++ c.drop (o + vs.length))[k]? = if o ≤ k ∧ k < o + vs.length then vs[k - o]? else c[k]? := by
  by_cases h1 : k < o
  · rw [List.append_assoc, List.getElem?_append_left (by simp; omega), List.getElem?_take, if_pos h1, if_neg (by omega)]
  · by_cases h2 : k < o + vs.length
    · rw [List.getElem?_append_left (by simp; omega), List.getElem?_append_right (by simp; omega), if_pos ⟨by omega, h2⟩]
      congr 1
      simp; omega
    · rw [List.getElem?_append_right (by simp; omega), List.getElem?_drop, if_neg (by omega)]
      congr 1
      simp; omega

theorem g_store (hR : MRel C m w L) (hE : ERel C e m a w L) {t sz : Nat} {x y : Operand} {x' y' : Opn} (ho : o.op = .store t x y) (hs : szB P t sz = true) (hx : opnOk x x' = true) (hy : opnOk y y' = true) {out : Out} (hev : evD (.store sz x' y') e m = some out) (hok : out.ok = true) : Good P C m w L o a out := by
  have hx := opn_rel hE hx
  have hy := opn_rel hE hy
  simp only [evD] at hev
  generalize x'.ev e = u at hx hev
  generalize y'.ev e = v at hy hev
  generalize hra : a.eval x = r at hx
  generalize hrb : a.eval y = s at hy
  cases hx <;> (try (simp [storeV] at hev; done))
  rename_i l i j le hl
  simp only [storeV] at hev
  cases hm : m[l]? with
  | none => simp [hm] at hev
  | some ob =>
    cases ob with
    | none => simp [hm] at hev
    | some blk =>
      simp only [hm] at hev
      cases hc : hasCells v sz with
      | false => simp [hc] at hev
      | true =>
        simp only [hc, cond_true, Option.some.injEq] at hev
        subst hev
        simp only at hok
        obtain ⟨e0, g1, g2, g5, g0⟩ := hR.blk l blk hm
        rw [hl] at g1; obtain rfl := Option.some.inj g1
        have hnp : 0 < blk.n := by
          unfold roomG at hok
          by_cases hb : j + sz ≤ blk.es
          · rw [Nat.ble_eq_true_of_le hb] at hok; simp at hok; omega
          · rw [ble_false hb] at hok; simp at hok
            rcases Nat.eq_zero_or_pos blk.n with h0 | h0
            · rw [h0] at hok; omega
            · exact h0
        obtain ⟨c, T, g3, g4, g6, g7⟩ := g0 (by omega)
        obtain ⟨v1, v2, v3⟩ := hy.cells hc
        have hflat := roomG_flat hok
        have htot : blk.n * blk.es ≤ c.size := by rw [g4, g2]; exact Nat.mul_le_mul_right _ g5
        have hlen : s.cells.toList.length = sz := by simpa using v2
        have hrun := run_storeCells_at (P := P) le.b (i * le.es + j) T s.cells.toList 0 c w g3 (by rw [hlen, g2]; omega) v3
        have hres : (execOp a.eval o).run P w = .ok .skip (w.setRow le.b (c.toList.take (i * le.es + j) ++ s.cells.toList ++ c.toList.drop (i * le.es + j + s.cells.toList.length)).toArray) := by
          have hsz : s.cells.size = sz := v2
          simp only [execOp, ho, hra, hrb, Instr.storeAt, Instr.sureAddr, storeVar, Sem.run_bind, Sem.run_pure, Result.andThen_ok, run_size w hs, hsz, ne_eq, not_true_eq_false, if_false, Sem.run_ite]
          simp only [Nat.add_zero] at hrun
          rw [hrun]; rfl
        have hw := hR.write hm hl (by omega) g2 g3 (c.toList.take (i * le.es + j) ++ s.cells.toList ++ c.toList.drop (i * le.es + j + s.cells.toList.length)).toArray
          (by simp [hlen]; rw [g2]; omega) blk.n g5 (updG blk i j sz (cellsOf v)) (by
            intro i' j' hi hj
            rw [updG_spec hok hj, g2]
            simp only [List.getElem?_toArray]
            rw [getElem?_splice _ _ _ _ (by rw [hlen]; simp; omega), hlen]
            by_cases hin : i * blk.es + j ≤ i' * blk.es + j' ∧ i' * blk.es + j' < i * blk.es + j + sz
            · rw [if_pos hin, if_pos hin]
              obtain ⟨q, q1, q2⟩ := v1.get (i' * blk.es + j' - (i * blk.es + j)) (by
                have : (cellsOf v).length = sz := by simp [hasCells] at hc; exact hc.1
                rw [this]; omega)
              exact ⟨q, q1, q2, v3 q (List.mem_of_getElem? q1)⟩
            · rw [if_neg hin, if_neg hin]
              obtain ⟨q, q1, q2, q3⟩ := g7 i' j' hi hj
              exact ⟨q, by simpa using q1, q2, q3⟩)
        refine ⟨undef, _, L, .inr ⟨hres, rfl⟩, ?_, ?_, .un _, fun h => by simp at h⟩
        · rw [upd_lt hm]; exact hw.1
        · rw [upd_lt hm]; exact hw.2

def fieldB (P : Program) (s f off : Nat) : Bool :=
  match P.underlying s with
  | some (.struct fs) => match fs[f]? with
    | some fd => fd.offset == off && (match P.info? fd.type with | some i => !(i.size == 0) | none => false)
    | none => false
  | _ => false

theorem g_fldA (hR : MRel C m w L) (hE : ERel C e m a w L) {s f off : Nat} {x : Operand} {x' : Opn} (ho : o.op = .fieldAddr s x f) (hf : fieldB P s f off = true) (hx : opnOk x x' = true) {out : Out} (hev : evD (.fldA off x') e m = some out) : Good P C m w L o a out := by
  have hx := opn_rel hE hx
  simp only [evD] at hev
  generalize x'.ev e = u at hx hev
  generalize hra : a.eval x = r at hx
  unfold fieldB at hf
  split at hf
  · rename_i fs hu
    split at hf
    · rename_i fd hfd
      simp only [Bool.and_eq_true, beq_iff_eq] at hf
      obtain ⟨hoff, hsz⟩ := hf
      split at hsz
      · rename_i inf hinf
        have hsz' : ¬ inf.size = 0 := by simpa using hsz
        have hrun : ∀ ad : Addr, r = .pointer (some ad) → (execOp a.eval o).run P w = .ok (.value (.pointer (some (ad.add off)))) w := by
          intro ad hr
          simp [execOp, ho, hra, hr, Instr.fieldAt, run_underlying hu, hfd, Instr.sureAddr, fieldPlace, sizeOf, typeInfo, hinf, hsz', hoff]
        cases hx <;> simp [fldAV, Wit.out] at hev <;> subst hev
        · rename_i l i j le hl
          refine good_pure hR (hrun _ rfl) ?_
          rw [addr_add, Nat.add_assoc]; exact .ptr _ _ _ _ hl
        · rename_i n get j b o' vals hc hv
          refine good_pure hR (hrun _ rfl) ?_
          rw [addr_add, Nat.add_assoc]; exact .vptr _ _ _ _ _ _ hc hv
      · simp at hsz
    · simp at hf
  · simp at hf

theorem part_run {t sz off : Nat} {ag : Bool} (ha : aggB P t = some ag) (hs : szB P t sz = true) {h : Array Obj} {L : Lay} {O : Nat → Prop} {cs : List AV} {c : Array Value} (hv : VRs h L O cs c.toList) {out : Out} (hev : partV sz ag cs off = some out) (hok : out.ok = true) :
    ∃ r, (part t c off).run P w = .ok r w ∧ VR h L O out.v r ∧ out.u = none := by
  have hl := hv.length
  unfold partV at hev
  unfold part
  cases ag with
  | true =>
    simp only [cond_true, outIf, Option.some.injEq] at hev
    subst hev
    have hle := Nat.le_of_ble_eq_true hok
    refine ⟨.agg (c.extract off (off + sz)), ?_, ?_, rfl⟩
    · simp [run_isAgg w ha, run_size w hs]
    · refine .agg _ _ (VRs.of_get (by simp at hl ⊢; omega) (fun i d hd => ?_))
      have : (c.extract off (off + sz)).toList = (c.toList.drop off).take sz := by simp
      rw [this, List.getElem?_take] at hd
      split at hd
      · rename_i hi
        rw [List.getElem?_drop] at hd
        obtain ⟨q, q1, q2⟩ := hv.get (off + i) (by omega)
        rw [q1] at hd; obtain rfl := Option.some.inj hd
        simp only [List.getD, List.getElem?_take, if_pos hi, List.getElem?_drop]
        simpa [List.getD] using q2
      · cases hd
  | false =>
    simp only [cond_false, outIf, Option.some.injEq] at hev
    subst hev
    have hlt : off < cs.length := by simpa [Nat.blt_eq] using hok
    obtain ⟨q, q1, q2⟩ := hv.get off hlt
    refine ⟨q, ?_, q2, rfl⟩
    have : c[off]? = some q := by simpa using q1
    simp [run_isAgg w ha, this]

theorem g_fld (hR : MRel C m w L) (hE : ERel C e m a w L) {s f off sz : Nat} {ag : Bool} {x : Operand} {x' : Opn} (ho : o.op = .field s x f) {fs : Array Field} {fd : Field} (hu : P.underlying s = some (.struct fs)) (hfd : fs[f]? = some fd) (hoff : fd.offset = off) (ha : aggB P fd.type = some ag) (hs : szB P fd.type sz = true) (hx : opnOk x x' = true) {out : Out} (hev : evD (.fld off sz ag x') e m = some out) (hok : out.ok = true) : Good P C m w L o a out := by
  have hx := opn_rel hE hx
  simp only [evD] at hev
  generalize x'.ev e = u at hx hev
  generalize hra : a.eval x = r at hx
  cases hx <;> (try (simp at hev; done))
  rename_i cs c hv
  simp only at hev
  obtain ⟨r, h1, h2, h3⟩ := part_run (w := w) ha hs hv hev hok
  have hrun : (execOp a.eval o).run P w = .ok (.value r) w := by
    simp [execOp, ho, hra, Instr.field, run_underlying hu, hfd, asAgg, hoff, h1]
  refine ⟨r, w, L, .inl hrun, ?_, ?_, ?_, fun _ => ⟨rfl, rfl, hrun⟩⟩
  · rw [h3]; exact hR
  · rw [h3]; exact Ext.refl _ _ _
  · rw [h3]; exact h2

theorem toNat_lt {n : Int} {k : Nat} (h0 : 0 ≤ n) (h : n < (k : Int)) : n.toNat < k := by omega

theorem g_idxA (hR : MRel C m w L) (hE : ERel C e m a w L) {t el es : Nat} {x y : Operand} {x' y' : Opn} (ho : o.op = .indexAddr t x y) (ht : P.underlying t = some (.slice el)) (hs : szB P el es = true) (hx : opnOk x x' = true) (hy : opnOk y y' = true) {out : Out} (hev : evD (.idxA es x' y') e m = some out) (hok : out.ok = true) : Good P C m w L o a out := by
  have hx := opn_rel hE hx
  have hy := opn_rel hE hy
  simp only [evD] at hev
  generalize x'.ev e = u at hx hev
  generalize y'.ev e = v at hy hev
  generalize hra : a.eval x = r at hx
  generalize hrb : a.eval y = s at hy
  cases hy <;> (try (cases hx <;> simp [idxAV] at hev; done))
  rename_i k n
  have hrun : ∀ (ad : Addr) (len cap : Nat), r = .slice (some ad) len cap → 0 ≤ n → n < (len : Int) → (execOp a.eval o).run P w = .ok (.value (.pointer (some (ad.add (n.toNat * es))))) w := by
    intro ad len cap hr h0 h1
    simp [execOp, ho, hra, hrb, hr, Instr.indexAt, asIntOf, run_underlying ht, h0, h1, run_size w hs]
  cases hx <;> (try (simp [idxAV] at hev; done))
  case sl0 l off ad =>
    simp only [idxAV] at hev
    split at hev
    · rename_i blk hm
      cases hb : blk.es == es <;> simp only [hb, cond_true, cond_false, outIf, Option.some.injEq, reduceCtorEq] at hev
      subst hev
      simp at hok; omega
    · simp at hev
  case sl0n l off =>
    simp only [idxAV] at hev
    split at hev
    · rename_i blk hm
      cases hb : blk.es == es <;> simp only [hb, cond_true, cond_false, outIf, Option.some.injEq, reduceCtorEq] at hev
      subst hev
      simp at hok; omega
    · simp at hev
  case sl l off len cap le hl h1 h2 =>
    simp only [idxAV] at hev
    split at hev
    · rename_i blk hm
      cases hb : blk.es == es <;> simp only [hb, cond_true, cond_false, outIf, Option.some.injEq, reduceCtorEq] at hev
      subst hev
      simp only [Bool.and_eq_true, decide_eq_true_eq] at hok
      refine good_pure hR (hrun _ _ _ rfl hok.1 hok.2) ?_
      obtain ⟨e0, g1, g2, g5, g0⟩ := hR.blk l blk hm
      rw [hl] at g1; obtain rfl := Option.some.inj g1
      have hes : le.es = es := by rw [g2]; simpa using hb
      rw [addr_add]
      have : off * le.es + n.toNat * es = (off + n.toNat) * le.es + 0 := by rw [hes, Nat.add_mul, Nat.add_zero]
      rw [this]
      exact .ptr _ _ _ _ hl
    · simp at hev
  case vsl0 es' get ad =>
    simp only [idxAV] at hev
    cases hb : es' == es <;> simp only [hb, cond_true, cond_false, outIf, Option.some.injEq, reduceCtorEq] at hev
    subst hev
    simp at hok; omega
  case vsl es' len cap get b o' vals hle hc hv =>
    simp only [idxAV] at hev
    cases hb : es' == es <;> simp only [hb, cond_true, cond_false, outIf, Option.some.injEq, reduceCtorEq] at hev
    subst hev
    simp only [Bool.and_eq_true, decide_eq_true_eq] at hok
    obtain rfl : es' = es := by simpa using hb
    refine good_pure hR (hrun _ _ _ rfl hok.1 hok.2) ?_
    rw [addr_add]
    have hn := toNat_lt hok.1 hok.2
    refine .vptr es' (get n.toNat) 0 b (o' + n.toNat * es') (vals n.toNat) (fun t ht => ?_) (fun t ht => hv _ _ hn ht)
    have := hc n.toNat t hn ht
    rw [Nat.add_assoc]; exact this

theorem g_idxP (hR : MRel C m w L) (hE : ERel C e m a w L) {t el es len : Nat} {x y : Operand} {x' y' : Opn} (ho : o.op = .indexAddr t x y) (ht : P.underlying t = some (.array len el)) (hs : szB P el es = true) (hx : opnOk x x' = true) (hy : opnOk y y' = true) {out : Out} (hev : evD (.idxP len es x' y') e m = some out) (hok : out.ok = true) : Good P C m w L o a out := by
  have hx := opn_rel hE hx
  have hy := opn_rel hE hy
  simp only [evD] at hev
  generalize x'.ev e = u at hx hev
  generalize y'.ev e = v at hy hev
  generalize hra : a.eval x = r at hx
  generalize hrb : a.eval y = s at hy
  cases hy <;> (try (cases hx <;> simp [idxPV] at hev; done))
  rename_i k n
  have hrun : ∀ (ad : Addr), r = .pointer (some ad) → 0 ≤ n → n < (len : Int) → (execOp a.eval o).run P w = .ok (.value (.pointer (some (ad.add (n.toNat * es))))) w := by
    intro ad hr h0 h1
    simp [execOp, ho, hra, hrb, hr, Instr.indexAt, asIntOf, run_underlying ht, h0, h1, run_size w hs, Instr.sureAddr]
  cases hx <;> (try (simp [idxPV] at hev; done))
  case ptr l q j le hl =>
    simp only [idxPV] at hev
    split at hev
    · rename_i blk hm
      simp only [outIf, Option.some.injEq] at hev
      subst hev
      simp only [Bool.and_eq_true, decide_eq_true_eq] at hok
      refine good_pure hR (hrun _ rfl hok.1 hok.2) ?_
      obtain ⟨e0, g1, g2, g5, g0⟩ := hR.blk l blk hm
      rw [hl] at g1; obtain rfl := Option.some.inj g1
      rw [addr_add]
      cases hb : blk.es == es with
      | true =>
        have hes : le.es = es := by rw [g2]; simpa using hb
        have : q * le.es + j + n.toNat * es = (q + n.toNat) * le.es + j := by rw [hes, Nat.add_mul]; omega
        rw [this, cond_true]
        exact .ptr _ _ _ _ hl
      | false =>
        rw [cond_false, Nat.add_assoc]
        exact .ptr _ _ _ _ hl
    · simp at hev
  case vptr m' get j b o' vals hc hv =>
    simp only [idxPV, outIf, Option.some.injEq] at hev
    subst hev
    simp only [Bool.and_eq_true, decide_eq_true_eq] at hok
    refine good_pure hR (hrun _ rfl hok.1 hok.2) ?_
    rw [addr_add, Nat.add_assoc]
    exact .vptr _ _ _ _ _ _ hc hv

theorem g_idx (hR : MRel C m w L) (hE : ERel C e m a w L) {t el es len : Nat} {ag : Bool} {x y : Operand} {x' y' : Opn} (ho : o.op = .index t x y) (ht : P.underlying t = some (.array len el)) (ha : aggB P el = some ag) (hs : szB P el es = true) (hx : opnOk x x' = true) (hy : opnOk y y' = true) {out : Out} (hev : evD (.idx len es ag x' y') e m = some out) (hok : out.ok = true) : Good P C m w L o a out := by
  have hx := opn_rel hE hx
  have hy := opn_rel hE hy
  simp only [evD] at hev
  generalize x'.ev e = u at hx hev
  generalize y'.ev e = v at hy hev
  generalize hra : a.eval x = r at hx
  generalize hrb : a.eval y = s at hy
  cases hx <;> cases hy <;> (try (simp [idxV] at hev; done))
  case agg.int cs c hv k n =>
    simp only [idxV] at hev
    cases hp : partV es ag cs (n.toNat * es) with
    | none => simp [hp] at hev
    | some op =>
      simp only [hp, Option.map_some, Option.some.injEq] at hev
      subst hev
      simp only [Bool.and_eq_true, decide_eq_true_eq] at hok
      obtain ⟨r, h1, h2, h3⟩ := part_run (w := w) ha hs hv hp hok.2
      refine good_pure hR (r := r) ?_ h2
      simp [execOp, ho, hra, hrb, Instr.index, asIntOf, run_underlying ht, hok.1.1, hok.1.2, run_size w hs, h1]

theorem g_idxs (hR : MRel C m w L) (hE : ERel C e m a w L) {t : Nat} {x y : Operand} {x' y' : Opn} (ho : o.op = .index t x y) (ht : P.underlying t = some .string) (hx : opnOk x x' = true) (hy : opnOk y y' = true) {out : Out} (hev : evD (.idxs x' y') e m = some out) (hok : out.ok = true) : Good P C m w L o a out := by
  have hx := opn_rel hE hx
  have hy := opn_rel hE hy
  simp only [evD] at hev
  generalize x'.ev e = u at hx hev
  generalize y'.ev e = v at hy hev
  generalize hra : a.eval x = r at hx
  generalize hrb : a.eval y = s at hy
  cases hx <;> cases hy <;> (try (simp [idxsV] at hev; done))
  case str.int s k n =>
    simp only [idxsV, outIf, Option.some.injEq] at hev
    subst hev
    simp only [Bool.and_eq_true, decide_eq_true_eq] at hok
    have hn := toNat_lt hok.1 hok.2
    refine good_pure hR (r := .int .u8 (s.data.getD n.toNat 0).toNat) ?_ (.int _ _)
    have : s[n.toNat]? = some (s.data.getD n.toNat 0) := by
      have h2 : n.toNat < s.size := hn
      rw [getElem?_pos s n.toNat h2]
      congr 1
      show s.data[n.toNat] = _
      rw [Array.getD_eq_getD_getElem?, Array.getElem?_eq_getElem (by exact h2)]; rfl
    simp [execOp, ho, hra, hrb, Instr.index, asIntOf, run_underlying ht, hok.1, this]

theorem g_ext (hR : MRel C m w L) (hE : ERel C e m a w L) {i : Nat} {x : Operand} {x' : Opn} (ho : o.op = .extract x i) (hx : opnOk x x' = true) {out : Out} (hev : evD (.ext x' i) e m = some out) : Good P C m w L o a out := by
  have hx := opn_rel hE hx
  simp only [evD] at hev
  generalize x'.ev e = u at hx hev
  generalize hra : a.eval x = r at hx
  cases hx <;> (try (simp [extV] at hev; done))
  rename_i cs c hv
  simp only [extV] at hev
  cases hb : Nat.blt i cs.length with
  | false => simp [hb] at hev
  | true =>
    simp only [hb, cond_true, Wit.out, Option.some.injEq] at hev
    subst hev
    obtain ⟨q, q1, q2⟩ := hv.get i (by simpa [Nat.blt_eq] using hb)
    refine good_pure hR (r := q) ?_ q2
    have : c[i]? = some q := by simpa using q1
    simp [execOp, ho, hra, Instr.extract, this]

end
end Go.Wit
