/- Each told operation does what is told of it (sixth part: copies, bytes into strings, rows of cells held against one another); no condition. -/
import Derived.Test.YtdobchoiiihfiaaA7
set_option linter.unusedVariables false
set_option linter.unusedSimpArgs false
namespace Go.Wit
section
variable {P : Program} {C : Ctx} {m : Mem} {w : World} {L : Lay} {e : Env} {a : Act} {o : Oper}

theorem cellAt_cell (w : World) (b o : Nat) : w.cell? ⟨b, o, none⟩ = cellAt w.heap b o := by
  unfold World.cell? cellAt
  cases w.heap[b]? with
  | none => rfl
  | some ob => cases ob <;> rfl

theorem view_cells (hR : MRel C m w L) {y : AV} {r : Value} (hv : VR w.heap L (OO C m L) y r) {n es : Nat} {g : Nat → Nat → AV} (h1 : viewS m y = some (true, n, g)) (h2 : esS m y = some es) (hs : ∀ s, y ≠ .str s) :
    ∃ ad cap, r = .slice ad n cap ∧ (0 < n * es → ∃ b o, ad = some ⟨b, o, none⟩ ∧ ∀ k, k < n * es → ∃ v, w.cell? ⟨b, o + k, none⟩ = some v ∧ VR w.heap L (OO C m L) (g (k / es) (k % es)) v ∧ v.oneCell' = true) := by
  have hdm : ∀ t, t / es * es + t % es = t := fun t => by rw [Nat.mul_comm]; exact Nat.div_add_mod _ _
  have hpos : ∀ {k}, k < n * es → 0 < es := fun {k} hk => by
    rcases Nat.eq_zero_or_pos es with h | h
    · rw [h] at hk; simp at hk
    · exact h
  have hlt : ∀ {k}, k < n * es → k / es < n := fun {k} hk => (Nat.div_lt_iff_lt_mul (hpos hk)).2 hk
  cases hv <;> (try (simp [viewS, esS] at h1 h2; done))
  case str s => exact absurd rfl (hs s)
  case sl0 l off ad =>
    simp only [viewS] at h1
    split at h1
    · rename_i blk hm
      simp at h1
      obtain ⟨_, rfl, _⟩ := h1
      exact ⟨_, _, rfl, fun h => by simp at h⟩
    · simp at h1
  case sl0n l off =>
    simp only [viewS] at h1
    split at h1
    · rename_i blk hm
      simp at h1
      obtain ⟨_, rfl, _⟩ := h1
      exact ⟨_, _, rfl, fun h => by simp at h⟩
    · simp at h1
  case sl l off len cap le hl g1 g2 =>
    simp only [viewS] at h1
    simp only [esS] at h2
    split at h1
    · rename_i blk hm
      simp only [hm, Option.some.injEq] at h2
      simp at h1
      obtain ⟨hle, rfl, rfl⟩ := h1
      refine ⟨_, _, rfl, fun hp => ⟨le.b, off * le.es, rfl, fun k hk => ?_⟩⟩
      obtain ⟨e0, k1, k2, k5, k0⟩ := hR.blk l blk hm
      rw [hl] at k1; obtain rfl := Option.some.inj k1
      have hq := hlt hk
      have hq0 : 0 < len := Nat.lt_of_le_of_lt (Nat.zero_le _) hq
      obtain ⟨c, T, k3, k4, k6, k7⟩ := k0 (by omega)
      obtain ⟨v, v1, v2, v3⟩ := k7 (off + k / es) (k % es) (by omega) (by rw [h2]; exact Nat.mod_lt _ (hpos hk))
      refine ⟨v, ?_, v2, v3⟩
      rw [cell_of_row w _ _ _ _ _ k3, ← v1, k2, h2]
      congr 1
      have := hdm k
      rw [Nat.add_mul]; omega
    · simp at h1
  case vsl0 es' get ad =>
    simp [viewS] at h1
    obtain ⟨rfl, rfl⟩ := h1
    exact ⟨_, _, rfl, fun h => by simp at h⟩
  case vsl es' len cap get b o' vals hle hc hvv =>
    simp [viewS] at h1
    simp [esS] at h2
    obtain ⟨rfl, rfl⟩ := h1
    subst h2
    refine ⟨_, _, rfl, fun hp => ⟨b, o', rfl, fun k hk => ?_⟩⟩
    have hq := hlt hk
    have hm := Nat.mod_lt k (hpos hk)
    refine ⟨vals (k / es') (k % es'), ?_, hvv _ _ hq hm, (hc (k / es') (k % es') hq hm).2.2⟩
    have := (hc (k / es') (k % es') hq hm).2.1
    rw [hdm] at this
    rw [cellAt_cell]; exact this

theorem run_firstCells {n es : Nat} {ad : Option Addr} {cap : Nat} {f : Nat → Value} (h : 0 < n * es → ∃ b o, ad = some ⟨b, o, none⟩ ∧ ∀ k, k < n * es → w.cell? ⟨b, o + k, none⟩ = some (f k)) (len : Nat) :
    (Builtin.firstCells es n (.slice ad len cap)).run P w = .ok ((List.range (n * es)).map f).toArray w := by
  rcases Nat.eq_zero_or_pos (n * es) with h0 | h0
  · rw [h0]
    cases ad with
    | none => simp [Builtin.firstCells]
    | some ad => simp [Builtin.firstCells, h0, loadCells, loadCellsFrom]
  · obtain ⟨b, o, rfl, hc⟩ := h h0
    simp only [Builtin.firstCells]
    exact run_loadCells w ⟨b, o, none⟩ (n * es) f (fun j hj => by rw [addr_add]; exact hc j hj)

theorem cells_fun (hR : MRel C m w L) {n es : Nat} {g : Nat → Nat → AV} {ad : Option Addr} (h : 0 < n * es → ∃ b o, ad = some ⟨b, o, none⟩ ∧ ∀ k, k < n * es → ∃ v, w.cell? ⟨b, o + k, none⟩ = some v ∧ VR w.heap L (OO C m L) (g (k / es) (k % es)) v ∧ v.oneCell' = true) :
    ∃ f : Nat → Value, (0 < n * es → ∃ b o, ad = some ⟨b, o, none⟩ ∧ ∀ k, k < n * es → w.cell? ⟨b, o + k, none⟩ = some (f k)) ∧ ∀ k, k < n * es → VR w.heap L (OO C m L) (g (k / es) (k % es)) (f k) ∧ (f k).oneCell' = true := by
  rcases Nat.eq_zero_or_pos (n * es) with h0 | h0
  · exact ⟨fun _ => undef, fun h => by omega, fun k hk => by omega⟩
  · obtain ⟨b, o, hb, hc⟩ := h h0
    have : ∀ k, ∃ v, k < n * es → w.cell? ⟨b, o + k, none⟩ = some v ∧ VR w.heap L (OO C m L) (g (k / es) (k % es)) v ∧ v.oneCell' = true := by
      intro k
      by_cases hk : k < n * es
      · obtain ⟨v, hv⟩ := hc k hk; exact ⟨v, fun _ => hv⟩
      · exact ⟨undef, fun h => absurd h hk⟩
    exact ⟨fun k => (this k).choose, fun _ => ⟨b, o, hb, fun k hk => ((this k).choose_spec hk).1⟩, fun k hk => ((this k).choose_spec hk).2⟩

theorem minN_eq (a b : Nat) : minN a b = min a b := by
  unfold minN
  by_cases h : a ≤ b
  · rw [Nat.ble_eq_true_of_le h, Nat.min_eq_left h]; rfl
  · rw [ble_false h, Nat.min_eq_right (by omega)]; rfl

theorem g_copy (hR : MRel C m w L) (hE : ERel C e m a w L) {t t2 el es : Nat} {x y : Operand} {x' y' : Opn} (ho : o.op = .call { callee := .builtin .copy, args := #[x, y], argTypes := #[t, t2] }) (ht : P.underlying t = some (.slice el)) (hs : szB P el es = true)
    (hx : opnOk x x' = true) (hy : opnOk y y' = true) {out : Out} (hev : evD (.copy es x' y') e m = some out) (hok : out.ok = true) : Good P C m w L o a out := by
  have hx := opn_rel hE hx
  have hy := opn_rel hE hy
  simp only [evD] at hev
  generalize x'.ev e = u at hx hev
  generalize y'.ev e = v at hy hev
  generalize hra : a.eval x = r at hx
  generalize hrb : a.eval y = s at hy
  have hexec : ∀ {n : Int} {w'}, (Builtin.copy_ #[t, t2] o.type #[r, s]).run P w = .ok (.int .i64 n) w' → (execOp a.eval o).run P w = .ok (.value (.int .i64 n)) w' := by
    intro n w' h
    simp [execOp, ho, resolve, invoke, builtin, hra, hrb, h]
  cases u <;> (try (simp [copyV] at hev; done))
  rename_i l off len cap
  simp only [copyV] at hev
  split at hev
  case h_2 => simp at hev
  rename_i blk hm
  have hr : ∃ ad, r = .slice ad len cap ∧ (0 < len → ∃ le, L l = some le ∧ off + cap ≤ le.tot ∧ len ≤ cap ∧ ad = some ⟨le.b, off * le.es, none⟩) := by
    cases hx with
    | sl0 => exact ⟨_, rfl, fun h => by omega⟩
    | sl0n => exact ⟨_, rfl, fun h => by omega⟩
    | sl _ _ _ _ le hl g1 g2 => exact ⟨_, rfl, fun _ => ⟨le, hl, g2, g1, rfl⟩⟩
  obtain ⟨ad, rfl, had⟩ := hr
  have hnils : v = .nils → Good P C m w L o a out := by
    rintro rfl
    simp [Wit.out] at hev; subst hev
    cases hy
    refine good_pure hR (hexec (n := 0) ?_) (.int _ _)
    have : Nat.min 0 len = 0 := Nat.zero_min _
    cases ad <;> simp [Builtin.copy_, run_underlying ht, Builtin.lenOf, this, run_size w hs, Builtin.firstCells, storeCells] <;> rfl
  by_cases hvn : v = .nils
  · exact hnils hvn
  · by_cases hvs : ∃ q, v = .str q
    · obtain ⟨q, rfl⟩ := hvs; simp at hev
    · have hev' : (match viewS m v, esS m v with
        | some (b, n, g), some es' =>
          bif blk.es == es && es' == es then
            some (Out.mk (b && decide (off + len ≤ blk.n)) (.int .i64 (minN n len)) (some (l, ⟨blk.es, blk.n, fun i j => pickA (Nat.ble off i && Nat.blt i (off + minN n len)) (g (i - off) j) (blk.get i j)⟩)))
          else none
        | _, _ => none) = some out := by
        cases v <;> first | exact hev | exact absurd rfl hvn | exact absurd ⟨_, rfl⟩ hvs
      split at hev'
      case h_2 => simp at hev'
      rename_i bv n g es' hv1 hv2
      cases hb : (blk.es == es && es' == es) with
      | false => simp [hb] at hev'
      | true =>
        simp only [hb, cond_true, Option.some.injEq] at hev'
        subst hev'
        simp only [Bool.and_eq_true, beq_iff_eq] at hb
        obtain ⟨hb1, rfl⟩ := hb
        simp only [Bool.and_eq_true, decide_eq_true_eq] at hok
        obtain ⟨rfl, hok⟩ := hok
        obtain ⟨ad2, cap2, rfl, hc2⟩ := view_cells hR hy hv1 hv2 (fun q hq => hvs ⟨q, hq⟩)
        obtain ⟨f, f1, f2⟩ := cells_fun hR hc2
        generalize hk : min n len = k at *
        have hmn : minN n len = k := by rw [minN_eq, hk]
        have hkn : k ≤ n := by omega
        have hkl : k ≤ len := by omega
        have hke : k * es' ≤ n * es' := Nat.mul_le_mul_right _ hkn
        have hload : (Builtin.firstCells es' k (.slice ad2 n cap2)).run P w = .ok ((List.range (k * es')).map f).toArray w := by
          refine run_firstCells (fun hp => ?_) n
          obtain ⟨b, o', h1, h2⟩ := f1 (by omega)
          exact ⟨b, o', h1, fun q hq => h2 q (by omega)⟩
        have hmin : Nat.min n len = k := hk
        rw [hmn]
        rcases Nat.eq_zero_or_pos (k * es') with h0 | h0
        · have hrun : (Builtin.copy_ #[t, t2] o.type #[.slice ad len cap, .slice ad2 n cap2]).run P w = .ok (.int .i64 k) w := by
            rw [h0] at hload
            simp only [List.range_zero, List.map_nil] at hload
            cases ad <;> simp [Builtin.copy_, run_underlying ht, Builtin.lenOf, hmin, run_size w hs, hload, storeCells] <;> rfl
          have hsame : (fun i j => pickA (Nat.ble off i && Nat.blt i (off + k)) (g (i - off) j) (blk.get i j)) = blk.get ∨ es' = 0 := by
            rcases Nat.eq_zero_or_pos es' with h | h
            · exact .inr h
            · left
              have : k = 0 := by
                rcases Nat.eq_zero_or_pos k with hh | hh
                · exact hh
                · have := Nat.mul_pos hh h; omega
              subst this
              funext i j
              rw [pickA_eq]
              by_cases hi : off ≤ i
              · rw [blt_false (show ¬ i < off + 0 by omega)]; simp
              · rw [ble_false hi]; simp
          have hlm : l < m.length := by
            rcases Nat.lt_or_ge l m.length with h | h
            · exact h
            · rw [List.getElem?_eq_none h] at hm; cases hm
          have hsetm : ∀ blk' : Blk, blk' = blk → m.set l (some blk') = m := by
            rintro _ rfl
            apply List.ext_getElem?
            intro q
            rw [List.getElem?_set]
            by_cases hq : l = q
            · subst hq; rw [if_pos rfl, if_pos hlm, hm]
            · simp [hq]
          rcases hsame with h | h
          · refine ⟨.int .i64 k, w, L, .inl (hexec hrun), ?_, ?_, .int _ _, fun h => by simp at h⟩
            · rw [upd_lt hm, h, hsetm _ (by cases blk; rfl)]; exact hR
            · rw [upd_lt hm, h, hsetm _ (by cases blk; rfl)]; exact Ext.refl _ _ _
          · -- no cells at all: whatever is told of them
            obtain ⟨e0, k1, k2, k5, k0⟩ := hR.blk l blk hm
            rcases Nat.eq_zero_or_pos e0.tot with ht0 | ht0
            · have hiff : ∀ b, own (m.set l (some ⟨blk.es, blk.n, fun i j => pickA (Nat.ble off i && Nat.blt i (off + k)) (g (i - off) j) (blk.get i j)⟩)) L b ↔ own m L b := by
                intro b
                refine own_congr (fun q => ?_) b
                rw [List.getElem?_set]
                by_cases hq : l = q
                · subst hq; exact ⟨fun _ => ⟨_, hm⟩, fun _ => ⟨_, by rw [if_pos rfl, if_pos hlm]⟩⟩
                · simp [hq]
              have hoo : OO C (m.set l (some ⟨blk.es, blk.n, fun i j => pickA (Nat.ble off i && Nat.blt i (off + k)) (g (i - off) j) (blk.get i j)⟩)) L = OO C m L := by
                funext b; unfold OO; rw [hiff]
              refine ⟨.int .i64 k, w, L, .inl (hexec hrun), ?_, ?_, .int _ _, fun h => by simp at h⟩
              · rw [upd_lt hm]
                refine ⟨hR.os, hR.tape, hR.output, hR.size, hR.frame, fun q hq => hR.lay q (by simpa using hq), ?_, ?_, fun q hq => ⟨by simpa using (hR.base q hq).1, (hR.base q hq).2⟩, hR.xlt, fun b hb => hR.notX b ((hiff b).1 hb)⟩
                · intro q bk hq
                  rw [List.getElem?_set] at hq
                  by_cases hlq : l = q
                  · subst hlq
                    rw [if_pos rfl, if_pos hlm] at hq
                    simp at hq; subst hq
                    exact ⟨e0, k1, k2, k5, fun h => by omega⟩
                  · rw [if_neg hlq] at hq
                    rw [hoo]; exact hR.blk q bk hq
                · intro p q bp bq ep eq h1 h2 h3 h4 t1 t2 h5
                  rw [List.getElem?_set] at h1 h2
                  by_cases hp : l = p
                  · subst hp; rw [k1] at h3; obtain rfl := Option.some.inj h3; omega
                  · by_cases hq : l = q
                    · subst hq; rw [k1] at h4; obtain rfl := Option.some.inj h4; omega
                    · rw [if_neg hp] at h1; rw [if_neg hq] at h2
                      exact hR.inj p q bp bq ep eq h1 h2 h3 h4 t1 t2 h5
              · rw [upd_lt hm, hoo]; exact Ext.refl _ _ _
            · obtain ⟨c, T, k3, k4, k6, k7⟩ := k0 ht0
              have hw := hR.write hm k1 ht0 k2 k3 c rfl blk.n k5 (fun i j => pickA (Nat.ble off i && Nat.blt i (off + k)) (g (i - off) j) (blk.get i j)) (fun i j hi hj => by
                rw [hb1, h] at hj; omega)
              have hself : w.setRow e0.b c = w := setRow_self w _ _ _ _ k3
              rw [hself] at hw
              refine ⟨.int .i64 k, w, L, .inl (hexec hrun), ?_, ?_, .int _ _, fun h => by simp at h⟩
              · rw [upd_lt hm]; exact hw.1
              · rw [upd_lt hm]; exact hw.2
        · have hk0 : 0 < k := Nat.pos_of_mul_pos_right h0
          obtain ⟨le, hl, hcap, hlc, rfl⟩ := had (by omega)
          obtain ⟨e0, k1, k2, k5, k0⟩ := hR.blk l blk hm
          rw [hl] at k1; obtain rfl := Option.some.inj k1
          obtain ⟨c, T, k3, k4, k6, k7⟩ := k0 (by omega)
          have hes : le.es = es' := by rw [k2, hb1]
          have hin : off * le.es + k * es' ≤ c.size := by
            rw [k4, hes, ← Nat.add_mul]; exact Nat.mul_le_mul_right _ (by omega)
          have hvals : ∀ u ∈ (List.range (k * es')).map f, u.oneCell' = true := by
            intro u hu
            simp only [List.mem_map, List.mem_range] at hu
            obtain ⟨q, hq, rfl⟩ := hu
            exact (f2 q (by omega)).2
          have hst := run_storeCells_at (P := P) le.b (off * le.es) T ((List.range (k * es')).map f) 0 c w k3 (by simp; omega) hvals
          have hrun : (Builtin.copy_ #[t, t2] o.type #[.slice (some ⟨le.b, off * le.es, none⟩) len cap, .slice ad2 n cap2]).run P w = .ok (.int .i64 k) (w.setRow le.b (c.toList.take (off * le.es) ++ (List.range (k * es')).map f ++ c.toList.drop (off * le.es + k * es')).toArray) := by
            simp only [Nat.add_zero, List.length_map, List.length_range] at hst
            simp only [Builtin.copy_, List.getElem?_toArray, List.getElem?_cons_zero, List.getElem?_cons_succ, Sem.run_bind, run_underlying ht, Result.andThen_ok, Builtin.lenOf, Sem.run_pure, hmin, run_size w hs, hload, hst]
            rfl
          have hp : 0 < es' := Nat.pos_of_mul_pos_left h0
          have hw := hR.write hm hl (by omega) k2 k3 (c.toList.take (off * le.es) ++ (List.range (k * es')).map f ++ c.toList.drop (off * le.es + k * es')).toArray (by simp; omega) blk.n k5
            (fun i j => pickA (Nat.ble off i && Nat.blt i (off + k)) (g (i - off) j) (blk.get i j)) (fun i j hi hj => by
              rw [pickA_eq, hb1, hes]
              simp only [List.getElem?_toArray]
              have hlen : ((List.range (k * es')).map f).length = k * es' := by simp
              have hsp := getElem?_splice c.toList (off * es') ((List.range (k * es')).map f) (i * es' + j) (by rw [hlen]; simp only [Array.length_toList]; rw [hes] at hin; exact hin)
              rw [hlen] at hsp
              rw [hsp]
              rw [hb1] at hj
              by_cases h1 : off ≤ i ∧ i < off + k
              · rw [Nat.ble_eq_true_of_le h1.1, blt_true h1.2]
                have e1 : (i - off) * es' + off * es' = i * es' := by rw [← Nat.add_mul]; congr 1; omega
                have e2 : (i - off + 1) * es' ≤ k * es' := Nat.mul_le_mul_right _ (by omega)
                rw [Nat.add_mul] at e2
                have hc1 : off * es' ≤ i * es' + j := by omega
                have hc2 : i * es' + j < off * es' + k * es' := by omega
                rw [if_pos ⟨hc1, hc2⟩]
                have e3 : i * es' + j - off * es' = (i - off) * es' + j := by omega
                rw [e3]
                have hc3 : (i - off) * es' + j < k * es' := by omega
                refine ⟨f ((i - off) * es' + j), by rw [List.getElem?_map, List.getElem?_range hc3]; rfl, ?_⟩
                have := f2 ((i - off) * es' + j) (by omega)
                have d1 : ((i - off) * es' + j) / es' = i - off := by rw [Nat.mul_comm, Nat.mul_add_div hp, Nat.div_eq_of_lt hj]; rfl
                have d2 : ((i - off) * es' + j) % es' = j := by rw [Nat.mul_comm, Nat.mul_add_mod, Nat.mod_eq_of_lt hj]
                rw [d1, d2] at this
                exact ⟨by simpa using this.1, this.2⟩
              · have hcond : (Nat.ble off i && Nat.blt i (off + k)) = false := by
                  by_cases h2 : off ≤ i
                  · rw [blt_false (show ¬ i < off + k by omega)]; simp
                  · rw [ble_false h2]; simp
                rw [hcond, cond_false, if_neg]
                · obtain ⟨v, v1, v2, v3⟩ := k7 i j hi (by rw [hb1]; exact hj)
                  rw [hb1] at v1
                  exact ⟨v, by simpa using v1, v2, v3⟩
                · intro hh
                  apply h1
                  constructor
                  · rcases Nat.lt_or_ge i off with h2 | h2
                    · have := Nat.mul_le_mul_right es' (show i + 1 ≤ off by omega)
                      rw [Nat.add_mul] at this; omega
                    · exact h2
                  · rcases Nat.lt_or_ge i (off + k) with h2 | h2
                    · exact h2
                    · have := Nat.mul_le_mul_right es' h2
                      rw [Nat.add_mul] at this; omega)
          refine ⟨.int .i64 k, _, L, .inl (hexec hrun), ?_, ?_, .int _ _, fun h => by simp at h⟩
          · rw [upd_lt hm]; exact hw.1
          · rw [upd_lt hm]; exact hw.2

end
end Go.Wit
