/- New blocks, stores into them, and looks, while blocks lie hidden; no condition. -/
import Derived.Test.YtdobchoiiihfiaaB8
set_option linter.unusedVariables false
set_option linter.unusedSimpArgs false
namespace Go.Wit

theorem Env.setF_get : ∀ (f : Nat) (e : Env) (n : Nat) (v : AV) (t : Nat), n + 1 < 2 ^ f → t + 1 < 2 ^ f → (Env.setF f e n v).get t = if t = n then v else e.get t
  | 0, e, n, v, t, h1, _ => by simp at h1
  | f + 1, e0, n, v, t, h1, h2 => by
    obtain ⟨l, u, r, he, hs⟩ := Env.node_eta e0 t
    rw [hs, he t]
    have h1' : n + 1 < 2 * 2 ^ f := by rw [Nat.pow_succ] at h1; omega
    have h2' : t + 1 < 2 * 2 ^ f := by rw [Nat.pow_succ] at h2; omega
    unfold Env.setF
    rcases Nat.eq_zero_or_pos n with hn | hn
    · subst hn
      simp only [beq_self_eq_true, cond_true]
      rcases Nat.eq_zero_or_pos t with ht | ht
      · subst ht; rw [if_pos rfl, Env.get_node0]
      · rw [if_neg (by omega)]
        by_cases hp : t % 2 = 1
        · rw [Env.get_node1 _ _ _ hp, Env.get_node1 _ _ _ hp]
        · rw [Env.get_node2 _ _ _ (by omega) (by omega), Env.get_node2 _ _ _ (by omega) (by omega)]
    · have h0 : (n == 0) = false := by simp; omega
      simp only [h0, cond_false]
      by_cases hp : n % 2 = 1
      · have hp' : (n % 2 == 1) = true := by simp [hp]
        simp only [hp', cond_true]
        rcases Nat.eq_zero_or_pos t with ht | ht
        · subst ht; rw [if_neg (by omega), Env.get_node0, Env.get_node0]
        · by_cases hq : t % 2 = 1
          · rw [Env.get_node1 _ _ _ hq, Env.get_node1 _ _ _ hq, Env.setF_get f l (n / 2) v (t / 2) (by omega) (by omega)]
            by_cases htn : t = n
            · subst htn; simp
            · rw [if_neg htn, if_neg (by omega)]
          · rw [Env.get_node2 _ _ _ (by omega) (by omega), Env.get_node2 _ _ _ (by omega) (by omega), if_neg (by omega)]
      · have hp' : (n % 2 == 1) = false := by simp; omega
        simp only [hp', cond_false]
        rcases Nat.eq_zero_or_pos t with ht | ht
        · subst ht; rw [if_neg (by omega), Env.get_node0, Env.get_node0]
        · by_cases hq : t % 2 = 1
          · rw [Env.get_node1 _ _ _ hq, Env.get_node1 _ _ _ hq, if_neg (by omega)]
          · rw [Env.get_node2 _ _ _ (by omega) (by omega), Env.get_node2 _ _ _ (by omega) (by omega), Env.setF_get f r (n / 2 - 1) v (t / 2 - 1) (by omega) (by omega)]
            by_cases htn : t = n
            · subst htn; simp
            · rw [if_neg htn, if_neg (by omega)]

theorem Env.set_get {e : Env} {n t : Nat} {v : AV} (hn : n < 4000) (ht : t < 4000) : (e.set n v).get t = if t = n then v else e.get t := Env.setF_get 12 e n v t (by omega) (by omega)

/-- A block made anew: its slot, how it is named, what is in it. -/
def fOf : AOpr → Option (Nat × (Nat → AV) × Blk)
  | ⟨some d, .alloc es n zs, none⟩ => bif zs.all (det1 true) && (zs.length == es) then some (d, fun l => .ptr l 0 0, ⟨es, n, fun _ j => zs.getD j .un⟩) else none
  | ⟨some d, .mksl es bytes zs (.c (.int _ a)) (.c (.int _ c)), none⟩ =>
    bif zs.all (det1 true) && ((zs.length == es) && (decide (0 ≤ a) && (decide (a ≤ c) && decide (c * bytes ≤ 281474976710656 ∧ c ≤ 281474976710656)))) then
      some (d, fun l => .sl l 0 a.toNat c.toNat, ⟨es, c.toNat, fun _ j => zs.getD j .un⟩) else none
  | _ => none

theorem getD_det {zs : List AV} {es j : Nat} (h : zs.all (det1 true) = true) (hl : zs.length = es) (hj : j < es) : det1 true (zs.getD j .un) = true := by
  rw [List.getD, List.getElem?_eq_getElem (by omega)]
  exact List.all_eq_true.1 h _ (List.getElem_mem _)

theorem fOf_spec {P : Program} {ao : AOpr} {d : Nat} {val : Nat → AV} {blk : Blk} (h : fOf ao = some (d, val, blk)) :
    ao.dst = some d ∧ ao.guard = none ∧ vcRun P ao.op Env.nil [] (fun v m => v = val 0 ∧ m = [some blk]) ∧ (∀ i j, j < blk.es → det1 true (blk.get i j) = true) ∧
    ∀ (heap heap' : Array Obj) (L L' : Lay) (O O' : Nat → Prop) l l' e r, VR heap L O (val l) r → L l = some e → L' l' = some e → VR heap' L' O' (val l') r := by
  unfold fOf at h
  split at h
  · rename_i d' es n zs
    cases hb : zs.all (det1 true) && (zs.length == es) with
    | false => rw [hb] at h; cases h
    | true =>
      rw [hb] at h
      simp only [cond_true, Option.some.injEq, Prod.mk.injEq] at h
      obtain ⟨rfl, rfl, rfl⟩ := h
      simp only [Bool.and_eq_true, beq_iff_eq] at hb
      refine ⟨rfl, rfl, ?_, fun i j hj => getD_det hb.1 hb.2 hj, fun heap heap' L L' O O' l l' e r hv h1 h2 => ?_⟩
      · simp only [vcRun, evD, newV, condB, updK_eq]
        exact ⟨rfl, rfl⟩
      · cases hv with
        | ptr _ _ _ e' g => rw [h1] at g; obtain rfl := Option.some.inj g; exact .ptr _ _ _ _ h2
  · rename_i d' es bytes zs k a k' c
    cases hb : zs.all (det1 true) && ((zs.length == es) && (decide (0 ≤ a) && (decide (a ≤ c) && decide (c * bytes ≤ 281474976710656 ∧ c ≤ 281474976710656)))) with
    | false => rw [hb] at h; cases h
    | true =>
      rw [hb] at h
      simp only [cond_true, Option.some.injEq, Prod.mk.injEq] at h
      obtain ⟨rfl, rfl, rfl⟩ := h
      simp only [Bool.and_eq_true, beq_iff_eq] at hb
      refine ⟨rfl, rfl, ?_, fun i j hj => getD_det hb.1 hb.2.1 hj, fun heap heap' L L' O O' l l' e r hv h1 h2 => ?_⟩
      · simp only [vcRun, evD, Opn.ev, hb.2.2.1, hb.2.2.2.1, hb.2.2.2.2, Bool.and_self, condB, updK_eq]
        exact ⟨rfl, rfl⟩
      · generalize hv' : (fun l => AV.sl l 0 a.toNat c.toNat) l = u at hv
        cases hv with
        | sl0 _ _ ad => simp only [AV.sl.injEq] at hv'; obtain ⟨_, _, h3, h4⟩ := hv'; simp only [h3, h4]; exact .sl0 _ _ _
        | sl0n _ _ => simp only [AV.sl.injEq] at hv'; obtain ⟨_, _, h3, h4⟩ := hv'; simp only [h3, h4]; exact .sl0n _ _
        | sl _ _ _ _ e' g1 g2 g3 =>
          simp only [AV.sl.injEq] at hv'
          obtain ⟨rfl, rfl, rfl, rfl⟩ := hv'
          rw [h1] at g1; obtain rfl := Option.some.inj g1
          exact .sl _ _ _ _ _ h2 g2 g3
        | _ => cases hv'
  · cases h

section
variable {P : Program} {C : Ctx} {n : Nat} {hs : List HB} {m m' : Mem} {w w' : World} {L L' : Lay} {e e' : Env} {a a' : Act} {o : Oper} {ao : AOpr}

theorem put_get {d : Nat} {r : Value} (hd : d < a.tmps.size) : (a.put (some d) r).tmps.getD d undef = r := by
  simp only [Act.put, Array.getD_eq_getD_getElem?, Array.getElem?_setIfInBounds]
  simp [hd]
theorem put_get_ne {d t : Nat} {r : Value} (hd : t ≠ d) : (a.put (some d) r).tmps.getD t undef = a.tmps.getD t undef := by
  simp only [Act.put, Array.getD_eq_getD_getElem?, Array.getElem?_setIfInBounds]
  rw [if_neg (fun h => hd h.symm)]

theorem HRel.make (H : HRel C n hs e m a w L) {i d : Nat} {val : Nat → AV} {blk : Blk} (hc : chkOp P o.op ao.op = true) (hdst : o.dst = ao.dst) (hf : fOf ao = some (d, val, blk)) (hdn : d < n) (he : e.get d = .un) (hds : ∀ h, h ∈ hs → h.d ≠ d)
    {next : Act → World → Prop} {Q : Exit → Act → World → Prop} (hnext : ∀ h r w', h.i = i → h.d = d → h.val = val → h.blk = blk → HRel C n (h :: hs) e m (a.put (some d) r) w' L → next (a.put o.dst r) w') : o.wp P a w next Q := by
  obtain ⟨f1, f2, f3, f4, f5⟩ := fOf_spec (P := P) hf
  let C0 : Ctx := ⟨fun b => b < w.heap.size, w, fun _ => False, fun _ => none, 0⟩
  have hR0 : MRel C0 [] w (fun _ => none) := ⟨rfl, rfl, rfl, Nat.le_refl _, fun _ _ _ => rfl, fun _ _ => rfl, fun l b hl => by simp at hl, fun l l' b b' e e' hl => by simp at hl, fun l hl => absurd hl (Nat.not_lt_zero _), fun b hb => hb, fun b hb => by
    obtain ⟨l, blk, e, h1, _⟩ := hb; simp at h1⟩
  refine run_sound hR0 (e := Env.nil) (fun t => by rw [Env.get_nil]; exact .un _) hc f3 (fun v m' r w' L' hk hM hE' hv => ?_)
  obtain ⟨rfl, rfl⟩ := hk
  obtain ⟨e1, g1, g2, g3, g0⟩ := hM.blk 0 blk rfl
  have hframe : ∀ b, b < w.heap.size → w'.heap[b]? = w.heap[b]? := fun b hb => hM.frame b hb (fun h => h)
  have hnew : 0 < e1.tot → w.heap.size ≤ e1.b ∧ e1.b < w'.heap.size := fun ht => by
    obtain ⟨c, T, k1, k2, k3, k4⟩ := g0 ht
    exact ⟨k3.elim id False.elim, (Array.getElem?_eq_some_iff.1 k1).1⟩
  have hsz : w.heap.size ≤ w'.heap.size := hM.size
  obtain ⟨p1, p2, p3⟩ := H.poke (⟨i, d, val, blk, e1⟩ :: hs) (w' := w') (fun b hb => hb.imp id (fun ⟨q, hq, hb⟩ => ⟨q, .tail _ hq, hb⟩)) (fun b hb hx => by
      rcases hx with hx | ⟨q, hq, h1, h2⟩
      · exact .inl hx
      · rcases List.mem_cons.1 hq with rfl | hq
        · have := hnew h1; simp only at h2; omega
        · exact .inr ⟨q, hq, h1, h2⟩) (fun b hx => by
      rcases hx with hx | ⟨q, hq, h1, h2⟩
      · have := H.xlt (.inl hx); omega
      · rcases List.mem_cons.1 hq with rfl | hq
        · have := hnew h1; simp only at h2; omega
        · have := H.xlt (.inr ⟨q, hq, h1, h2⟩); omega) hM.os hM.tape hM.output hsz (fun b hb _ => hframe b hb)
  rw [hdst, f1] at hnext ⊢
  have hda : d < a.tmps.size := by rw [H.size]; exact hdn
  refine hnext ⟨i, d, val, blk, e1⟩ r w' rfl rfl rfl rfl ⟨by rw [put_size]; exact H.size, by rw [Wit.put_defers]; exact H.defers, p1, p2, fun t => ?_, fun h hh => ?_, ?_⟩
  · by_cases ht : t = d
    · rw [ht, he]; exact .un _
    · rw [put_get_ne ht]; exact p3 t
  · rcases List.mem_cons.1 hh with rfl | hh
    · refine ⟨g2, g3, fun i j _ hj => f4 i j hj, fun ht => ?_, fun heap L2 O2 l hl => ?_⟩
      · obtain ⟨c, T, k1, k2, k3, k4⟩ := g0 ht
        refine ⟨c, T, k1, k2, Nat.le_trans H.memC.size (hnew ht).1, fun i j hi hj => ?_⟩
        obtain ⟨v, q1, q2, q3⟩ := k4 i j hi hj
        exact ⟨v, q1, det1_move (f4 i j hj) (.inl rfl) q2, q3⟩
      · simp only
        rw [put_get hda]
        exact f5 _ _ _ _ _ _ _ _ _ _ hv g1 hl
    · obtain ⟨h1, h2, h2', h3, h4⟩ := H.hid h hh
      refine ⟨h1, h2, h2', fun ht => ?_, fun heap L2 O2 l hl => by rw [put_get_ne (hds h hh)]; exact h4 _ _ _ _ hl⟩
      obtain ⟨c, T, k1, k2, k3, k4⟩ := h3 ht
      exact ⟨c, T, by rw [hframe _ (Array.getElem?_eq_some_iff.1 k1).1]; exact k1, k2, k3, k4⟩
  · refine List.pairwise_cons.2 ⟨fun q hq h1 h2 h3 => ?_, H.pair⟩
    have := (hnew h1).1
    have := H.xlt (.inr ⟨q, hq, h2, rfl⟩)
    simp only at h3
    omega

/-- A value stored into a block whole, or from its beginning on. -/
def storeB (sz : Nat) (v : AV) (blk : Blk) : Option Blk := bif hasCells v sz && roomG blk 0 0 sz then some ⟨blk.es, blk.n, updG blk 0 0 sz (cellsOf v)⟩ else none

theorem storeB_spec {sz : Nat} {v : AV} {blk blk' : Blk} (h : storeB sz v blk = some blk') : hasCells v sz = true ∧ roomG blk 0 0 sz = true ∧ blk' = ⟨blk.es, blk.n, updG blk 0 0 sz (cellsOf v)⟩ := by
  unfold storeB at h
  cases hb : hasCells v sz && roomG blk 0 0 sz with
  | false => rw [hb] at h; cases h
  | true =>
    rw [hb] at h
    simp only [Bool.and_eq_true] at hb
    exact ⟨hb.1, hb.2, (Option.some.inj h).symm⟩

theorem cells_det {v : AV} (h : det2 true v = true) : (cellsOf v).all (det1 true) = true := by
  unfold det2 at h
  split at h
  · exact h
  · rename_i v' hne
    cases v' <;> simp_all [cellsOf]

theorem upd_det {sz : Nat} {v : AV} {blk : Blk} (hd : det2 true v = true) (hc : hasCells v sz = true) (hb : ∀ i j, i < blk.n → j < blk.es → det1 true (blk.get i j) = true) {i j : Nat} (hi : i < blk.n) (hj : j < blk.es) : det1 true (updG blk 0 0 sz (cellsOf v) i j) = true := by
  have hl : (cellsOf v).length = sz := by
    unfold hasCells at hc
    simp only [Bool.and_eq_true, beq_iff_eq] at hc
    exact hc.1
  have hv := cells_det hd
  unfold updG
  simp only [pickA_eq]
  cases Nat.ble (0 + sz) blk.es with
  | true =>
    simp only [cond_true]
    cases hq : (i == 0 && (Nat.ble 0 j && Nat.blt j (0 + sz))) with
    | false => exact hb i j hi hj
    | true =>
      simp only [Bool.and_eq_true, Nat.blt_eq] at hq
      exact getD_det hv hl (by omega)
  | false =>
    simp only [cond_false]
    cases hq : (Nat.ble (0 * blk.es + 0) (i * blk.es + j) && Nat.blt (i * blk.es + j) (0 * blk.es + 0 + sz)) with
    | false => exact hb i j hi hj
    | true =>
      simp only [Bool.and_eq_true, Nat.blt_eq] at hq
      exact getD_det hv hl (by omega)

theorem pair_ne : ∀ {hs : List HB}, (hs.Pairwise fun h h' => 0 < h.e.tot → 0 < h'.e.tot → h.e.b ≠ h'.e.b) → ∀ {x y : HB}, x ∈ hs → y ∈ hs → x ≠ y → 0 < x.e.tot → 0 < y.e.tot → x.e.b = y.e.b → False
  | [], _, x, y, hx, _, _, _, _, _ => by simp at hx
  | z :: hs, hp, x, y, hx, hy, hne, h1, h2, h3 => by
    obtain ⟨p1, p2⟩ := List.pairwise_cons.1 hp
    rcases List.mem_cons.1 hx with hx' | hx' <;> rcases List.mem_cons.1 hy with hy' | hy'
    · exact hne (hx'.trans hy'.symm)
    · exact p1 y hy' (hx' ▸ h1) h2 (hx' ▸ h3)
    · exact p1 x hx' (hy' ▸ h2) h1 (hy' ▸ h3.symm)
    · exact pair_ne p2 hx' hy' hne h1 h2 h3

def setB (i : Nat) (blk : Blk) (h : HB) : HB := if h.i = i then ⟨h.i, h.d, h.val, blk, h.e⟩ else h
theorem setB_e {i : Nat} {blk : Blk} {h : HB} : (setB i blk h).e = h.e := by unfold setB; split <;> rfl
theorem setB_d {i : Nat} {blk : Blk} {h : HB} : (setB i blk h).d = h.d := by unfold setB; split <;> rfl
theorem setB_i {i : Nat} {blk : Blk} {h : HB} : (setB i blk h).i = h.i := by unfold setB; split <;> rfl
theorem setB_val {i : Nat} {blk : Blk} {h : HB} : (setB i blk h).val = h.val := by unfold setB; split <;> rfl

theorem HRel.put (H : HRel C n hs e m a w L) {sz d v : Nat} {h : HB} {x : AV} {blk' : Blk} (hc : chkOp P o.op (.store sz (.t d) (.t v)) = true) (hdst : o.dst = none) (hh : h ∈ hs) (hd : h.d = d) (hval : h.val = fun l => .ptr l 0 0) (hu : ∀ h', h' ∈ hs → h'.i = h.i → h' = h)
    (hx : VR #[] (fun _ => none) (fun _ => False) x (a.tmps.getD v undef)) (hdet : det2 true x = true) (hb : storeB sz x h.blk = some blk') (hdv : d ≠ v) (hd4 : d < 4000) (hv4 : v < 4000)
    {next : Act → World → Prop} {Q : Exit → Act → World → Prop} (hnext : ∀ r w', HRel C n (hs.map (setB h.i blk')) e m a w' L → next (a.put o.dst r) w') : o.wp P a w next Q := by
  obtain ⟨b1, b2, b3⟩ := storeB_spec hb
  obtain ⟨k1, k2, k2', k3, k4⟩ := H.hid h hh
  let C1 : Ctx := ⟨fun b => b < w.heap.size ∧ ¬ (0 < h.e.tot ∧ b = h.e.b), w, fun b => 0 < h.e.tot ∧ b = h.e.b, fun l => if l = 0 then some h.e else none, 1⟩
  let L1 : Lay := fun l => if l = 0 then some h.e else none
  have hone : ∀ {l b}, [some h.blk][l]? = some (some b) → l = 0 ∧ b = h.blk := by
    intro l b hl
    cases l with
    | zero => simp at hl; exact ⟨rfl, hl.symm⟩
    | succ l => simp at hl
  have hR1 : MRel C1 [some h.blk] w L1 := by
    refine ⟨rfl, rfl, rfl, Nat.le_refl _, fun _ _ _ => rfl, fun l hl => ?_, fun l b hl => ?_, fun l l' b b' e e' h1 h2 _ _ _ _ _ => by rw [(hone h1).1, (hone h2).1], fun l hl => ?_, fun b hb => hb.1, fun b hb hx => ?_⟩
    · simp only [L1, if_neg (show l ≠ 0 by simp at hl; omega)]
    · obtain ⟨rfl, rfl⟩ := hone hl
      refine ⟨h.e, rfl, k1, k2, fun ht => ?_⟩
      obtain ⟨c, T, q1, q2, q3, q4⟩ := k3 ht
      refine ⟨c, T, q1, q2, .inr ⟨ht, rfl⟩, fun i j hi hj => ?_⟩
      obtain ⟨u, r1, r2, r3⟩ := q4 i j hi hj
      exact ⟨u, r1, det1_move (k2' i j hi hj) (.inl rfl) r2, r3⟩
    · have hl : l < 1 := hl
      obtain rfl : l = 0 := by omega
      exact ⟨by simp, rfl⟩
    · obtain ⟨l, b', e, h1, h2, h3, h4⟩ := hb
      obtain ⟨rfl, rfl⟩ := hone h1
      have : h.e = e := Option.some.inj h2
      subst this
      exact hx.2 ⟨h3, h4.symm⟩
  let E1 : Env := (Env.nil.set v x).set d (.ptr 0 0 0)
  have hE1 : ERel C1 E1 [some h.blk] a w L1 := by
    intro t
    rcases Env.set_upd (Env.nil.set v x) d (.ptr 0 0 0) t with h5 | ⟨h5, h6⟩ | ⟨h5, h6⟩
    · rw [show E1.get t = .un from h5]; exact .un _
    · rw [show E1.get t = _ from h6]
      rcases Env.set_upd Env.nil v x t with h7 | ⟨h7, h8⟩ | ⟨h7, h8⟩
      · rw [h7]; exact .un _
      · rw [h8, Env.get_nil]; exact .un _
      · rw [h8, h7]; exact det2_move hdet (.inl rfl) hx
    · rw [show E1.get t = _ from h6, h5, ← hd]
      have := k4 w.heap L1 (OO C1 [some h.blk] L1) 0 rfl
      rw [hval] at this
      exact this
  have g1 : E1.get d = .ptr 0 0 0 := by rw [Env.set_get hd4 hd4, if_pos rfl]
  have g2 : E1.get v = x := by rw [Env.set_get hd4 hv4, if_neg (fun h => hdv h.symm), Env.set_get hv4 hv4, if_pos rfl]
  have hvc : vcRun P (.store sz (.t d) (.t v)) E1 [some h.blk] (fun _ m' => m' = [some blk']) := by
    simp only [vcRun, evD, Opn.ev, g1, g2, storeV, List.getElem?_cons_zero, b1, cond_true, b2, condB, updK_eq]
    rw [b3]; rfl
  refine run_sound hR1 hE1 hc hvc (fun v' m1 r w' L1' hk hM _ _ => ?_)
  subst hk
  have hframe : ∀ b, b < w.heap.size → ¬ (0 < h.e.tot ∧ b = h.e.b) → w'.heap[b]? = w.heap[b]? := fun b hb hn => hM.frame b hb hn
  have hsz : w.heap.size ≤ w'.heap.size := hM.size
  have hL1 : L1' 0 = some h.e := (hM.base 0 (Nat.lt_succ_self 0)).2
  have hXe : XH C (hs.map (setB h.i blk')) = XH C hs := by
    funext b; apply propext
    constructor
    · rintro (hx | ⟨q, hq, h1, h2⟩)
      · exact .inl hx
      · obtain ⟨q', hq', rfl⟩ := List.mem_map.1 hq
        rw [setB_e] at h1 h2
        exact .inr ⟨q', hq', h1, h2⟩
    · rintro (hx | ⟨q, hq, h1, h2⟩)
      · exact .inl hx
      · exact .inr ⟨_, List.mem_map.2 ⟨q, hq, rfl⟩, by rw [setB_e]; exact h1, by rw [setB_e]; exact h2⟩
  obtain ⟨p1, p2, p3⟩ := H.poke (hs.map (setB h.i blk')) (w' := w') (fun b hb => by rw [hXe]; exact hb) (fun b _ hb => by rw [hXe] at hb; exact hb) (fun b hb => by
      rw [hXe] at hb
      have := H.xlt hb; omega) hM.os hM.tape hM.output hsz (fun b hb hn => hframe b hb (fun ⟨h1, h2⟩ => hn h hh h1 h2.symm))
  refine hnext r w' ⟨H.size, H.defers, p1, p2, p3, fun q hq => ?_, ?_⟩
  · obtain ⟨q', hq', rfl⟩ := List.mem_map.1 hq
    by_cases hi : q'.i = h.i
    · obtain rfl := hu q' hq' hi
      have : setB q'.i blk' q' = ⟨q'.i, q'.d, q'.val, blk', q'.e⟩ := by unfold setB; rw [if_pos rfl]
      rw [this]
      obtain ⟨e1, r1, r2, r3, r0⟩ := hM.blk 0 blk' rfl
      rw [hL1] at r1; obtain rfl := Option.some.inj r1
      have hdet' : ∀ i j, i < blk'.n → j < blk'.es → det1 true (blk'.get i j) = true := by
        rw [b3]; exact fun i j hi hj => upd_det hdet b1 k2' hi hj
      refine ⟨r2, r3, hdet', fun ht => ?_, k4⟩
      obtain ⟨c, T, s1, s2, s3, s4⟩ := r0 ht
      obtain ⟨_, _, _, _, s5, _⟩ := k3 ht
      refine ⟨c, T, s1, s2, s5, fun i j hi hj => ?_⟩
      obtain ⟨u, t1, t2, t3⟩ := s4 i j hi hj
      exact ⟨u, t1, det1_move (hdet' i j hi hj) (.inl rfl) t2, t3⟩
    · have : setB h.i blk' q' = q' := by unfold setB; rw [if_neg hi]
      rw [this]
      obtain ⟨h1, h2, h2', h3, h4⟩ := H.hid q' hq'
      refine ⟨h1, h2, h2', fun ht => ?_, h4⟩
      obtain ⟨c, T, s1, s2, s3, s4⟩ := h3 ht
      refine ⟨c, T, ?_, s2, s3, s4⟩
      rw [← s1]
      refine hframe _ (Array.getElem?_eq_some_iff.1 s1).1 (fun ⟨h5, h6⟩ => hi ?_)
      by_cases hqh : q' = h
      · rw [hqh]
      · exact (pair_ne H.pair hq' hh hqh ht h5 h6).elim
  · rw [List.pairwise_map]
    refine H.pair.imp (fun {x y} hxy => ?_)
    rw [setB_e, setB_e]; exact hxy

end
end Go.Wit
