/- Regions that leave their order open, with calls and new blocks in them: values that the order cannot change, blocks that lie hidden until all is run; no condition. -/
import Derived.Test.YtdobchoiiihfiaaB6
set_option linter.unusedVariables false
set_option linter.unusedSimpArgs false
namespace Go.Wit

/-- Values of which the machine's value is settled (fl: and that name no block). -/
def det1 (fl : Bool) : AV → Bool
  | .int _ _ => true
  | .bool _ => true
  | .str _ => true
  | .nilp => true
  | .nils => true
  | .nili => true
  | .ptr _ _ _ => !fl
  | .sl _ _ _ c => !fl && Nat.blt 0 c
  | _ => false
def det2 (fl : Bool) : AV → Bool
  | .agg cs => cs.all (det1 fl)
  | v => det1 fl v
def det3 (fl : Bool) : AV → Bool
  | .tup cs => cs.all (det2 fl)
  | v => det2 fl v

section
variable {h h' : Array Obj} {L L' : Lay} {O O' : Nat → Prop} {fl : Bool}

theorem det1_same {v : AV} {c c' : Value} (hd : det1 fl v = true) (hL : ∀ l e e', L l = some e → L' l = some e' → e = e') (h1 : VR h L O v c) (h2 : VR h' L' O' v c') : c = c' := by
  cases v <;> simp only [det1, Bool.false_eq_true, Bool.and_eq_true, Nat.blt_eq] at hd <;> (try (cases h1; cases h2; rfl))
  · cases h1 with
    | ptr _ _ _ e g1 => cases h2 with
      | ptr _ _ _ e' g2 => rw [hL _ _ _ g1 g2]
  · cases h1 with
    | sl0 _ _ a => omega
    | sl0n _ _ => omega
    | sl _ _ _ _ e g1 g2 g3 => cases h2 with
      | sl0 _ _ a => omega
      | sl0n _ _ => omega
      | sl _ _ _ _ e' k1 k2 k3 => rw [hL _ _ _ g1 k1]

theorem det1_move {v : AV} {c : Value} (hd : det1 fl v = true) (hL : fl = true ∨ ∀ l e, L l = some e → L' l = some e) (h1 : VR h L O v c) : VR h' L' O' v c := by
  cases v <;> simp only [det1, Bool.false_eq_true, Bool.and_eq_true, Nat.blt_eq] at hd
  · cases h1; exact .int _ _
  · cases h1; exact .bool _
  · cases h1; exact .str _
  · cases h1; exact .nilp
  · cases h1 with
    | ptr _ _ _ e g1 =>
      rcases hL with hL | hL
      · rw [hL] at hd; cases hd
      · exact .ptr _ _ _ e (hL _ _ g1)
  · cases h1; exact .nils
  · cases h1 with
    | sl0 _ _ a => exact .sl0 _ _ a
    | sl0n _ _ => exact .sl0n _ _
    | sl _ _ _ _ e g1 g2 g3 =>
      rcases hL with hL | hL
      · rw [hL] at hd; cases hd.1
      · exact .sl _ _ _ _ e (hL _ _ g1) g2 g3
  · cases h1; exact .nili

theorem dets_same {d : AV → Bool} (hd1 : ∀ {v : AV} {c c' : Value}, d v = true → VR h L O v c → VR h' L' O' v c' → c = c') : ∀ {cs : List AV} {vs vs' : List Value}, cs.all d = true → VRs h L O cs vs → VRs h' L' O' cs vs' → vs = vs'
  | [], _, _, _, h1, h2 => by cases h1; cases h2; rfl
  | c :: cs, _, _, hd, h1, h2 => by
    simp only [List.all_cons, Bool.and_eq_true] at hd
    cases h1 with
    | cons _ _ _ _ a1 a2 => cases h2 with
      | cons _ _ _ _ b1 b2 => rw [hd1 hd.1 a1 b1, dets_same hd1 hd.2 a2 b2]
theorem dets_move {d : AV → Bool} (hd1 : ∀ {v : AV} {c : Value}, d v = true → VR h L O v c → VR h' L' O' v c) : ∀ {cs : List AV} {vs : List Value}, cs.all d = true → VRs h L O cs vs → VRs h' L' O' cs vs
  | [], _, _, h1 => by cases h1; exact .nil
  | c :: cs, _, hd, h1 => by
    simp only [List.all_cons, Bool.and_eq_true] at hd
    cases h1 with
    | cons _ _ _ _ a1 a2 => exact .cons _ _ _ _ (hd1 hd.1 a1) (dets_move hd1 hd.2 a2)

theorem det2_same {v : AV} {c c' : Value} (hd : det2 fl v = true) (hL : ∀ l e e', L l = some e → L' l = some e' → e = e') (h1 : VR h L O v c) (h2 : VR h' L' O' v c') : c = c' := by
  unfold det2 at hd
  split at hd
  · cases h1 with
    | agg _ x a => cases h2 with
      | agg _ y b =>
        have := dets_same (fun hd => det1_same hd hL) hd a b
        rw [show x = y from by cases x; cases y; simp_all]
  · exact det1_same hd hL h1 h2
theorem det2_move {v : AV} {c : Value} (hd : det2 fl v = true) (hL : fl = true ∨ ∀ l e, L l = some e → L' l = some e) (h1 : VR h L O v c) : VR h' L' O' v c := by
  unfold det2 at hd
  split at hd
  · cases h1 with | agg _ x a => exact .agg _ _ (dets_move (fun hd => det1_move hd hL) hd a)
  · exact det1_move hd hL h1
theorem det3_same {v : AV} {c c' : Value} (hd : det3 fl v = true) (hL : ∀ l e e', L l = some e → L' l = some e' → e = e') (h1 : VR h L O v c) (h2 : VR h' L' O' v c') : c = c' := by
  unfold det3 at hd
  split at hd
  · cases h1 with
    | tup _ x a => cases h2 with
      | tup _ y b =>
        have := dets_same (fun hd => det2_same hd hL) hd a b
        rw [show x = y from by cases x; cases y; simp_all]
  · exact det2_same hd hL h1 h2
theorem det3_move {v : AV} {c : Value} (hd : det3 fl v = true) (hL : fl = true ∨ ∀ l e, L l = some e → L' l = some e) (h1 : VR h L O v c) : VR h' L' O' v c := by
  unfold det3 at hd
  split at hd
  · cases h1 with | tup _ x a => exact .tup _ _ (dets_move (fun hd => det2_move hd hL) hd a)
  · exact det2_move hd hL h1

end

/-- What of a value is settled whatever the world. -/
def flt (v : AV) : AV := bif det3 true v then v else .un
theorem flt_vr {h h' : Array Obj} {L L' : Lay} {O O' : Nat → Prop} {v : AV} {c : Value} (h1 : VR h L O v c) : VR h' L' O' (flt v) c := by
  unfold flt
  cases hd : det3 true v with
  | true => exact det3_move hd (.inl rfl) h1
  | false => exact .un _
def fl1 (v : AV) : AV := bif det1 true v then v else .un
theorem fl1_vr {h h' : Array Obj} {L L' : Lay} {O O' : Nat → Prop} {v : AV} {c : Value} (h1 : VR h L O v c) : VR h' L' O' (fl1 v) c := by
  unfold fl1
  cases hd : det1 true v with
  | true => exact det1_move hd (.inl rfl) h1
  | false => exact .un _

/-- Operations that do not look at the world at all. -/
def regOp : AOp → Bool
  | .mv _ => true
  | .ext _ _ => true
  | _ => false

theorem reg_still {P : Program} {o : Oper} {ao : AOp} {ev : Operand → Value} {w : World} {r : Value} (hc : chkOp P o.op ao = true) (hr : regOp ao = true) (h : (execOp ev o).run P w = .ok (.value r) w) (w' : World) : (execOp ev o).run P w' = .ok (.value r) w' := by
  cases ao <;> simp only [regOp, Bool.false_eq_true] at hr
  · cases hop : o.op <;> rw [hop] at hc <;> (try (simp [chkOp] at hc; done))
    all_goals
      simp only [execOp, hop, Sem.run_pure, Result.ok.injEq, and_true] at h ⊢
      try exact h
  · cases hop : o.op <;> rw [hop] at hc <;> (try (simp [chkOp] at hc; done))
    simp only [execOp, hop, Instr.extract] at h ⊢
    split at h
    · split at h
      · simp only [Sem.run_bind, Sem.run_pure, Result.andThen_ok, Result.ok.injEq, and_true] at h ⊢
        exact h
      · simp [stuck] at h
    · simp [stuck] at h

end Go.Wit
