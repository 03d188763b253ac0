/- What is told of an account that is looked at, or trusted: the program, and the document's answer. -/
import Derived.Test.YtcndgbaldjcdfaaVerD
namespace Go.Proofs.Ytcndgbaldjcdfaa
set_option maxHeartbeats 8000000
set_option maxRecDepth 100000
open Go Go.Lite
set_option linter.unusedSimpArgs false
set_option linter.unusedVariables false

theorem rightS_true {a : List UInt8} (h : rightS a = true) : a ≠ [] ∧ a.length ≤ 1000 := by unfold rightS at h; simpa using h
theorem look_CF {H : Hp} {c a : List UInt8} (hc : c.length ≤ 4611686018427387904) : CF Try.prog 8 [S c, S a] H fun v H' => v = lookV c a ∧ H' = H := by
  refine CF.go _ Try.func8 rfl ⟨Nat.le_of_ble_eq_true rfl, rfl⟩ fun base hb0 hn => ?_
  subst hb0
  have hr := fun (H : Hp) => CF.co noOwn rfl rfl (right_CF (H := H) (a := a))
  unfold lookV
  cases h1 : rightS a with
  | false =>
    rw [h1] at hr
    refine TC.seq ?_
    refine TC.region (id := 0) ?_
    refine TO.w hn (.assign _) rfl (guard0 rfl) (lop_assign (agree hn) rfl) rfl ?_
    refine TO.w hn (.assign _) rfl (guard0 rfl) (lop_assign (agree hn) rfl) rfl ?_
    refine TO.w hn (.assign _) rfl (guard0 rfl) (lop_assign (agree hn) rfl) rfl ?_
    refine TO.w hn (.assign _) rfl (guard0 rfl) (lop_assign (agree hn) rfl) rfl ?_
    refine TO.nil ?_
    refine TC.seq ?_
    refine TC.seq ?_
    refine TC.region (id := 1) ?_
    refine TO.w hn (.move _) rfl (guard0 rfl) (lop_move (agree hn) rfl) rfl ?_
    (refine TO.wc hn (.call _) rfl (guard0 rfl) (lop_func (agree hn) rfl rfl rfl) rfl (hr _) (fun v H2 hR => ?_); (obtain ⟨rfl, e2⟩ := hR; cases e2.symm))
    refine TO.w hn (.unOp _ _ _) rfl (guard0 rfl) (lop_not0 (agree hn) rfl) rfl ?_
    refine TO.nil ?_
    refine TC.condT (agree hn) rfl rfl ?_
    refine TC.seq ?_
    refine TC.region (id := 2) ?_
    refine TO.w hn (.assign _) rfl (guard0 rfl) (lop_assign (agree hn) rfl) rfl ?_
    refine TO.w hn (.assign _) rfl (guard0 rfl) (lop_assign (agree hn) rfl) rfl ?_
    refine TO.w hn (.assign _) rfl (guard0 rfl) (lop_assign (agree hn) rfl) rfl ?_
    refine TO.w hn (.assign _) rfl (guard0 rfl) (lop_assign (agree hn) rfl) rfl ?_
    refine TO.nil ?_
    refine TC.ret ?_
    exact ⟨trivial, _, lresT (agree hn) rfl rfl, rfl, rfl⟩
  | true =>
    rw [h1] at hr
    have ha := rightS_true h1
    simp only [Bool.true_eq_false, if_false]
    by_cases h2 : c = []
    · rw [if_pos h2]
      subst h2
      refine TC.seq ?_
      refine TC.region (id := 0) ?_
      refine TO.w hn (.assign _) rfl (guard0 rfl) (lop_assign (agree hn) rfl) rfl ?_
      refine TO.w hn (.assign _) rfl (guard0 rfl) (lop_assign (agree hn) rfl) rfl ?_
      refine TO.w hn (.assign _) rfl (guard0 rfl) (lop_assign (agree hn) rfl) rfl ?_
      refine TO.w hn (.assign _) rfl (guard0 rfl) (lop_assign (agree hn) rfl) rfl ?_
      refine TO.nil ?_
      refine TC.seq ?_
      refine TC.seq ?_
      refine TC.region (id := 1) ?_
      refine TO.w hn (.move _) rfl (guard0 rfl) (lop_move (agree hn) rfl) rfl ?_
      (refine TO.wc hn (.call _) rfl (guard0 rfl) (lop_func (agree hn) rfl rfl rfl) rfl (hr _) (fun v H2 hR => ?_); (obtain ⟨rfl, e2⟩ := hR; cases e2.symm))
      refine TO.w hn (.unOp _ _ _) rfl (guard0 rfl) (lop_not1 (agree hn) rfl) rfl ?_
      refine TO.nil ?_
      refine TC.condF (agree hn) rfl rfl ?_
      refine TC.skip ?_
      refine TC.seq ?_
      refine TC.seq ?_
      refine TC.region (id := 3) ?_
      refine TO.w hn (.move _) rfl (guard0 rfl) (lop_move (agree hn) rfl) rfl ?_
      refine TO.w hn (.binOp _ _ _ _ _) rfl (guard0 rfl) (lop_eqST (agree hn) rfl rfl (by rfl)) rfl ?_
      refine TO.nil ?_
      refine TC.condT (agree hn) rfl rfl ?_
      refine TC.seq ?_
      refine TC.region (id := 4) ?_
      refine TO.w hn (.move _) rfl (guard0 rfl) (lop_move (agree hn) rfl) rfl ?_
      (refine TO.wc hn (.call _) rfl (guard0 rfl) (lop_func (agree hn) rfl rfl rfl) rfl (CF.co noOwn rfl rfl (cell_CF (by omega))) (fun v H2 hR => ?_); (obtain ⟨rfl, e2⟩ := hR; cases e2.symm))
      refine TO.w hn (.assign _) rfl (guard0 rfl) (lop_assign (agree hn) rfl) rfl ?_
      refine TO.w hn (.assign _) rfl (guard0 rfl) (lop_assign (agree hn) rfl) rfl ?_
      refine TO.w hn (.assign _) rfl (guard0 rfl) (lop_assign (agree hn) rfl) rfl ?_
      refine TO.w hn (.assign _) rfl (guard0 rfl) (lop_assign (agree hn) rfl) rfl ?_
      refine TO.nil ?_
      refine TC.ret ?_
      exact ⟨trivial, _, lresT (agree hn) rfl rfl, rfl, rfl⟩
    · rw [if_neg h2]
      have hs := fun (H : Hp) => CF.co noOwn rfl rfl (said_CF (H := H) hc)
      cases h3 : parse c with
      | none =>
        obtain ⟨s, t, e⟩ := saidV_none h3
        rw [e] at hs
        refine TC.seq ?_
        refine TC.region (id := 0) ?_
        refine TO.w hn (.assign _) rfl (guard0 rfl) (lop_assign (agree hn) rfl) rfl ?_
        refine TO.w hn (.assign _) rfl (guard0 rfl) (lop_assign (agree hn) rfl) rfl ?_
        refine TO.w hn (.assign _) rfl (guard0 rfl) (lop_assign (agree hn) rfl) rfl ?_
        refine TO.w hn (.assign _) rfl (guard0 rfl) (lop_assign (agree hn) rfl) rfl ?_
        refine TO.nil ?_
        refine TC.seq ?_
        refine TC.seq ?_
        refine TC.region (id := 1) ?_
        refine TO.w hn (.move _) rfl (guard0 rfl) (lop_move (agree hn) rfl) rfl ?_
        (refine TO.wc hn (.call _) rfl (guard0 rfl) (lop_func (agree hn) rfl rfl rfl) rfl (hr _) (fun v H2 hR => ?_); (obtain ⟨rfl, e2⟩ := hR; cases e2.symm))
        refine TO.w hn (.unOp _ _ _) rfl (guard0 rfl) (lop_not1 (agree hn) rfl) rfl ?_
        refine TO.nil ?_
        refine TC.condF (agree hn) rfl rfl ?_
        refine TC.skip ?_
        refine TC.seq ?_
        refine TC.seq ?_
        refine TC.region (id := 3) ?_
        refine TO.w hn (.move _) rfl (guard0 rfl) (lop_move (agree hn) rfl) rfl ?_
        refine TO.w hn (.binOp _ _ _ _ _) rfl (guard0 rfl) (lop_eqSF (agree hn) rfl rfl (by assumption)) rfl ?_
        refine TO.nil ?_
        refine TC.condF (agree hn) rfl rfl ?_
        refine TC.skip ?_
        refine TC.seq ?_
        refine TC.region (id := 5) ?_
        refine TO.w hn (.move _) rfl (guard0 rfl) (lop_move (agree hn) rfl) rfl ?_
        (refine TO.wc hn (.call _) rfl (guard0 rfl) (lop_func (agree hn) rfl rfl rfl) rfl (hs _) (fun v H2 hR => ?_); (obtain ⟨rfl, e2⟩ := hR; cases e2.symm))
        refine TO.w hn (.move _) rfl (guard0 rfl) (lop_move (agree hn) rfl) rfl ?_
        refine TO.w hn (.extract _ _) rfl (guard0 rfl) (lop_ex (agree hn) rfl rfl) rfl ?_
        refine TO.w hn (.extract _ _) rfl (guard0 rfl) (lop_ex (agree hn) rfl rfl) rfl ?_
        refine TO.w hn (.extract _ _) rfl (guard0 rfl) (lop_ex (agree hn) rfl rfl) rfl ?_
        refine TO.w hn (.assign _) rfl (guard0 rfl) (lop_assign (agree hn) rfl) rfl ?_
        refine TO.w hn (.assign _) rfl (guard0 rfl) (lop_assign (agree hn) rfl) rfl ?_
        refine TO.w hn (.assign _) rfl (guard0 rfl) (lop_assign (agree hn) rfl) rfl ?_
        refine TO.nil ?_
        refine TC.seq ?_
        refine TC.seq ?_
        refine TC.region (id := 6) ?_
        refine TO.w hn (.move _) rfl (guard0 rfl) (lop_move (agree hn) rfl) rfl ?_
        refine TO.w hn (.unOp _ _ _) rfl (guard0 rfl) (lop_not0 (agree hn) rfl) rfl ?_
        refine TO.nil ?_
        refine TC.condT (agree hn) rfl rfl ?_
        refine TC.seq ?_
        refine TC.region (id := 7) ?_
        refine TO.w hn (.assign _) rfl (guard0 rfl) (lop_assign (agree hn) rfl) rfl ?_
        refine TO.w hn (.assign _) rfl (guard0 rfl) (lop_assign (agree hn) rfl) rfl ?_
        refine TO.w hn (.assign _) rfl (guard0 rfl) (lop_assign (agree hn) rfl) rfl ?_
        refine TO.w hn (.assign _) rfl (guard0 rfl) (lop_assign (agree hn) rfl) rfl ?_
        refine TO.nil ?_
        refine TC.ret ?_
        exact ⟨trivial, _, lresT (agree hn) rfl rfl, rfl, rfl⟩
      | some p =>
        obtain ⟨s, t⟩ := p
        have e := saidV_some h3
        rw [e] at hs
        cases t with
        | false =>
          refine TC.seq ?_
          refine TC.region (id := 0) ?_
          refine TO.w hn (.assign _) rfl (guard0 rfl) (lop_assign (agree hn) rfl) rfl ?_
          refine TO.w hn (.assign _) rfl (guard0 rfl) (lop_assign (agree hn) rfl) rfl ?_
          refine TO.w hn (.assign _) rfl (guard0 rfl) (lop_assign (agree hn) rfl) rfl ?_
          refine TO.w hn (.assign _) rfl (guard0 rfl) (lop_assign (agree hn) rfl) rfl ?_
          refine TO.nil ?_
          refine TC.seq ?_
          refine TC.seq ?_
          refine TC.region (id := 1) ?_
          refine TO.w hn (.move _) rfl (guard0 rfl) (lop_move (agree hn) rfl) rfl ?_
          (refine TO.wc hn (.call _) rfl (guard0 rfl) (lop_func (agree hn) rfl rfl rfl) rfl (hr _) (fun v H2 hR => ?_); (obtain ⟨rfl, e2⟩ := hR; cases e2.symm))
          refine TO.w hn (.unOp _ _ _) rfl (guard0 rfl) (lop_not1 (agree hn) rfl) rfl ?_
          refine TO.nil ?_
          refine TC.condF (agree hn) rfl rfl ?_
          refine TC.skip ?_
          refine TC.seq ?_
          refine TC.seq ?_
          refine TC.region (id := 3) ?_
          refine TO.w hn (.move _) rfl (guard0 rfl) (lop_move (agree hn) rfl) rfl ?_
          refine TO.w hn (.binOp _ _ _ _ _) rfl (guard0 rfl) (lop_eqSF (agree hn) rfl rfl (by assumption)) rfl ?_
          refine TO.nil ?_
          refine TC.condF (agree hn) rfl rfl ?_
          refine TC.skip ?_
          refine TC.seq ?_
          refine TC.region (id := 5) ?_
          refine TO.w hn (.move _) rfl (guard0 rfl) (lop_move (agree hn) rfl) rfl ?_
          (refine TO.wc hn (.call _) rfl (guard0 rfl) (lop_func (agree hn) rfl rfl rfl) rfl (hs _) (fun v H2 hR => ?_); (obtain ⟨rfl, e2⟩ := hR; cases e2.symm))
          refine TO.w hn (.move _) rfl (guard0 rfl) (lop_move (agree hn) rfl) rfl ?_
          refine TO.w hn (.extract _ _) rfl (guard0 rfl) (lop_ex (agree hn) rfl rfl) rfl ?_
          refine TO.w hn (.extract _ _) rfl (guard0 rfl) (lop_ex (agree hn) rfl rfl) rfl ?_
          refine TO.w hn (.extract _ _) rfl (guard0 rfl) (lop_ex (agree hn) rfl rfl) rfl ?_
          refine TO.w hn (.assign _) rfl (guard0 rfl) (lop_assign (agree hn) rfl) rfl ?_
          refine TO.w hn (.assign _) rfl (guard0 rfl) (lop_assign (agree hn) rfl) rfl ?_
          refine TO.w hn (.assign _) rfl (guard0 rfl) (lop_assign (agree hn) rfl) rfl ?_
          refine TO.nil ?_
          refine TC.seq ?_
          refine TC.seq ?_
          refine TC.region (id := 6) ?_
          refine TO.w hn (.move _) rfl (guard0 rfl) (lop_move (agree hn) rfl) rfl ?_
          refine TO.w hn (.unOp _ _ _) rfl (guard0 rfl) (lop_not1 (agree hn) rfl) rfl ?_
          refine TO.nil ?_
          refine TC.condF (agree hn) rfl rfl ?_
          refine TC.skip ?_
          refine TC.seq ?_
          refine TC.region (id := 8) ?_
          refine TO.w hn (.move _) rfl (guard0 rfl) (lop_move (agree hn) rfl) rfl ?_
          refine TO.w hn (.move _) rfl (guard0 rfl) (lop_move (agree hn) rfl) rfl ?_
          refine TO.woff hn (guardOff (agree hn) rfl rfl rfl rfl) rfl ?_
          refine TO.woff hn (guardOff (agree hn) rfl rfl rfl rfl) rfl ?_
          refine TO.woff hn (guardOff (agree hn) rfl rfl rfl rfl) rfl ?_
          refine TO.w hn (.pick _ _ _) rfl (guard0 rfl) (lop_pickF (agree hn) rfl rfl rfl) rfl ?_
          refine TO.w hn (.assign _) rfl (guard0 rfl) (lop_assign (agree hn) rfl) rfl ?_
          refine TO.nil ?_
          refine TC.seq ?_
          refine TC.region (id := 9) ?_
          refine TO.w hn (.move _) rfl (guard0 rfl) (lop_move (agree hn) rfl) rfl ?_
          refine TO.w hn (.move _) rfl (guard0 rfl) (lop_move (agree hn) rfl) rfl ?_
          refine TO.w hn (.binOp _ _ _ _ _) rfl (guard0 rfl) (lop_neS (agree hn) rfl rfl) rfl ?_
          refine TO.w hn (.move _) rfl (guard0 rfl) (lop_move (agree hn) rfl) rfl ?_
          refine TO.w hn (.move _) rfl (guard0 rfl) (lop_move (agree hn) rfl) rfl ?_
          refine TO.w hn (.move _) rfl (guard0 rfl) (lop_move (agree hn) rfl) rfl ?_
          (refine TO.wc hn (.call _) rfl (guard0 rfl) (lop_func (agree hn) rfl rfl rfl) rfl (CF.co noOwn rfl rfl (cell_CF (by omega))) (fun v H2 hR => ?_); (obtain ⟨rfl, e2⟩ := hR; cases e2.symm))
          refine TO.w hn (.assign _) rfl (guard0 rfl) (lop_assign (agree hn) rfl) rfl ?_
          refine TO.w hn (.assign _) rfl (guard0 rfl) (lop_assign (agree hn) rfl) rfl ?_
          refine TO.w hn (.assign _) rfl (guard0 rfl) (lop_assign (agree hn) rfl) rfl ?_
          refine TO.w hn (.assign _) rfl (guard0 rfl) (lop_assign (agree hn) rfl) rfl ?_
          refine TO.nil ?_
          refine TC.ret ?_
          refine ⟨trivial, _, lresT (agree hn) rfl rfl, ?_, rfl⟩
          simp [E, S]
        | true =>
          refine TC.seq ?_
          refine TC.region (id := 0) ?_
          refine TO.w hn (.assign _) rfl (guard0 rfl) (lop_assign (agree hn) rfl) rfl ?_
          refine TO.w hn (.assign _) rfl (guard0 rfl) (lop_assign (agree hn) rfl) rfl ?_
          refine TO.w hn (.assign _) rfl (guard0 rfl) (lop_assign (agree hn) rfl) rfl ?_
          refine TO.w hn (.assign _) rfl (guard0 rfl) (lop_assign (agree hn) rfl) rfl ?_
          refine TO.nil ?_
          refine TC.seq ?_
          refine TC.seq ?_
          refine TC.region (id := 1) ?_
          refine TO.w hn (.move _) rfl (guard0 rfl) (lop_move (agree hn) rfl) rfl ?_
          (refine TO.wc hn (.call _) rfl (guard0 rfl) (lop_func (agree hn) rfl rfl rfl) rfl (hr _) (fun v H2 hR => ?_); (obtain ⟨rfl, e2⟩ := hR; cases e2.symm))
          refine TO.w hn (.unOp _ _ _) rfl (guard0 rfl) (lop_not1 (agree hn) rfl) rfl ?_
          refine TO.nil ?_
          refine TC.condF (agree hn) rfl rfl ?_
          refine TC.skip ?_
          refine TC.seq ?_
          refine TC.seq ?_
          refine TC.region (id := 3) ?_
          refine TO.w hn (.move _) rfl (guard0 rfl) (lop_move (agree hn) rfl) rfl ?_
          refine TO.w hn (.binOp _ _ _ _ _) rfl (guard0 rfl) (lop_eqSF (agree hn) rfl rfl (by assumption)) rfl ?_
          refine TO.nil ?_
          refine TC.condF (agree hn) rfl rfl ?_
          refine TC.skip ?_
          refine TC.seq ?_
          refine TC.region (id := 5) ?_
          refine TO.w hn (.move _) rfl (guard0 rfl) (lop_move (agree hn) rfl) rfl ?_
          (refine TO.wc hn (.call _) rfl (guard0 rfl) (lop_func (agree hn) rfl rfl rfl) rfl (hs _) (fun v H2 hR => ?_); (obtain ⟨rfl, e2⟩ := hR; cases e2.symm))
          refine TO.w hn (.move _) rfl (guard0 rfl) (lop_move (agree hn) rfl) rfl ?_
          refine TO.w hn (.extract _ _) rfl (guard0 rfl) (lop_ex (agree hn) rfl rfl) rfl ?_
          refine TO.w hn (.extract _ _) rfl (guard0 rfl) (lop_ex (agree hn) rfl rfl) rfl ?_
          refine TO.w hn (.extract _ _) rfl (guard0 rfl) (lop_ex (agree hn) rfl rfl) rfl ?_
          refine TO.w hn (.assign _) rfl (guard0 rfl) (lop_assign (agree hn) rfl) rfl ?_
          refine TO.w hn (.assign _) rfl (guard0 rfl) (lop_assign (agree hn) rfl) rfl ?_
          refine TO.w hn (.assign _) rfl (guard0 rfl) (lop_assign (agree hn) rfl) rfl ?_
          refine TO.nil ?_
          refine TC.seq ?_
          refine TC.seq ?_
          refine TC.region (id := 6) ?_
          refine TO.w hn (.move _) rfl (guard0 rfl) (lop_move (agree hn) rfl) rfl ?_
          refine TO.w hn (.unOp _ _ _) rfl (guard0 rfl) (lop_not1 (agree hn) rfl) rfl ?_
          refine TO.nil ?_
          refine TC.condF (agree hn) rfl rfl ?_
          refine TC.skip ?_
          refine TC.seq ?_
          refine TC.region (id := 8) ?_
          refine TO.w hn (.move _) rfl (guard0 rfl) (lop_move (agree hn) rfl) rfl ?_
          refine TO.w hn (.move _) rfl (guard0 rfl) (lop_move (agree hn) rfl) rfl ?_
          refine TO.w hn (.move _) rfl (guardOn (agree hn) rfl rfl rfl rfl) (lop_move (agree hn) rfl) rfl ?_
          refine TO.w hn (.move _) rfl (guardOn (agree hn) rfl rfl rfl rfl) (lop_move (agree hn) rfl) rfl ?_
          refine TO.w hn (.binOp _ _ _ _ _) rfl (guardOn (agree hn) rfl rfl rfl rfl) (lop_eqS (agree hn) rfl rfl) rfl ?_
          refine TO.w hn (.pick _ _ _) rfl (guard0 rfl) (lop_pickT (agree hn) rfl rfl rfl) rfl ?_
          refine TO.w hn (.assign _) rfl (guard0 rfl) (lop_assign (agree hn) rfl) rfl ?_
          refine TO.nil ?_
          refine TC.seq ?_
          refine TC.region (id := 9) ?_
          refine TO.w hn (.move _) rfl (guard0 rfl) (lop_move (agree hn) rfl) rfl ?_
          refine TO.w hn (.move _) rfl (guard0 rfl) (lop_move (agree hn) rfl) rfl ?_
          refine TO.w hn (.binOp _ _ _ _ _) rfl (guard0 rfl) (lop_neS (agree hn) rfl rfl) rfl ?_
          refine TO.w hn (.move _) rfl (guard0 rfl) (lop_move (agree hn) rfl) rfl ?_
          refine TO.w hn (.move _) rfl (guard0 rfl) (lop_move (agree hn) rfl) rfl ?_
          refine TO.w hn (.move _) rfl (guard0 rfl) (lop_move (agree hn) rfl) rfl ?_
          (refine TO.wc hn (.call _) rfl (guard0 rfl) (lop_func (agree hn) rfl rfl rfl) rfl (CF.co noOwn rfl rfl (cell_CF (by omega))) (fun v H2 hR => ?_); (obtain ⟨rfl, e2⟩ := hR; cases e2.symm))
          refine TO.w hn (.assign _) rfl (guard0 rfl) (lop_assign (agree hn) rfl) rfl ?_
          refine TO.w hn (.assign _) rfl (guard0 rfl) (lop_assign (agree hn) rfl) rfl ?_
          refine TO.w hn (.assign _) rfl (guard0 rfl) (lop_assign (agree hn) rfl) rfl ?_
          refine TO.w hn (.assign _) rfl (guard0 rfl) (lop_assign (agree hn) rfl) rfl ?_
          refine TO.nil ?_
          refine TC.ret ?_
          refine ⟨trivial, _, lresT (agree hn) rfl rfl, ?_, rfl⟩
          simp [E, S]
theorem lookR_CF {H : Hp} {c a : List UInt8} (hc : c.length ≤ 4611686018427387904) : CF Try.prog 9 [S c, S a] H fun v H' => v = lookV c a ∧ H' = H := by
  refine CF.go _ Try.func9 rfl ⟨Nat.le_of_ble_eq_true rfl, rfl⟩ fun base hb0 hn => ?_
  subst hb0
  have hr := fun (H : Hp) => CF.co noOwn rfl rfl (account_CF (H := H) (a := a))
  unfold lookV
  cases h1 : rightS a with
  | false =>
    rw [h1] at hr
    refine TC.seq ?_
    refine TC.region (id := 0) ?_
    refine TO.w hn (.assign _) rfl (guard0 rfl) (lop_assign (agree hn) rfl) rfl ?_
    refine TO.w hn (.assign _) rfl (guard0 rfl) (lop_assign (agree hn) rfl) rfl ?_
    refine TO.w hn (.assign _) rfl (guard0 rfl) (lop_assign (agree hn) rfl) rfl ?_
    refine TO.w hn (.assign _) rfl (guard0 rfl) (lop_assign (agree hn) rfl) rfl ?_
    refine TO.nil ?_
    refine TC.seq ?_
    refine TC.seq ?_
    refine TC.region (id := 1) ?_
    refine TO.w hn (.move _) rfl (guard0 rfl) (lop_move (agree hn) rfl) rfl ?_
    (refine TO.wc hn (.call _) rfl (guard0 rfl) (lop_func (agree hn) rfl rfl rfl) rfl (hr _) (fun v H2 hR => ?_); (obtain ⟨rfl, e2⟩ := hR; cases e2.symm))
    refine TO.w hn (.unOp _ _ _) rfl (guard0 rfl) (lop_not0 (agree hn) rfl) rfl ?_
    refine TO.nil ?_
    refine TC.condT (agree hn) rfl rfl ?_
    refine TC.seq ?_
    refine TC.region (id := 2) ?_
    refine TO.w hn (.assign _) rfl (guard0 rfl) (lop_assign (agree hn) rfl) rfl ?_
    refine TO.w hn (.assign _) rfl (guard0 rfl) (lop_assign (agree hn) rfl) rfl ?_
    refine TO.w hn (.assign _) rfl (guard0 rfl) (lop_assign (agree hn) rfl) rfl ?_
    refine TO.w hn (.assign _) rfl (guard0 rfl) (lop_assign (agree hn) rfl) rfl ?_
    refine TO.nil ?_
    refine TC.ret ?_
    exact ⟨trivial, _, lresT (agree hn) rfl rfl, rfl, rfl⟩
  | true =>
    rw [h1] at hr
    have ha := rightS_true h1
    simp only [Bool.true_eq_false, if_false]
    by_cases h2 : c = []
    · rw [if_pos h2]
      subst h2
      refine TC.seq ?_
      refine TC.region (id := 0) ?_
      refine TO.w hn (.assign _) rfl (guard0 rfl) (lop_assign (agree hn) rfl) rfl ?_
      refine TO.w hn (.assign _) rfl (guard0 rfl) (lop_assign (agree hn) rfl) rfl ?_
      refine TO.w hn (.assign _) rfl (guard0 rfl) (lop_assign (agree hn) rfl) rfl ?_
      refine TO.w hn (.assign _) rfl (guard0 rfl) (lop_assign (agree hn) rfl) rfl ?_
      refine TO.nil ?_
      refine TC.seq ?_
      refine TC.seq ?_
      refine TC.region (id := 1) ?_
      refine TO.w hn (.move _) rfl (guard0 rfl) (lop_move (agree hn) rfl) rfl ?_
      (refine TO.wc hn (.call _) rfl (guard0 rfl) (lop_func (agree hn) rfl rfl rfl) rfl (hr _) (fun v H2 hR => ?_); (obtain ⟨rfl, e2⟩ := hR; cases e2.symm))
      refine TO.w hn (.unOp _ _ _) rfl (guard0 rfl) (lop_not1 (agree hn) rfl) rfl ?_
      refine TO.nil ?_
      refine TC.condF (agree hn) rfl rfl ?_
      refine TC.skip ?_
      refine TC.seq ?_
      refine TC.seq ?_
      refine TC.region (id := 3) ?_
      refine TO.w hn (.move _) rfl (guard0 rfl) (lop_move (agree hn) rfl) rfl ?_
      refine TO.w hn (.binOp _ _ _ _ _) rfl (guard0 rfl) (lop_eqST (agree hn) rfl rfl (by rfl)) rfl ?_
      refine TO.nil ?_
      refine TC.condT (agree hn) rfl rfl ?_
      refine TC.seq ?_
      refine TC.region (id := 4) ?_
      refine TO.w hn (.move _) rfl (guard0 rfl) (lop_move (agree hn) rfl) rfl ?_
      (refine TO.wc hn (.call _) rfl (guard0 rfl) (lop_func (agree hn) rfl rfl rfl) rfl (CF.co noOwn rfl rfl (cellR_CF (by omega))) (fun v H2 hR => ?_); (obtain ⟨rfl, e2⟩ := hR; cases e2.symm))
      refine TO.w hn (.assign _) rfl (guard0 rfl) (lop_assign (agree hn) rfl) rfl ?_
      refine TO.w hn (.assign _) rfl (guard0 rfl) (lop_assign (agree hn) rfl) rfl ?_
      refine TO.w hn (.assign _) rfl (guard0 rfl) (lop_assign (agree hn) rfl) rfl ?_
      refine TO.w hn (.assign _) rfl (guard0 rfl) (lop_assign (agree hn) rfl) rfl ?_
      refine TO.nil ?_
      refine TC.ret ?_
      exact ⟨trivial, _, lresT (agree hn) rfl rfl, rfl, rfl⟩
    · rw [if_neg h2]
      have hs := fun (H : Hp) => CF.co noOwn rfl rfl (saidR_CF (H := H) hc)
      cases h3 : parse c with
      | none =>
        rw [h3] at hs
        simp only at hs
        by_cases h4 : textA c 1000 = []
        · rw [if_pos h4] at hs
          refine TC.seq ?_
          refine TC.region (id := 0) ?_
          refine TO.w hn (.assign _) rfl (guard0 rfl) (lop_assign (agree hn) rfl) rfl ?_
          refine TO.w hn (.assign _) rfl (guard0 rfl) (lop_assign (agree hn) rfl) rfl ?_
          refine TO.w hn (.assign _) rfl (guard0 rfl) (lop_assign (agree hn) rfl) rfl ?_
          refine TO.w hn (.assign _) rfl (guard0 rfl) (lop_assign (agree hn) rfl) rfl ?_
          refine TO.nil ?_
          refine TC.seq ?_
          refine TC.seq ?_
          refine TC.region (id := 1) ?_
          refine TO.w hn (.move _) rfl (guard0 rfl) (lop_move (agree hn) rfl) rfl ?_
          (refine TO.wc hn (.call _) rfl (guard0 rfl) (lop_func (agree hn) rfl rfl rfl) rfl (hr _) (fun v H2 hR => ?_); (obtain ⟨rfl, e2⟩ := hR; cases e2.symm))
          refine TO.w hn (.unOp _ _ _) rfl (guard0 rfl) (lop_not1 (agree hn) rfl) rfl ?_
          refine TO.nil ?_
          refine TC.condF (agree hn) rfl rfl ?_
          refine TC.skip ?_
          refine TC.seq ?_
          refine TC.seq ?_
          refine TC.region (id := 3) ?_
          refine TO.w hn (.move _) rfl (guard0 rfl) (lop_move (agree hn) rfl) rfl ?_
          refine TO.w hn (.binOp _ _ _ _ _) rfl (guard0 rfl) (lop_eqSF (agree hn) rfl rfl (by assumption)) rfl ?_
          refine TO.nil ?_
          refine TC.condF (agree hn) rfl rfl ?_
          refine TC.skip ?_
          refine TC.seq ?_
          refine TC.region (id := 5) ?_
          refine TO.w hn (.move _) rfl (guard0 rfl) (lop_move (agree hn) rfl) rfl ?_
          (refine TO.wc hn (.call _) rfl (guard0 rfl) (lop_func (agree hn) rfl rfl rfl) rfl (hs _) (fun v H2 hR => ?_); (obtain ⟨rfl, e2⟩ := hR; cases e2.symm))
          refine TO.w hn (.move _) rfl (guard0 rfl) (lop_move (agree hn) rfl) rfl ?_
          refine TO.w hn (.extract _ _) rfl (guard0 rfl) (lop_ex (agree hn) rfl rfl) rfl ?_
          refine TO.w hn (.extract _ _) rfl (guard0 rfl) (lop_ex (agree hn) rfl rfl) rfl ?_
          refine TO.w hn (.extract _ _) rfl (guard0 rfl) (lop_ex (agree hn) rfl rfl) rfl ?_
          refine TO.w hn (.assign _) rfl (guard0 rfl) (lop_assign (agree hn) rfl) rfl ?_
          refine TO.w hn (.assign _) rfl (guard0 rfl) (lop_assign (agree hn) rfl) rfl ?_
          refine TO.w hn (.assign _) rfl (guard0 rfl) (lop_assign (agree hn) rfl) rfl ?_
          refine TO.nil ?_
          refine TC.seq ?_
          refine TC.seq ?_
          refine TC.region (id := 6) ?_
          refine TO.w hn (.move _) rfl (guard0 rfl) (lop_move (agree hn) rfl) rfl ?_
          refine TO.w hn (.unOp _ _ _) rfl (guard0 rfl) (lop_not0 (agree hn) rfl) rfl ?_
          refine TO.nil ?_
          refine TC.condT (agree hn) rfl rfl ?_
          refine TC.seq ?_
          refine TC.region (id := 7) ?_
          refine TO.w hn (.assign _) rfl (guard0 rfl) (lop_assign (agree hn) rfl) rfl ?_
          refine TO.w hn (.assign _) rfl (guard0 rfl) (lop_assign (agree hn) rfl) rfl ?_
          refine TO.w hn (.assign _) rfl (guard0 rfl) (lop_assign (agree hn) rfl) rfl ?_
          refine TO.w hn (.assign _) rfl (guard0 rfl) (lop_assign (agree hn) rfl) rfl ?_
          refine TO.nil ?_
          refine TC.ret ?_
          exact ⟨trivial, _, lresT (agree hn) rfl rfl, rfl, rfl⟩
        · rw [if_neg h4] at hs
          refine TC.seq ?_
          refine TC.region (id := 0) ?_
          refine TO.w hn (.assign _) rfl (guard0 rfl) (lop_assign (agree hn) rfl) rfl ?_
          refine TO.w hn (.assign _) rfl (guard0 rfl) (lop_assign (agree hn) rfl) rfl ?_
          refine TO.w hn (.assign _) rfl (guard0 rfl) (lop_assign (agree hn) rfl) rfl ?_
          refine TO.w hn (.assign _) rfl (guard0 rfl) (lop_assign (agree hn) rfl) rfl ?_
          refine TO.nil ?_
          refine TC.seq ?_
          refine TC.seq ?_
          refine TC.region (id := 1) ?_
          refine TO.w hn (.move _) rfl (guard0 rfl) (lop_move (agree hn) rfl) rfl ?_
          (refine TO.wc hn (.call _) rfl (guard0 rfl) (lop_func (agree hn) rfl rfl rfl) rfl (hr _) (fun v H2 hR => ?_); (obtain ⟨rfl, e2⟩ := hR; cases e2.symm))
          refine TO.w hn (.unOp _ _ _) rfl (guard0 rfl) (lop_not1 (agree hn) rfl) rfl ?_
          refine TO.nil ?_
          refine TC.condF (agree hn) rfl rfl ?_
          refine TC.skip ?_
          refine TC.seq ?_
          refine TC.seq ?_
          refine TC.region (id := 3) ?_
          refine TO.w hn (.move _) rfl (guard0 rfl) (lop_move (agree hn) rfl) rfl ?_
          refine TO.w hn (.binOp _ _ _ _ _) rfl (guard0 rfl) (lop_eqSF (agree hn) rfl rfl (by assumption)) rfl ?_
          refine TO.nil ?_
          refine TC.condF (agree hn) rfl rfl ?_
          refine TC.skip ?_
          refine TC.seq ?_
          refine TC.region (id := 5) ?_
          refine TO.w hn (.move _) rfl (guard0 rfl) (lop_move (agree hn) rfl) rfl ?_
          (refine TO.wc hn (.call _) rfl (guard0 rfl) (lop_func (agree hn) rfl rfl rfl) rfl (hs _) (fun v H2 hR => ?_); (obtain ⟨rfl, e2⟩ := hR; cases e2.symm))
          refine TO.w hn (.move _) rfl (guard0 rfl) (lop_move (agree hn) rfl) rfl ?_
          refine TO.w hn (.extract _ _) rfl (guard0 rfl) (lop_ex (agree hn) rfl rfl) rfl ?_
          refine TO.w hn (.extract _ _) rfl (guard0 rfl) (lop_ex (agree hn) rfl rfl) rfl ?_
          refine TO.w hn (.extract _ _) rfl (guard0 rfl) (lop_ex (agree hn) rfl rfl) rfl ?_
          refine TO.w hn (.assign _) rfl (guard0 rfl) (lop_assign (agree hn) rfl) rfl ?_
          refine TO.w hn (.assign _) rfl (guard0 rfl) (lop_assign (agree hn) rfl) rfl ?_
          refine TO.w hn (.assign _) rfl (guard0 rfl) (lop_assign (agree hn) rfl) rfl ?_
          refine TO.nil ?_
          refine TC.seq ?_
          refine TC.seq ?_
          refine TC.region (id := 6) ?_
          refine TO.w hn (.move _) rfl (guard0 rfl) (lop_move (agree hn) rfl) rfl ?_
          refine TO.w hn (.unOp _ _ _) rfl (guard0 rfl) (lop_not0 (agree hn) rfl) rfl ?_
          refine TO.nil ?_
          refine TC.condT (agree hn) rfl rfl ?_
          refine TC.seq ?_
          refine TC.region (id := 7) ?_
          refine TO.w hn (.assign _) rfl (guard0 rfl) (lop_assign (agree hn) rfl) rfl ?_
          refine TO.w hn (.assign _) rfl (guard0 rfl) (lop_assign (agree hn) rfl) rfl ?_
          refine TO.w hn (.assign _) rfl (guard0 rfl) (lop_assign (agree hn) rfl) rfl ?_
          refine TO.w hn (.assign _) rfl (guard0 rfl) (lop_assign (agree hn) rfl) rfl ?_
          refine TO.nil ?_
          refine TC.ret ?_
          exact ⟨trivial, _, lresT (agree hn) rfl rfl, rfl, rfl⟩
      | some p =>
        obtain ⟨s, t⟩ := p
        have e := (parse_cell h3).1
        rw [h3] at hs
        simp only at hs
        by_cases h5 : s = a
        · subst h5
          refine TC.seq ?_
          refine TC.region (id := 0) ?_
          refine TO.w hn (.assign _) rfl (guard0 rfl) (lop_assign (agree hn) rfl) rfl ?_
          refine TO.w hn (.assign _) rfl (guard0 rfl) (lop_assign (agree hn) rfl) rfl ?_
          refine TO.w hn (.assign _) rfl (guard0 rfl) (lop_assign (agree hn) rfl) rfl ?_
          refine TO.w hn (.assign _) rfl (guard0 rfl) (lop_assign (agree hn) rfl) rfl ?_
          refine TO.nil ?_
          refine TC.seq ?_
          refine TC.seq ?_
          refine TC.region (id := 1) ?_
          refine TO.w hn (.move _) rfl (guard0 rfl) (lop_move (agree hn) rfl) rfl ?_
          (refine TO.wc hn (.call _) rfl (guard0 rfl) (lop_func (agree hn) rfl rfl rfl) rfl (hr _) (fun v H2 hR => ?_); (obtain ⟨rfl, e2⟩ := hR; cases e2.symm))
          refine TO.w hn (.unOp _ _ _) rfl (guard0 rfl) (lop_not1 (agree hn) rfl) rfl ?_
          refine TO.nil ?_
          refine TC.condF (agree hn) rfl rfl ?_
          refine TC.skip ?_
          refine TC.seq ?_
          refine TC.seq ?_
          refine TC.region (id := 3) ?_
          refine TO.w hn (.move _) rfl (guard0 rfl) (lop_move (agree hn) rfl) rfl ?_
          refine TO.w hn (.binOp _ _ _ _ _) rfl (guard0 rfl) (lop_eqSF (agree hn) rfl rfl (by assumption)) rfl ?_
          refine TO.nil ?_
          refine TC.condF (agree hn) rfl rfl ?_
          refine TC.skip ?_
          refine TC.seq ?_
          refine TC.region (id := 5) ?_
          refine TO.w hn (.move _) rfl (guard0 rfl) (lop_move (agree hn) rfl) rfl ?_
          (refine TO.wc hn (.call _) rfl (guard0 rfl) (lop_func (agree hn) rfl rfl rfl) rfl (hs _) (fun v H2 hR => ?_); (obtain ⟨rfl, e2⟩ := hR; cases e2.symm))
          refine TO.w hn (.move _) rfl (guard0 rfl) (lop_move (agree hn) rfl) rfl ?_
          refine TO.w hn (.extract _ _) rfl (guard0 rfl) (lop_ex (agree hn) rfl rfl) rfl ?_
          refine TO.w hn (.extract _ _) rfl (guard0 rfl) (lop_ex (agree hn) rfl rfl) rfl ?_
          refine TO.w hn (.extract _ _) rfl (guard0 rfl) (lop_ex (agree hn) rfl rfl) rfl ?_
          refine TO.w hn (.assign _) rfl (guard0 rfl) (lop_assign (agree hn) rfl) rfl ?_
          refine TO.w hn (.assign _) rfl (guard0 rfl) (lop_assign (agree hn) rfl) rfl ?_
          refine TO.w hn (.assign _) rfl (guard0 rfl) (lop_assign (agree hn) rfl) rfl ?_
          refine TO.nil ?_
          refine TC.seq ?_
          refine TC.seq ?_
          refine TC.region (id := 6) ?_
          refine TO.w hn (.move _) rfl (guard0 rfl) (lop_move (agree hn) rfl) rfl ?_
          refine TO.w hn (.unOp _ _ _) rfl (guard0 rfl) (lop_not1 (agree hn) rfl) rfl ?_
          refine TO.nil ?_
          refine TC.condF (agree hn) rfl rfl ?_
          refine TC.skip ?_
          refine TC.seq ?_
          refine TC.seq ?_
          refine TC.region (id := 8) ?_
          refine TO.w hn (.move _) rfl (guard0 rfl) (lop_move (agree hn) rfl) rfl ?_
          refine TO.w hn (.move _) rfl (guard0 rfl) (lop_move (agree hn) rfl) rfl ?_
          refine TO.w hn (.binOp _ _ _ _ _) rfl (guard0 rfl) (lop_neSF (agree hn) rfl rfl (by rfl)) rfl ?_
          refine TO.nil ?_
          refine TC.condF (agree hn) rfl rfl ?_
          refine TC.skip ?_
          refine TC.seq ?_
          refine TC.region (id := 10) ?_
          refine TO.w hn (.move _) rfl (guard0 rfl) (lop_move (agree hn) rfl) rfl ?_
          refine TO.w hn (.move _) rfl (guard0 rfl) (lop_move (agree hn) rfl) rfl ?_
          refine TO.w hn (.assign _) rfl (guard0 rfl) (lop_assign (agree hn) rfl) rfl ?_
          refine TO.w hn (.assign _) rfl (guard0 rfl) (lop_assign (agree hn) rfl) rfl ?_
          refine TO.w hn (.assign _) rfl (guard0 rfl) (lop_assign (agree hn) rfl) rfl ?_
          refine TO.w hn (.assign _) rfl (guard0 rfl) (lop_assign (agree hn) rfl) rfl ?_
          refine TO.nil ?_
          refine TC.ret ?_
          refine ⟨trivial, _, lresT (agree hn) rfl rfl, ?_, rfl⟩
          simp [← e, E, S]
        ·
          refine TC.seq ?_
          refine TC.region (id := 0) ?_
          refine TO.w hn (.assign _) rfl (guard0 rfl) (lop_assign (agree hn) rfl) rfl ?_
          refine TO.w hn (.assign _) rfl (guard0 rfl) (lop_assign (agree hn) rfl) rfl ?_
          refine TO.w hn (.assign _) rfl (guard0 rfl) (lop_assign (agree hn) rfl) rfl ?_
          refine TO.w hn (.assign _) rfl (guard0 rfl) (lop_assign (agree hn) rfl) rfl ?_
          refine TO.nil ?_
          refine TC.seq ?_
          refine TC.seq ?_
          refine TC.region (id := 1) ?_
          refine TO.w hn (.move _) rfl (guard0 rfl) (lop_move (agree hn) rfl) rfl ?_
          (refine TO.wc hn (.call _) rfl (guard0 rfl) (lop_func (agree hn) rfl rfl rfl) rfl (hr _) (fun v H2 hR => ?_); (obtain ⟨rfl, e2⟩ := hR; cases e2.symm))
          refine TO.w hn (.unOp _ _ _) rfl (guard0 rfl) (lop_not1 (agree hn) rfl) rfl ?_
          refine TO.nil ?_
          refine TC.condF (agree hn) rfl rfl ?_
          refine TC.skip ?_
          refine TC.seq ?_
          refine TC.seq ?_
          refine TC.region (id := 3) ?_
          refine TO.w hn (.move _) rfl (guard0 rfl) (lop_move (agree hn) rfl) rfl ?_
          refine TO.w hn (.binOp _ _ _ _ _) rfl (guard0 rfl) (lop_eqSF (agree hn) rfl rfl (by assumption)) rfl ?_
          refine TO.nil ?_
          refine TC.condF (agree hn) rfl rfl ?_
          refine TC.skip ?_
          refine TC.seq ?_
          refine TC.region (id := 5) ?_
          refine TO.w hn (.move _) rfl (guard0 rfl) (lop_move (agree hn) rfl) rfl ?_
          (refine TO.wc hn (.call _) rfl (guard0 rfl) (lop_func (agree hn) rfl rfl rfl) rfl (hs _) (fun v H2 hR => ?_); (obtain ⟨rfl, e2⟩ := hR; cases e2.symm))
          refine TO.w hn (.move _) rfl (guard0 rfl) (lop_move (agree hn) rfl) rfl ?_
          refine TO.w hn (.extract _ _) rfl (guard0 rfl) (lop_ex (agree hn) rfl rfl) rfl ?_
          refine TO.w hn (.extract _ _) rfl (guard0 rfl) (lop_ex (agree hn) rfl rfl) rfl ?_
          refine TO.w hn (.extract _ _) rfl (guard0 rfl) (lop_ex (agree hn) rfl rfl) rfl ?_
          refine TO.w hn (.assign _) rfl (guard0 rfl) (lop_assign (agree hn) rfl) rfl ?_
          refine TO.w hn (.assign _) rfl (guard0 rfl) (lop_assign (agree hn) rfl) rfl ?_
          refine TO.w hn (.assign _) rfl (guard0 rfl) (lop_assign (agree hn) rfl) rfl ?_
          refine TO.nil ?_
          refine TC.seq ?_
          refine TC.seq ?_
          refine TC.region (id := 6) ?_
          refine TO.w hn (.move _) rfl (guard0 rfl) (lop_move (agree hn) rfl) rfl ?_
          refine TO.w hn (.unOp _ _ _) rfl (guard0 rfl) (lop_not1 (agree hn) rfl) rfl ?_
          refine TO.nil ?_
          refine TC.condF (agree hn) rfl rfl ?_
          refine TC.skip ?_
          refine TC.seq ?_
          refine TC.seq ?_
          refine TC.region (id := 8) ?_
          refine TO.w hn (.move _) rfl (guard0 rfl) (lop_move (agree hn) rfl) rfl ?_
          refine TO.w hn (.move _) rfl (guard0 rfl) (lop_move (agree hn) rfl) rfl ?_
          refine TO.w hn (.binOp _ _ _ _ _) rfl (guard0 rfl) (lop_neST (agree hn) rfl rfl (by assumption)) rfl ?_
          refine TO.nil ?_
          refine TC.condT (agree hn) rfl rfl ?_
          refine TC.seq ?_
          refine TC.region (id := 9) ?_
          refine TO.w hn (.move _) rfl (guard0 rfl) (lop_move (agree hn) rfl) rfl ?_
          (refine TO.wc hn (.call _) rfl (guard0 rfl) (lop_func (agree hn) rfl rfl rfl) rfl (CF.co noOwn rfl rfl (cellR_CF (by omega))) (fun v H2 hR => ?_); (obtain ⟨rfl, e2⟩ := hR; cases e2.symm))
          refine TO.w hn (.assign _) rfl (guard0 rfl) (lop_assign (agree hn) rfl) rfl ?_
          refine TO.w hn (.assign _) rfl (guard0 rfl) (lop_assign (agree hn) rfl) rfl ?_
          refine TO.w hn (.assign _) rfl (guard0 rfl) (lop_assign (agree hn) rfl) rfl ?_
          refine TO.w hn (.assign _) rfl (guard0 rfl) (lop_assign (agree hn) rfl) rfl ?_
          refine TO.nil ?_
          refine TC.ret ?_
          refine ⟨trivial, _, lresT (agree hn) rfl rfl, ?_, rfl⟩
          simp [h5, E, S]
theorem trust_CF {H : Hp} {c a : List UInt8} (hc : c.length ≤ 4611686018427387904) : CF Try.prog 10 [S c, S a] H fun v H' => v = trustV c a ∧ H' = H := by
  refine CF.go _ Try.func10 rfl ⟨Nat.le_of_ble_eq_true rfl, rfl⟩ fun base hb0 hn => ?_
  subst hb0
  have hr := fun (H : Hp) => CF.co noOwn rfl rfl (right_CF (H := H) (a := a))
  have hs := fun (H : Hp) => CF.co noOwn rfl rfl (said_CF (H := H) hc)
  unfold trustV
  obtain ⟨s, t, b, e⟩ : ∃ s t b, saidV c = .tuple #[S s, .bool t, .bool b] := ⟨_, _, _, rfl⟩
  cases h1 : rightS a with
  | false =>
    rw [h1] at hr
    rw [e] at hs
    refine TC.seq ?_
    refine TC.region (id := 0) ?_
    refine TO.w hn (.assign _) rfl (guard0 rfl) (lop_assign (agree hn) rfl) rfl ?_
    refine TO.w hn (.assign _) rfl (guard0 rfl) (lop_assign (agree hn) rfl) rfl ?_
    refine TO.nil ?_
    refine TC.seq ?_
    refine TC.region (id := 1) ?_
    refine TO.w hn (.move _) rfl (guard0 rfl) (lop_move (agree hn) rfl) rfl ?_
    (refine TO.wc hn (.call _) rfl (guard0 rfl) (lop_func (agree hn) rfl rfl rfl) rfl (hs _) (fun v H2 hR => ?_); (obtain ⟨rfl, e2⟩ := hR; cases e2.symm))
    refine TO.w hn (.move _) rfl (guard0 rfl) (lop_move (agree hn) rfl) rfl ?_
    refine TO.w hn (.extract _ _) rfl (guard0 rfl) (lop_ex (agree hn) rfl rfl) rfl ?_
    refine TO.w hn (.extract _ _) rfl (guard0 rfl) (lop_ex (agree hn) rfl rfl) rfl ?_
    refine TO.w hn (.extract _ _) rfl (guard0 rfl) (lop_ex (agree hn) rfl rfl) rfl ?_
    refine TO.w hn (.assign _) rfl (guard0 rfl) (lop_assign (agree hn) rfl) rfl ?_
    refine TO.w hn (.assign _) rfl (guard0 rfl) (lop_assign (agree hn) rfl) rfl ?_
    refine TO.w hn (.assign _) rfl (guard0 rfl) (lop_assign (agree hn) rfl) rfl ?_
    refine TO.nil ?_
    refine TC.seq ?_
    refine TC.block ?_
    refine TC.seq ?_
    refine TC.region (id := 2) ?_
    refine TO.w hn (.move _) rfl (guard0 rfl) (lop_move (agree hn) rfl) rfl ?_
    (refine TO.wc hn (.call _) rfl (guard0 rfl) (lop_func (agree hn) rfl rfl rfl) rfl (hr _) (fun v H2 hR => ?_); (obtain ⟨rfl, e2⟩ := hR; cases e2.symm))
    refine TO.w hn (.unOp _ _ _) rfl (guard0 rfl) (lop_not0 (agree hn) rfl) rfl ?_
    refine TO.w hn (.assign _) rfl (guard0 rfl) (lop_assign (agree hn) rfl) rfl ?_
    refine TO.nil ?_
    refine TC.condT (agree hn) rfl rfl ?_
    refine TC.seq ?_
    refine TC.region (id := 3) ?_
    refine TO.w hn (.assign _) rfl (guard0 rfl) (lop_assign (agree hn) rfl) rfl ?_
    refine TO.w hn (.assign _) rfl (guard0 rfl) (lop_assign (agree hn) rfl) rfl ?_
    refine TO.nil ?_
    refine TC.ret ?_
    exact ⟨trivial, _, lresT (agree hn) rfl rfl, rfl, rfl⟩
  | true =>
    rw [h1] at hr
    have ha := rightS_true h1
    simp only [Bool.true_eq_false, if_false]
    by_cases h2 : c = []
    · rw [if_pos h2]
      rw [e] at hs
      subst h2
      refine TC.seq ?_
      refine TC.region (id := 0) ?_
      refine TO.w hn (.assign _) rfl (guard0 rfl) (lop_assign (agree hn) rfl) rfl ?_
      refine TO.w hn (.assign _) rfl (guard0 rfl) (lop_assign (agree hn) rfl) rfl ?_
      refine TO.nil ?_
      refine TC.seq ?_
      refine TC.region (id := 1) ?_
      refine TO.w hn (.move _) rfl (guard0 rfl) (lop_move (agree hn) rfl) rfl ?_
      (refine TO.wc hn (.call _) rfl (guard0 rfl) (lop_func (agree hn) rfl rfl rfl) rfl (hs _) (fun v H2 hR => ?_); (obtain ⟨rfl, e2⟩ := hR; cases e2.symm))
      refine TO.w hn (.move _) rfl (guard0 rfl) (lop_move (agree hn) rfl) rfl ?_
      refine TO.w hn (.extract _ _) rfl (guard0 rfl) (lop_ex (agree hn) rfl rfl) rfl ?_
      refine TO.w hn (.extract _ _) rfl (guard0 rfl) (lop_ex (agree hn) rfl rfl) rfl ?_
      refine TO.w hn (.extract _ _) rfl (guard0 rfl) (lop_ex (agree hn) rfl rfl) rfl ?_
      refine TO.w hn (.assign _) rfl (guard0 rfl) (lop_assign (agree hn) rfl) rfl ?_
      refine TO.w hn (.assign _) rfl (guard0 rfl) (lop_assign (agree hn) rfl) rfl ?_
      refine TO.w hn (.assign _) rfl (guard0 rfl) (lop_assign (agree hn) rfl) rfl ?_
      refine TO.nil ?_
      refine TC.seq ?_
      refine TC.block ?_
      refine TC.seq ?_
      refine TC.region (id := 2) ?_
      refine TO.w hn (.move _) rfl (guard0 rfl) (lop_move (agree hn) rfl) rfl ?_
      (refine TO.wc hn (.call _) rfl (guard0 rfl) (lop_func (agree hn) rfl rfl rfl) rfl (hr _) (fun v H2 hR => ?_); (obtain ⟨rfl, e2⟩ := hR; cases e2.symm))
      refine TO.w hn (.unOp _ _ _) rfl (guard0 rfl) (lop_not1 (agree hn) rfl) rfl ?_
      refine TO.w hn (.assign _) rfl (guard0 rfl) (lop_assign (agree hn) rfl) rfl ?_
      refine TO.nil ?_
      refine TC.condF (agree hn) rfl rfl ?_
      refine TC.seq ?_
      refine TC.region (id := 4) ?_
      refine TO.w hn (.move _) rfl (guard0 rfl) (lop_move (agree hn) rfl) rfl ?_
      refine TO.w hn (.binOp _ _ _ _ _) rfl (guard0 rfl) (lop_eqST (agree hn) rfl rfl (by rfl)) rfl ?_
      refine TO.w hn (.assign _) rfl (guard0 rfl) (lop_assign (agree hn) rfl) rfl ?_
      refine TO.nil ?_
      refine TC.condT (agree hn) rfl rfl ?_
      refine TC.seq ?_
      refine TC.region (id := 5) ?_
      refine TO.w hn (.assign _) rfl (guard0 rfl) (lop_assign (agree hn) rfl) rfl ?_
      refine TO.w hn (.assign _) rfl (guard0 rfl) (lop_assign (agree hn) rfl) rfl ?_
      refine TO.nil ?_
      refine TC.ret ?_
      exact ⟨trivial, _, lresT (agree hn) rfl rfl, rfl, rfl⟩
    · rw [if_neg h2]
      clear e
      cases h3 : parse c with
      | none =>
        obtain ⟨s, t, e⟩ := saidV_none h3
        rw [e] at hs
        refine TC.seq ?_
        refine TC.region (id := 0) ?_
        refine TO.w hn (.assign _) rfl (guard0 rfl) (lop_assign (agree hn) rfl) rfl ?_
        refine TO.w hn (.assign _) rfl (guard0 rfl) (lop_assign (agree hn) rfl) rfl ?_
        refine TO.nil ?_
        refine TC.seq ?_
        refine TC.region (id := 1) ?_
        refine TO.w hn (.move _) rfl (guard0 rfl) (lop_move (agree hn) rfl) rfl ?_
        (refine TO.wc hn (.call _) rfl (guard0 rfl) (lop_func (agree hn) rfl rfl rfl) rfl (hs _) (fun v H2 hR => ?_); (obtain ⟨rfl, e2⟩ := hR; cases e2.symm))
        refine TO.w hn (.move _) rfl (guard0 rfl) (lop_move (agree hn) rfl) rfl ?_
        refine TO.w hn (.extract _ _) rfl (guard0 rfl) (lop_ex (agree hn) rfl rfl) rfl ?_
        refine TO.w hn (.extract _ _) rfl (guard0 rfl) (lop_ex (agree hn) rfl rfl) rfl ?_
        refine TO.w hn (.extract _ _) rfl (guard0 rfl) (lop_ex (agree hn) rfl rfl) rfl ?_
        refine TO.w hn (.assign _) rfl (guard0 rfl) (lop_assign (agree hn) rfl) rfl ?_
        refine TO.w hn (.assign _) rfl (guard0 rfl) (lop_assign (agree hn) rfl) rfl ?_
        refine TO.w hn (.assign _) rfl (guard0 rfl) (lop_assign (agree hn) rfl) rfl ?_
        refine TO.nil ?_
        refine TC.seq ?_
        refine TC.block ?_
        refine TC.seq ?_
        refine TC.region (id := 2) ?_
        refine TO.w hn (.move _) rfl (guard0 rfl) (lop_move (agree hn) rfl) rfl ?_
        (refine TO.wc hn (.call _) rfl (guard0 rfl) (lop_func (agree hn) rfl rfl rfl) rfl (hr _) (fun v H2 hR => ?_); (obtain ⟨rfl, e2⟩ := hR; cases e2.symm))
        refine TO.w hn (.unOp _ _ _) rfl (guard0 rfl) (lop_not1 (agree hn) rfl) rfl ?_
        refine TO.w hn (.assign _) rfl (guard0 rfl) (lop_assign (agree hn) rfl) rfl ?_
        refine TO.nil ?_
        refine TC.condF (agree hn) rfl rfl ?_
        refine TC.seq ?_
        refine TC.region (id := 4) ?_
        refine TO.w hn (.move _) rfl (guard0 rfl) (lop_move (agree hn) rfl) rfl ?_
        refine TO.w hn (.binOp _ _ _ _ _) rfl (guard0 rfl) (lop_eqSF (agree hn) rfl rfl (by assumption)) rfl ?_
        refine TO.w hn (.assign _) rfl (guard0 rfl) (lop_assign (agree hn) rfl) rfl ?_
        refine TO.nil ?_
        refine TC.condF (agree hn) rfl rfl ?_
        refine TC.seq ?_
        refine TC.region (id := 6) ?_
        refine TO.w hn (.move _) rfl (guard0 rfl) (lop_move (agree hn) rfl) rfl ?_
        refine TO.w hn (.unOp _ _ _) rfl (guard0 rfl) (lop_not0 (agree hn) rfl) rfl ?_
        refine TO.w hn (.assign _) rfl (guard0 rfl) (lop_assign (agree hn) rfl) rfl ?_
        refine TO.nil ?_
        refine TC.condT (agree hn) rfl rfl ?_
        refine TC.seq ?_
        refine TC.region (id := 7) ?_
        refine TO.w hn (.assign _) rfl (guard0 rfl) (lop_assign (agree hn) rfl) rfl ?_
        refine TO.w hn (.assign _) rfl (guard0 rfl) (lop_assign (agree hn) rfl) rfl ?_
        refine TO.nil ?_
        refine TC.ret ?_
        exact ⟨trivial, _, lresT (agree hn) rfl rfl, rfl, rfl⟩
      | some p =>
        obtain ⟨s, t⟩ := p
        have e := saidV_some h3
        rw [e] at hs
        by_cases h5 : s = a
        · subst h5
          refine TC.seq ?_
          refine TC.region (id := 0) ?_
          refine TO.w hn (.assign _) rfl (guard0 rfl) (lop_assign (agree hn) rfl) rfl ?_
          refine TO.w hn (.assign _) rfl (guard0 rfl) (lop_assign (agree hn) rfl) rfl ?_
          refine TO.nil ?_
          refine TC.seq ?_
          refine TC.region (id := 1) ?_
          refine TO.w hn (.move _) rfl (guard0 rfl) (lop_move (agree hn) rfl) rfl ?_
          (refine TO.wc hn (.call _) rfl (guard0 rfl) (lop_func (agree hn) rfl rfl rfl) rfl (hs _) (fun v H2 hR => ?_); (obtain ⟨rfl, e2⟩ := hR; cases e2.symm))
          refine TO.w hn (.move _) rfl (guard0 rfl) (lop_move (agree hn) rfl) rfl ?_
          refine TO.w hn (.extract _ _) rfl (guard0 rfl) (lop_ex (agree hn) rfl rfl) rfl ?_
          refine TO.w hn (.extract _ _) rfl (guard0 rfl) (lop_ex (agree hn) rfl rfl) rfl ?_
          refine TO.w hn (.extract _ _) rfl (guard0 rfl) (lop_ex (agree hn) rfl rfl) rfl ?_
          refine TO.w hn (.assign _) rfl (guard0 rfl) (lop_assign (agree hn) rfl) rfl ?_
          refine TO.w hn (.assign _) rfl (guard0 rfl) (lop_assign (agree hn) rfl) rfl ?_
          refine TO.w hn (.assign _) rfl (guard0 rfl) (lop_assign (agree hn) rfl) rfl ?_
          refine TO.nil ?_
          refine TC.seq ?_
          refine TC.block ?_
          refine TC.seq ?_
          refine TC.region (id := 2) ?_
          refine TO.w hn (.move _) rfl (guard0 rfl) (lop_move (agree hn) rfl) rfl ?_
          (refine TO.wc hn (.call _) rfl (guard0 rfl) (lop_func (agree hn) rfl rfl rfl) rfl (hr _) (fun v H2 hR => ?_); (obtain ⟨rfl, e2⟩ := hR; cases e2.symm))
          refine TO.w hn (.unOp _ _ _) rfl (guard0 rfl) (lop_not1 (agree hn) rfl) rfl ?_
          refine TO.w hn (.assign _) rfl (guard0 rfl) (lop_assign (agree hn) rfl) rfl ?_
          refine TO.nil ?_
          refine TC.condF (agree hn) rfl rfl ?_
          refine TC.seq ?_
          refine TC.region (id := 4) ?_
          refine TO.w hn (.move _) rfl (guard0 rfl) (lop_move (agree hn) rfl) rfl ?_
          refine TO.w hn (.binOp _ _ _ _ _) rfl (guard0 rfl) (lop_eqSF (agree hn) rfl rfl (by assumption)) rfl ?_
          refine TO.w hn (.assign _) rfl (guard0 rfl) (lop_assign (agree hn) rfl) rfl ?_
          refine TO.nil ?_
          refine TC.condF (agree hn) rfl rfl ?_
          refine TC.seq ?_
          refine TC.region (id := 6) ?_
          refine TO.w hn (.move _) rfl (guard0 rfl) (lop_move (agree hn) rfl) rfl ?_
          refine TO.w hn (.unOp _ _ _) rfl (guard0 rfl) (lop_not1 (agree hn) rfl) rfl ?_
          refine TO.w hn (.assign _) rfl (guard0 rfl) (lop_assign (agree hn) rfl) rfl ?_
          refine TO.nil ?_
          refine TC.condF (agree hn) rfl rfl ?_
          refine TC.seq ?_
          refine TC.region (id := 8) ?_
          refine TO.w hn (.move _) rfl (guard0 rfl) (lop_move (agree hn) rfl) rfl ?_
          refine TO.w hn (.move _) rfl (guard0 rfl) (lop_move (agree hn) rfl) rfl ?_
          refine TO.w hn (.binOp _ _ _ _ _) rfl (guard0 rfl) (lop_neSF (agree hn) rfl rfl (by rfl)) rfl ?_
          refine TO.w hn (.assign _) rfl (guard0 rfl) (lop_assign (agree hn) rfl) rfl ?_
          refine TO.nil ?_
          refine TC.condF (agree hn) rfl rfl ?_
          refine TC.skip ?_
          refine TC.seq ?_
          refine TC.region (id := 10) ?_
          refine TO.w hn (.move _) rfl (guard0 rfl) (lop_move (agree hn) rfl) rfl ?_
          (refine TO.wc hn (.call _) rfl (guard0 rfl) (lop_func (agree hn) rfl rfl rfl) rfl (CF.co noOwn rfl rfl (cell_CF (by omega))) (fun v H2 hR => ?_); (obtain ⟨rfl, e2⟩ := hR; cases e2.symm))
          refine TO.w hn (.assign _) rfl (guard0 rfl) (lop_assign (agree hn) rfl) rfl ?_
          refine TO.w hn (.assign _) rfl (guard0 rfl) (lop_assign (agree hn) rfl) rfl ?_
          refine TO.nil ?_
          refine TC.ret ?_
          refine ⟨trivial, _, lresT (agree hn) rfl rfl, ?_, rfl⟩
          simp [E, S]
        ·
          refine TC.seq ?_
          refine TC.region (id := 0) ?_
          refine TO.w hn (.assign _) rfl (guard0 rfl) (lop_assign (agree hn) rfl) rfl ?_
          refine TO.w hn (.assign _) rfl (guard0 rfl) (lop_assign (agree hn) rfl) rfl ?_
          refine TO.nil ?_
          refine TC.seq ?_
          refine TC.region (id := 1) ?_
          refine TO.w hn (.move _) rfl (guard0 rfl) (lop_move (agree hn) rfl) rfl ?_
          (refine TO.wc hn (.call _) rfl (guard0 rfl) (lop_func (agree hn) rfl rfl rfl) rfl (hs _) (fun v H2 hR => ?_); (obtain ⟨rfl, e2⟩ := hR; cases e2.symm))
          refine TO.w hn (.move _) rfl (guard0 rfl) (lop_move (agree hn) rfl) rfl ?_
          refine TO.w hn (.extract _ _) rfl (guard0 rfl) (lop_ex (agree hn) rfl rfl) rfl ?_
          refine TO.w hn (.extract _ _) rfl (guard0 rfl) (lop_ex (agree hn) rfl rfl) rfl ?_
          refine TO.w hn (.extract _ _) rfl (guard0 rfl) (lop_ex (agree hn) rfl rfl) rfl ?_
          refine TO.w hn (.assign _) rfl (guard0 rfl) (lop_assign (agree hn) rfl) rfl ?_
          refine TO.w hn (.assign _) rfl (guard0 rfl) (lop_assign (agree hn) rfl) rfl ?_
          refine TO.w hn (.assign _) rfl (guard0 rfl) (lop_assign (agree hn) rfl) rfl ?_
          refine TO.nil ?_
          refine TC.seq ?_
          refine TC.block ?_
          refine TC.seq ?_
          refine TC.region (id := 2) ?_
          refine TO.w hn (.move _) rfl (guard0 rfl) (lop_move (agree hn) rfl) rfl ?_
          (refine TO.wc hn (.call _) rfl (guard0 rfl) (lop_func (agree hn) rfl rfl rfl) rfl (hr _) (fun v H2 hR => ?_); (obtain ⟨rfl, e2⟩ := hR; cases e2.symm))
          refine TO.w hn (.unOp _ _ _) rfl (guard0 rfl) (lop_not1 (agree hn) rfl) rfl ?_
          refine TO.w hn (.assign _) rfl (guard0 rfl) (lop_assign (agree hn) rfl) rfl ?_
          refine TO.nil ?_
          refine TC.condF (agree hn) rfl rfl ?_
          refine TC.seq ?_
          refine TC.region (id := 4) ?_
          refine TO.w hn (.move _) rfl (guard0 rfl) (lop_move (agree hn) rfl) rfl ?_
          refine TO.w hn (.binOp _ _ _ _ _) rfl (guard0 rfl) (lop_eqSF (agree hn) rfl rfl (by assumption)) rfl ?_
          refine TO.w hn (.assign _) rfl (guard0 rfl) (lop_assign (agree hn) rfl) rfl ?_
          refine TO.nil ?_
          refine TC.condF (agree hn) rfl rfl ?_
          refine TC.seq ?_
          refine TC.region (id := 6) ?_
          refine TO.w hn (.move _) rfl (guard0 rfl) (lop_move (agree hn) rfl) rfl ?_
          refine TO.w hn (.unOp _ _ _) rfl (guard0 rfl) (lop_not1 (agree hn) rfl) rfl ?_
          refine TO.w hn (.assign _) rfl (guard0 rfl) (lop_assign (agree hn) rfl) rfl ?_
          refine TO.nil ?_
          refine TC.condF (agree hn) rfl rfl ?_
          refine TC.seq ?_
          refine TC.region (id := 8) ?_
          refine TO.w hn (.move _) rfl (guard0 rfl) (lop_move (agree hn) rfl) rfl ?_
          refine TO.w hn (.move _) rfl (guard0 rfl) (lop_move (agree hn) rfl) rfl ?_
          refine TO.w hn (.binOp _ _ _ _ _) rfl (guard0 rfl) (lop_neST (agree hn) rfl rfl (by assumption)) rfl ?_
          refine TO.w hn (.assign _) rfl (guard0 rfl) (lop_assign (agree hn) rfl) rfl ?_
          refine TO.nil ?_
          refine TC.condT (agree hn) rfl rfl ?_
          refine TC.seq ?_
          refine TC.region (id := 9) ?_
          refine TO.w hn (.assign _) rfl (guard0 rfl) (lop_assign (agree hn) rfl) rfl ?_
          refine TO.w hn (.assign _) rfl (guard0 rfl) (lop_assign (agree hn) rfl) rfl ?_
          refine TO.nil ?_
          refine TC.ret ?_
          refine ⟨trivial, _, lresT (agree hn) rfl rfl, ?_, rfl⟩
          simp [h5, E, S]
theorem trustR_CF {H : Hp} {c a : List UInt8} (hc : c.length ≤ 4611686018427387904) : CF Try.prog 11 [S c, S a] H fun v H' => v = trustV c a ∧ H' = H := by
  refine CF.go _ Try.func11 rfl ⟨Nat.le_of_ble_eq_true rfl, rfl⟩ fun base hb0 hn => ?_
  subst hb0
  have hr := fun (H : Hp) => CF.co noOwn rfl rfl (account_CF (H := H) (a := a))
  have hs := fun (H : Hp) => CF.co noOwn rfl rfl (saidR_CF (H := H) hc)
  unfold trustV
  cases h1 : rightS a with
  | false =>
    rw [h1] at hr
    refine TC.seq ?_
    refine TC.region (id := 0) ?_
    refine TO.w hn (.assign _) rfl (guard0 rfl) (lop_assign (agree hn) rfl) rfl ?_
    refine TO.w hn (.assign _) rfl (guard0 rfl) (lop_assign (agree hn) rfl) rfl ?_
    refine TO.nil ?_
    refine TC.seq ?_
    refine TC.seq ?_
    refine TC.region (id := 1) ?_
    refine TO.w hn (.move _) rfl (guard0 rfl) (lop_move (agree hn) rfl) rfl ?_
    (refine TO.wc hn (.call _) rfl (guard0 rfl) (lop_func (agree hn) rfl rfl rfl) rfl (hr _) (fun v H2 hR => ?_); (obtain ⟨rfl, e2⟩ := hR; cases e2.symm))
    refine TO.w hn (.unOp _ _ _) rfl (guard0 rfl) (lop_not0 (agree hn) rfl) rfl ?_
    refine TO.nil ?_
    refine TC.condT (agree hn) rfl rfl ?_
    refine TC.seq ?_
    refine TC.region (id := 2) ?_
    refine TO.w hn (.assign _) rfl (guard0 rfl) (lop_assign (agree hn) rfl) rfl ?_
    refine TO.w hn (.assign _) rfl (guard0 rfl) (lop_assign (agree hn) rfl) rfl ?_
    refine TO.nil ?_
    refine TC.ret ?_
    exact ⟨trivial, _, lresT (agree hn) rfl rfl, rfl, rfl⟩
  | true =>
    rw [h1] at hr
    have ha := rightS_true h1
    simp only [Bool.true_eq_false, if_false]
    by_cases h2 : c = []
    · rw [if_pos h2]
      subst h2
      refine TC.seq ?_
      refine TC.region (id := 0) ?_
      refine TO.w hn (.assign _) rfl (guard0 rfl) (lop_assign (agree hn) rfl) rfl ?_
      refine TO.w hn (.assign _) rfl (guard0 rfl) (lop_assign (agree hn) rfl) rfl ?_
      refine TO.nil ?_
      refine TC.seq ?_
      refine TC.seq ?_
      refine TC.region (id := 1) ?_
      refine TO.w hn (.move _) rfl (guard0 rfl) (lop_move (agree hn) rfl) rfl ?_
      (refine TO.wc hn (.call _) rfl (guard0 rfl) (lop_func (agree hn) rfl rfl rfl) rfl (hr _) (fun v H2 hR => ?_); (obtain ⟨rfl, e2⟩ := hR; cases e2.symm))
      refine TO.w hn (.unOp _ _ _) rfl (guard0 rfl) (lop_not1 (agree hn) rfl) rfl ?_
      refine TO.nil ?_
      refine TC.condF (agree hn) rfl rfl ?_
      refine TC.skip ?_
      refine TC.seq ?_
      refine TC.seq ?_
      refine TC.region (id := 3) ?_
      refine TO.w hn (.move _) rfl (guard0 rfl) (lop_move (agree hn) rfl) rfl ?_
      refine TO.w hn (.binOp _ _ _ _ _) rfl (guard0 rfl) (lop_eqST (agree hn) rfl rfl (by rfl)) rfl ?_
      refine TO.nil ?_
      refine TC.condT (agree hn) rfl rfl ?_
      refine TC.seq ?_
      refine TC.region (id := 4) ?_
      refine TO.w hn (.assign _) rfl (guard0 rfl) (lop_assign (agree hn) rfl) rfl ?_
      refine TO.w hn (.assign _) rfl (guard0 rfl) (lop_assign (agree hn) rfl) rfl ?_
      refine TO.nil ?_
      refine TC.ret ?_
      exact ⟨trivial, _, lresT (agree hn) rfl rfl, rfl, rfl⟩
    · rw [if_neg h2]
      cases h3 : parse c with
      | none =>
        rw [h3] at hs
        simp only at hs
        by_cases h4 : textA c 1000 = []
        · rw [if_pos h4] at hs
          refine TC.seq ?_
          refine TC.region (id := 0) ?_
          refine TO.w hn (.assign _) rfl (guard0 rfl) (lop_assign (agree hn) rfl) rfl ?_
          refine TO.w hn (.assign _) rfl (guard0 rfl) (lop_assign (agree hn) rfl) rfl ?_
          refine TO.nil ?_
          refine TC.seq ?_
          refine TC.seq ?_
          refine TC.region (id := 1) ?_
          refine TO.w hn (.move _) rfl (guard0 rfl) (lop_move (agree hn) rfl) rfl ?_
          (refine TO.wc hn (.call _) rfl (guard0 rfl) (lop_func (agree hn) rfl rfl rfl) rfl (hr _) (fun v H2 hR => ?_); (obtain ⟨rfl, e2⟩ := hR; cases e2.symm))
          refine TO.w hn (.unOp _ _ _) rfl (guard0 rfl) (lop_not1 (agree hn) rfl) rfl ?_
          refine TO.nil ?_
          refine TC.condF (agree hn) rfl rfl ?_
          refine TC.skip ?_
          refine TC.seq ?_
          refine TC.seq ?_
          refine TC.region (id := 3) ?_
          refine TO.w hn (.move _) rfl (guard0 rfl) (lop_move (agree hn) rfl) rfl ?_
          refine TO.w hn (.binOp _ _ _ _ _) rfl (guard0 rfl) (lop_eqSF (agree hn) rfl rfl (by assumption)) rfl ?_
          refine TO.nil ?_
          refine TC.condF (agree hn) rfl rfl ?_
          refine TC.skip ?_
          refine TC.seq ?_
          refine TC.region (id := 5) ?_
          refine TO.w hn (.move _) rfl (guard0 rfl) (lop_move (agree hn) rfl) rfl ?_
          (refine TO.wc hn (.call _) rfl (guard0 rfl) (lop_func (agree hn) rfl rfl rfl) rfl (hs _) (fun v H2 hR => ?_); (obtain ⟨rfl, e2⟩ := hR; cases e2.symm))
          refine TO.w hn (.move _) rfl (guard0 rfl) (lop_move (agree hn) rfl) rfl ?_
          refine TO.w hn (.extract _ _) rfl (guard0 rfl) (lop_ex (agree hn) rfl rfl) rfl ?_
          refine TO.w hn (.extract _ _) rfl (guard0 rfl) (lop_ex (agree hn) rfl rfl) rfl ?_
          refine TO.w hn (.extract _ _) rfl (guard0 rfl) (lop_ex (agree hn) rfl rfl) rfl ?_
          refine TO.w hn (.assign _) rfl (guard0 rfl) (lop_assign (agree hn) rfl) rfl ?_
          refine TO.w hn (.assign _) rfl (guard0 rfl) (lop_assign (agree hn) rfl) rfl ?_
          refine TO.w hn (.assign _) rfl (guard0 rfl) (lop_assign (agree hn) rfl) rfl ?_
          refine TO.nil ?_
          refine TC.seq ?_
          refine TC.seq ?_
          refine TC.region (id := 6) ?_
          refine TO.w hn (.move _) rfl (guard0 rfl) (lop_move (agree hn) rfl) rfl ?_
          refine TO.w hn (.unOp _ _ _) rfl (guard0 rfl) (lop_not0 (agree hn) rfl) rfl ?_
          refine TO.nil ?_
          refine TC.condT (agree hn) rfl rfl ?_
          refine TC.seq ?_
          refine TC.region (id := 7) ?_
          refine TO.w hn (.assign _) rfl (guard0 rfl) (lop_assign (agree hn) rfl) rfl ?_
          refine TO.w hn (.assign _) rfl (guard0 rfl) (lop_assign (agree hn) rfl) rfl ?_
          refine TO.nil ?_
          refine TC.ret ?_
          exact ⟨trivial, _, lresT (agree hn) rfl rfl, rfl, rfl⟩
        · rw [if_neg h4] at hs
          refine TC.seq ?_
          refine TC.region (id := 0) ?_
          refine TO.w hn (.assign _) rfl (guard0 rfl) (lop_assign (agree hn) rfl) rfl ?_
          refine TO.w hn (.assign _) rfl (guard0 rfl) (lop_assign (agree hn) rfl) rfl ?_
          refine TO.nil ?_
          refine TC.seq ?_
          refine TC.seq ?_
          refine TC.region (id := 1) ?_
          refine TO.w hn (.move _) rfl (guard0 rfl) (lop_move (agree hn) rfl) rfl ?_
          (refine TO.wc hn (.call _) rfl (guard0 rfl) (lop_func (agree hn) rfl rfl rfl) rfl (hr _) (fun v H2 hR => ?_); (obtain ⟨rfl, e2⟩ := hR; cases e2.symm))
          refine TO.w hn (.unOp _ _ _) rfl (guard0 rfl) (lop_not1 (agree hn) rfl) rfl ?_
          refine TO.nil ?_
          refine TC.condF (agree hn) rfl rfl ?_
          refine TC.skip ?_
          refine TC.seq ?_
          refine TC.seq ?_
          refine TC.region (id := 3) ?_
          refine TO.w hn (.move _) rfl (guard0 rfl) (lop_move (agree hn) rfl) rfl ?_
          refine TO.w hn (.binOp _ _ _ _ _) rfl (guard0 rfl) (lop_eqSF (agree hn) rfl rfl (by assumption)) rfl ?_
          refine TO.nil ?_
          refine TC.condF (agree hn) rfl rfl ?_
          refine TC.skip ?_
          refine TC.seq ?_
          refine TC.region (id := 5) ?_
          refine TO.w hn (.move _) rfl (guard0 rfl) (lop_move (agree hn) rfl) rfl ?_
          (refine TO.wc hn (.call _) rfl (guard0 rfl) (lop_func (agree hn) rfl rfl rfl) rfl (hs _) (fun v H2 hR => ?_); (obtain ⟨rfl, e2⟩ := hR; cases e2.symm))
          refine TO.w hn (.move _) rfl (guard0 rfl) (lop_move (agree hn) rfl) rfl ?_
          refine TO.w hn (.extract _ _) rfl (guard0 rfl) (lop_ex (agree hn) rfl rfl) rfl ?_
          refine TO.w hn (.extract _ _) rfl (guard0 rfl) (lop_ex (agree hn) rfl rfl) rfl ?_
          refine TO.w hn (.extract _ _) rfl (guard0 rfl) (lop_ex (agree hn) rfl rfl) rfl ?_
          refine TO.w hn (.assign _) rfl (guard0 rfl) (lop_assign (agree hn) rfl) rfl ?_
          refine TO.w hn (.assign _) rfl (guard0 rfl) (lop_assign (agree hn) rfl) rfl ?_
          refine TO.w hn (.assign _) rfl (guard0 rfl) (lop_assign (agree hn) rfl) rfl ?_
          refine TO.nil ?_
          refine TC.seq ?_
          refine TC.seq ?_
          refine TC.region (id := 6) ?_
          refine TO.w hn (.move _) rfl (guard0 rfl) (lop_move (agree hn) rfl) rfl ?_
          refine TO.w hn (.unOp _ _ _) rfl (guard0 rfl) (lop_not0 (agree hn) rfl) rfl ?_
          refine TO.nil ?_
          refine TC.condT (agree hn) rfl rfl ?_
          refine TC.seq ?_
          refine TC.region (id := 7) ?_
          refine TO.w hn (.assign _) rfl (guard0 rfl) (lop_assign (agree hn) rfl) rfl ?_
          refine TO.w hn (.assign _) rfl (guard0 rfl) (lop_assign (agree hn) rfl) rfl ?_
          refine TO.nil ?_
          refine TC.ret ?_
          exact ⟨trivial, _, lresT (agree hn) rfl rfl, rfl, rfl⟩
      | some p =>
        obtain ⟨s, t⟩ := p
        rw [h3] at hs
        simp only at hs
        by_cases h5 : s = a
        · subst h5
          refine TC.seq ?_
          refine TC.region (id := 0) ?_
          refine TO.w hn (.assign _) rfl (guard0 rfl) (lop_assign (agree hn) rfl) rfl ?_
          refine TO.w hn (.assign _) rfl (guard0 rfl) (lop_assign (agree hn) rfl) rfl ?_
          refine TO.nil ?_
          refine TC.seq ?_
          refine TC.seq ?_
          refine TC.region (id := 1) ?_
          refine TO.w hn (.move _) rfl (guard0 rfl) (lop_move (agree hn) rfl) rfl ?_
          (refine TO.wc hn (.call _) rfl (guard0 rfl) (lop_func (agree hn) rfl rfl rfl) rfl (hr _) (fun v H2 hR => ?_); (obtain ⟨rfl, e2⟩ := hR; cases e2.symm))
          refine TO.w hn (.unOp _ _ _) rfl (guard0 rfl) (lop_not1 (agree hn) rfl) rfl ?_
          refine TO.nil ?_
          refine TC.condF (agree hn) rfl rfl ?_
          refine TC.skip ?_
          refine TC.seq ?_
          refine TC.seq ?_
          refine TC.region (id := 3) ?_
          refine TO.w hn (.move _) rfl (guard0 rfl) (lop_move (agree hn) rfl) rfl ?_
          refine TO.w hn (.binOp _ _ _ _ _) rfl (guard0 rfl) (lop_eqSF (agree hn) rfl rfl (by assumption)) rfl ?_
          refine TO.nil ?_
          refine TC.condF (agree hn) rfl rfl ?_
          refine TC.skip ?_
          refine TC.seq ?_
          refine TC.region (id := 5) ?_
          refine TO.w hn (.move _) rfl (guard0 rfl) (lop_move (agree hn) rfl) rfl ?_
          (refine TO.wc hn (.call _) rfl (guard0 rfl) (lop_func (agree hn) rfl rfl rfl) rfl (hs _) (fun v H2 hR => ?_); (obtain ⟨rfl, e2⟩ := hR; cases e2.symm))
          refine TO.w hn (.move _) rfl (guard0 rfl) (lop_move (agree hn) rfl) rfl ?_
          refine TO.w hn (.extract _ _) rfl (guard0 rfl) (lop_ex (agree hn) rfl rfl) rfl ?_
          refine TO.w hn (.extract _ _) rfl (guard0 rfl) (lop_ex (agree hn) rfl rfl) rfl ?_
          refine TO.w hn (.extract _ _) rfl (guard0 rfl) (lop_ex (agree hn) rfl rfl) rfl ?_
          refine TO.w hn (.assign _) rfl (guard0 rfl) (lop_assign (agree hn) rfl) rfl ?_
          refine TO.w hn (.assign _) rfl (guard0 rfl) (lop_assign (agree hn) rfl) rfl ?_
          refine TO.w hn (.assign _) rfl (guard0 rfl) (lop_assign (agree hn) rfl) rfl ?_
          refine TO.nil ?_
          refine TC.seq ?_
          refine TC.seq ?_
          refine TC.region (id := 6) ?_
          refine TO.w hn (.move _) rfl (guard0 rfl) (lop_move (agree hn) rfl) rfl ?_
          refine TO.w hn (.unOp _ _ _) rfl (guard0 rfl) (lop_not1 (agree hn) rfl) rfl ?_
          refine TO.nil ?_
          refine TC.condF (agree hn) rfl rfl ?_
          refine TC.skip ?_
          refine TC.seq ?_
          refine TC.seq ?_
          refine TC.region (id := 8) ?_
          refine TO.w hn (.move _) rfl (guard0 rfl) (lop_move (agree hn) rfl) rfl ?_
          refine TO.w hn (.move _) rfl (guard0 rfl) (lop_move (agree hn) rfl) rfl ?_
          refine TO.w hn (.binOp _ _ _ _ _) rfl (guard0 rfl) (lop_neSF (agree hn) rfl rfl (by rfl)) rfl ?_
          refine TO.nil ?_
          refine TC.condF (agree hn) rfl rfl ?_
          refine TC.skip ?_
          refine TC.seq ?_
          refine TC.region (id := 10) ?_
          refine TO.w hn (.move _) rfl (guard0 rfl) (lop_move (agree hn) rfl) rfl ?_
          (refine TO.wc hn (.call _) rfl (guard0 rfl) (lop_func (agree hn) rfl rfl rfl) rfl (CF.co noOwn rfl rfl (cellR_CF (by omega))) (fun v H2 hR => ?_); (obtain ⟨rfl, e2⟩ := hR; cases e2.symm))
          refine TO.w hn (.assign _) rfl (guard0 rfl) (lop_assign (agree hn) rfl) rfl ?_
          refine TO.w hn (.assign _) rfl (guard0 rfl) (lop_assign (agree hn) rfl) rfl ?_
          refine TO.nil ?_
          refine TC.ret ?_
          refine ⟨trivial, _, lresT (agree hn) rfl rfl, ?_, rfl⟩
          simp [E, S]
        ·
          refine TC.seq ?_
          refine TC.region (id := 0) ?_
          refine TO.w hn (.assign _) rfl (guard0 rfl) (lop_assign (agree hn) rfl) rfl ?_
          refine TO.w hn (.assign _) rfl (guard0 rfl) (lop_assign (agree hn) rfl) rfl ?_
          refine TO.nil ?_
          refine TC.seq ?_
          refine TC.seq ?_
          refine TC.region (id := 1) ?_
          refine TO.w hn (.move _) rfl (guard0 rfl) (lop_move (agree hn) rfl) rfl ?_
          (refine TO.wc hn (.call _) rfl (guard0 rfl) (lop_func (agree hn) rfl rfl rfl) rfl (hr _) (fun v H2 hR => ?_); (obtain ⟨rfl, e2⟩ := hR; cases e2.symm))
          refine TO.w hn (.unOp _ _ _) rfl (guard0 rfl) (lop_not1 (agree hn) rfl) rfl ?_
          refine TO.nil ?_
          refine TC.condF (agree hn) rfl rfl ?_
          refine TC.skip ?_
          refine TC.seq ?_
          refine TC.seq ?_
          refine TC.region (id := 3) ?_
          refine TO.w hn (.move _) rfl (guard0 rfl) (lop_move (agree hn) rfl) rfl ?_
          refine TO.w hn (.binOp _ _ _ _ _) rfl (guard0 rfl) (lop_eqSF (agree hn) rfl rfl (by assumption)) rfl ?_
          refine TO.nil ?_
          refine TC.condF (agree hn) rfl rfl ?_
          refine TC.skip ?_
          refine TC.seq ?_
          refine TC.region (id := 5) ?_
          refine TO.w hn (.move _) rfl (guard0 rfl) (lop_move (agree hn) rfl) rfl ?_
          (refine TO.wc hn (.call _) rfl (guard0 rfl) (lop_func (agree hn) rfl rfl rfl) rfl (hs _) (fun v H2 hR => ?_); (obtain ⟨rfl, e2⟩ := hR; cases e2.symm))
          refine TO.w hn (.move _) rfl (guard0 rfl) (lop_move (agree hn) rfl) rfl ?_
          refine TO.w hn (.extract _ _) rfl (guard0 rfl) (lop_ex (agree hn) rfl rfl) rfl ?_
          refine TO.w hn (.extract _ _) rfl (guard0 rfl) (lop_ex (agree hn) rfl rfl) rfl ?_
          refine TO.w hn (.extract _ _) rfl (guard0 rfl) (lop_ex (agree hn) rfl rfl) rfl ?_
          refine TO.w hn (.assign _) rfl (guard0 rfl) (lop_assign (agree hn) rfl) rfl ?_
          refine TO.w hn (.assign _) rfl (guard0 rfl) (lop_assign (agree hn) rfl) rfl ?_
          refine TO.w hn (.assign _) rfl (guard0 rfl) (lop_assign (agree hn) rfl) rfl ?_
          refine TO.nil ?_
          refine TC.seq ?_
          refine TC.seq ?_
          refine TC.region (id := 6) ?_
          refine TO.w hn (.move _) rfl (guard0 rfl) (lop_move (agree hn) rfl) rfl ?_
          refine TO.w hn (.unOp _ _ _) rfl (guard0 rfl) (lop_not1 (agree hn) rfl) rfl ?_
          refine TO.nil ?_
          refine TC.condF (agree hn) rfl rfl ?_
          refine TC.skip ?_
          refine TC.seq ?_
          refine TC.seq ?_
          refine TC.region (id := 8) ?_
          refine TO.w hn (.move _) rfl (guard0 rfl) (lop_move (agree hn) rfl) rfl ?_
          refine TO.w hn (.move _) rfl (guard0 rfl) (lop_move (agree hn) rfl) rfl ?_
          refine TO.w hn (.binOp _ _ _ _ _) rfl (guard0 rfl) (lop_neST (agree hn) rfl rfl (by assumption)) rfl ?_
          refine TO.nil ?_
          refine TC.condT (agree hn) rfl rfl ?_
          refine TC.seq ?_
          refine TC.region (id := 9) ?_
          refine TO.w hn (.assign _) rfl (guard0 rfl) (lop_assign (agree hn) rfl) rfl ?_
          refine TO.w hn (.assign _) rfl (guard0 rfl) (lop_assign (agree hn) rfl) rfl ?_
          refine TO.nil ?_
          refine TC.ret ?_
          refine ⟨trivial, _, lresT (agree hn) rfl rfl, ?_, rfl⟩
          simp [h5, E, S]
end Go.Proofs.Ytcndgbaldjcdfaa
