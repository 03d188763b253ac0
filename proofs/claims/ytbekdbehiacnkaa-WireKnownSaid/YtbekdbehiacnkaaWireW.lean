/- A number and a text, there and back. -/
import Derived.Test.YtbekdbehiacnkaaWireP
namespace Go.Proofs.Ytbekdbehiacnkaa
open Go Go.Lite
set_option linter.unusedSimpArgs false
set_option linter.unusedVariables false

set_option maxRecDepth 20000 in
theorem works_CF {H : Hp} : CF Try.prog 18 [] H fun v H' => v = .bool true ∧ H' = H := by
  refine CF.forget ((?_ : CF _ _ _ _ fun v H' => v = .bool true ∧ H.le H').mono fun u H' h => ⟨⟨h.1, by rw [h.1]; rfl⟩, h.2⟩)
  refine CF.wf fun hw => ?_
  have h1 := fun (H : Hp) => putNumber_CF (H := H) (b := []) (n := 2) (v := 300) (by simp) (by omega)
  have h2 := fun (H : Hp) => putText_CF (H := H) (b := [1, 44]) (s := [97, 98]) (by simp) (by simp)
  have h3 := fun (H : Hp) => new_CF (H := H) [1, 44, 0, 0, 0, 2, 97, 98]
  refine CF.go _ Try.func18 rfl ⟨Nat.le_of_ble_eq_true rfl, rfl⟩ fun base hb0 hn => ?_
  subst hb0
  refine TC.seq ?_
  refine TC.region (id := 0) ?_
  refine TO.w hn (.assign _) rfl (guard0 rfl) (lop_assign (agree hn) rfl) rfl ?_
  refine TO.nil ?_
  refine TC.seq ?_
  refine TC.region (id := 1) ?_
  (refine TO.wc hn (.call _) rfl (guard0 rfl) (lop_func (agree hn) rfl rfl rfl) rfl (CF.co noOwn rfl rfl (h1 _)) (fun v H2 hR => ?_); (obtain ⟨rfl, e2⟩ := hR; cases e2.symm))
  (refine TO.wc hn (.call _) rfl (guard0 rfl) (lop_func (agree hn) rfl rfl rfl) rfl (CF.co noOwn rfl rfl (h2 _)) (fun v H2 hR => ?_); (obtain ⟨rfl, e2⟩ := hR; cases e2.symm))
  (refine TO.wc hn (.call _) rfl (guard0 rfl) (lop_func (agree hn) rfl rfl rfl) rfl (CF.co noOwn rfl rfl (h3 _)) (fun v H2 hR => ?_); obtain ⟨rfl, hle, hnn, hr⟩ := hR)
  refine TO.w hn (.assign _) rfl (guard0 rfl) (lop_assign (agree hn) rfl) rfl ?_
  refine TO.nil ?_
  refine TC.seq ?_
  refine TC.seq ?_
  refine TC.region (id := 2) ?_
  refine TO.w hn (.move _) rfl (guard0 rfl) (lop_move (agree hn) rfl) rfl ?_
  refine TO.w hn (.binOp _ _ _ _ _) rfl (guard0 rfl) (lop_binF (agree hn) rfl rfl rfl (by with_reducible rfl)) rfl ?_
  refine TO.nil ?_
  refine TC.condF (agree hn) rfl rfl ?_
  refine TC.skip ?_
  refine TC.seq ?_
  refine TC.region (id := 4) ?_
  refine TO.w hn (.move _) rfl (guard0 rfl) (lop_move (agree hn) rfl) rfl ?_
  (refine TO.wc hn (.call _) rfl (guard0 rfl) (lop_func (agree hn) rfl rfl rfl) rfl (CF.co noOwn rfl rfl (number_ok (k := 2) hr (by decide) (by decide) (by decide))) (fun v H2 hR => ?_); obtain ⟨rfl, x, rfl, hr2⟩ := hR)
  refine TO.w hn (.move _) rfl (guard0 rfl) (lop_move (agree hn) rfl) rfl ?_
  refine TO.w hn (.extract _ _) rfl (guard0 rfl) (lop_ex (agree hn) rfl rfl) rfl ?_
  refine TO.w hn (.extract _ _) rfl (guard0 rfl) (lop_ex (agree hn) rfl rfl) rfl ?_
  refine TO.w hn (.assign _) rfl (guard0 rfl) (lop_assign (agree hn) rfl) rfl ?_
  refine TO.w hn (.assign _) rfl (guard0 rfl) (lop_assign (agree hn) rfl) rfl ?_
  refine TO.nil ?_
  refine TC.seq ?_
  refine TC.region (id := 5) ?_
  refine TO.w hn (.move _) rfl (guard0 rfl) (lop_move (agree hn) rfl) rfl ?_
  (refine TO.wc hn (.call _) rfl (guard0 rfl) (lop_func (agree hn) rfl rfl rfl) rfl (CF.co noOwn rfl rfl (text_ok (n := 2) hr2 (by omega) (by simp) (by unfold textOk; simp [beN]))) (fun v H2 hR => ?_); obtain ⟨rfl, y, rfl, hr3⟩ := hR)
  refine TO.w hn (.move _) rfl (guard0 rfl) (lop_move (agree hn) rfl) rfl ?_
  refine TO.w hn (.extract _ _) rfl (guard0 rfl) (lop_ex (agree hn) rfl rfl) rfl ?_
  refine TO.w hn (.extract _ _) rfl (guard0 rfl) (lop_ex (agree hn) rfl rfl) rfl ?_
  refine TO.w hn (.assign _) rfl (guard0 rfl) (lop_assign (agree hn) rfl) rfl ?_
  refine TO.w hn (.assign _) rfl (guard0 rfl) (lop_assign (agree hn) rfl) rfl ?_
  refine TO.nil ?_
  refine TC.seq ?_
  refine TC.region (id := 6) ?_
  refine TO.w hn (.move _) rfl (guard0 rfl) (lop_move (agree hn) rfl) rfl ?_
  refine TO.w hn (.move _) rfl (guard0 rfl) (lop_move (agree hn) rfl) rfl ?_
  refine TO.w hn (.move _) rfl (guardOn (agree hn) rfl rfl rfl rfl) (lop_move (agree hn) rfl) rfl ?_
  refine TO.w hn (.pick _ _ _) rfl (guard0 rfl) (lop_pickT (agree hn) rfl rfl rfl) rfl ?_
  refine TO.w hn (.move _) rfl (guard0 rfl) (lop_move (agree hn) rfl) rfl ?_
  refine TO.w hn (.move _) rfl (guardOn (agree hn) rfl rfl rfl rfl) (lop_move (agree hn) rfl) rfl ?_
  refine TO.w hn (.binOp _ _ _ _ _) rfl (guardOn (agree hn) rfl rfl rfl rfl) (lop_binT (agree hn) rfl rfl rfl (by exact beq_self_eq_true _)) rfl ?_
  refine TO.w hn (.pick _ _ _) rfl (guard0 rfl) (lop_pickT (agree hn) rfl rfl rfl) rfl ?_
  refine TO.w hn (.move _) rfl (guard0 rfl) (lop_move (agree hn) rfl) rfl ?_
  refine TO.w hn (.move _) rfl (guardOn (agree hn) rfl rfl rfl rfl) (lop_move (agree hn) rfl) rfl ?_
  refine TO.w hn (.binOp _ _ _ _ _) rfl (guardOn (agree hn) rfl rfl rfl rfl) (lop_eqST (agree hn) rfl rfl (by rfl)) rfl ?_
  refine TO.w hn (.pick _ _ _) rfl (guard0 rfl) (lop_pickT (agree hn) rfl rfl rfl) rfl ?_
  refine TO.w hn (.move _) rfl (guard0 rfl) (lop_move (agree hn) rfl) rfl ?_
  refine TO.w hn (.move _) rfl (guardOn (agree hn) rfl rfl rfl rfl) (lop_move (agree hn) rfl) rfl ?_
  (refine TO.wc hn (.call _) rfl (guardOn (agree hn) rfl rfl rfl rfl) (lop_func (agree hn) rfl rfl rfl) rfl (CF.co noOwn rfl rfl (left_CF hr3)) (fun v H2 hR => ?_); (obtain ⟨rfl, e2⟩ := hR; cases e2.symm))
  refine TO.w hn (.binOp _ _ _ _ _) rfl (guardOn (agree hn) rfl rfl rfl rfl) (lop_binT (agree hn) rfl rfl rfl (by exact beq_self_eq_true _)) rfl ?_
  refine TO.w hn (.pick _ _ _) rfl (guard0 rfl) (lop_pickT (agree hn) rfl rfl rfl) rfl ?_
  refine TO.w hn (.assign _) rfl (guard0 rfl) (lop_assign (agree hn) rfl) rfl ?_
  refine TO.nil ?_
  refine TC.ret ?_
  refine ⟨trivial, _, lres1 (agree hn) rfl, ?_, (hle.set' hw (by omega) _).set' hw (by omega) _⟩
  simp [beN]
end Go.Proofs.Ytbekdbehiacnkaa
