/- What a cell says, and what is told of an account: contracts. -/
import Derived.Test.YtcndgbaldjcdfaaVerC
namespace Go.Proofs.Ytcndgbaldjcdfaa
set_option maxHeartbeats 8000000
set_option maxRecDepth 100000
open Go Go.Lite
set_option linter.unusedSimpArgs false
set_option linter.unusedVariables false

theorem whole_CF {H : Hp} {pa pb pn ps pr r : Nat} {a b : Bool} {n : Nat} {s l : List UInt8} (ha : H.f pa = some (.cells true 1 [.bool a])) (hb : H.f pb = some (.cells true 1 [.bool b])) (hn0 : H.f pn = some (.cells true 1 [.int .u64 n]))
    (hs : H.f ps = some (.cells true 1 [S s])) (hp : H.f pr = some (.cells true 1 [.pointer (some ⟨r, 0, none⟩)])) (hr : Rd H r l) :
    CF Try.prog 36 [.pointer (some ⟨pa, 0, none⟩), .pointer (some ⟨pb, 0, none⟩), .pointer (some ⟨pn, 0, none⟩), .pointer (some ⟨ps, 0, none⟩), .pointer (some ⟨pr, 0, none⟩)] H fun v H' =>
      v = .bool (a && b && decide (n ≤ 1) && decide (s ≠ []) && decide (l.length = 0)) ∧ H' = H := by
  refine CF.go _ Try.func36 rfl ⟨Nat.le_of_ble_eq_true rfl, rfl⟩ fun base hb0 hn => ?_
  subst hb0
  refine TC.seq ?_
  refine TC.region (id := 0) ?_
  refine TO.w hn (.assign _) rfl (guard0 rfl) (lop_assign (agree hn) rfl) rfl ?_
  refine TO.nil ?_
  refine TC.seq ?_
  refine TC.region (id := 1) ?_
  refine TO.w hn (.load _ _) rfl (guard0 rfl) (lop_load (agree hn) rfl (by assumption) rfl rfl) rfl ?_
  refine TO.w hn (.move _) rfl (guard0 rfl) (lop_move (agree hn) rfl) rfl ?_
  (refine TO.splitB 7 hn rfl (fun hc => ?_) (fun hc => ?_) <;> (try simp only [decide_eq_true_eq, decide_eq_false_iff_not, beq_iff_eq, bne_iff_ne, beq_eq_false_iff_ne, bne_eq_false_iff_eq, Bool.not_eq_true', Bool.not_eq_false', Bool.not_eq_eq_eq_not, Bool.not_true, Bool.not_false, ne_eq, gt_iff_lt, ge_iff_le, Bool.and_eq_true, Bool.or_eq_true, Bool.and_eq_false_imp, Bool.or_eq_false_iff, Nat.not_lt, Nat.not_le, Int.not_lt, Int.not_le, Decidable.not_not] at hc))
  refine TO.w hn (.load _ _) rfl (guardOn (agree hn) rfl rfl rfl rfl) (lop_load (agree hn) rfl (by assumption) rfl rfl) rfl ?_
  refine TO.w hn (.pick _ _ _) rfl (guard0 rfl) (lop_pickT (agree hn) rfl rfl rfl) rfl ?_
  refine TO.w hn (.move _) rfl (guard0 rfl) (lop_move (agree hn) rfl) rfl ?_
  (refine TO.splitB 10 hn rfl (fun hc => ?_) (fun hc => ?_) <;> (try simp only [decide_eq_true_eq, decide_eq_false_iff_not, beq_iff_eq, bne_iff_ne, beq_eq_false_iff_ne, bne_eq_false_iff_eq, Bool.not_eq_true', Bool.not_eq_false', Bool.not_eq_eq_eq_not, Bool.not_true, Bool.not_false, ne_eq, gt_iff_lt, ge_iff_le, Bool.and_eq_true, Bool.or_eq_true, Bool.and_eq_false_imp, Bool.or_eq_false_iff, Nat.not_lt, Nat.not_le, Int.not_lt, Int.not_le, Decidable.not_not] at hc))
  refine TO.w hn (.load _ _) rfl (guardOn (agree hn) rfl rfl rfl rfl) (lop_load (agree hn) rfl (by assumption) rfl rfl) rfl ?_
  refine TO.w hn (.binOp _ _ _ _ _) rfl (guardOn (agree hn) rfl rfl rfl rfl) (lop_bin (agree hn) rfl rfl rfl) rfl ?_
  refine TO.w hn (.pick _ _ _) rfl (guard0 rfl) (lop_pickT (agree hn) rfl rfl rfl) rfl ?_
  refine TO.w hn (.move _) rfl (guard0 rfl) (lop_move (agree hn) rfl) rfl ?_
  (refine TO.splitB 14 hn rfl (fun hc => ?_) (fun hc => ?_) <;> (try simp only [decide_eq_true_eq, decide_eq_false_iff_not, beq_iff_eq, bne_iff_ne, beq_eq_false_iff_ne, bne_eq_false_iff_eq, Bool.not_eq_true', Bool.not_eq_false', Bool.not_eq_eq_eq_not, Bool.not_true, Bool.not_false, ne_eq, gt_iff_lt, ge_iff_le, Bool.and_eq_true, Bool.or_eq_true, Bool.and_eq_false_imp, Bool.or_eq_false_iff, Nat.not_lt, Nat.not_le, Int.not_lt, Int.not_le, Decidable.not_not] at hc))
  refine TO.w hn (.load _ _) rfl (guardOn (agree hn) rfl rfl rfl rfl) (lop_load (agree hn) rfl (by assumption) rfl rfl) rfl ?_
  refine TO.w hn (.binOp _ _ _ _ _) rfl (guardOn (agree hn) rfl rfl rfl rfl) (lop_neS (agree hn) rfl rfl) rfl ?_
  refine TO.w hn (.pick _ _ _) rfl (guard0 rfl) (lop_pickT (agree hn) rfl rfl rfl) rfl ?_
  refine TO.w hn (.move _) rfl (guard0 rfl) (lop_move (agree hn) rfl) rfl ?_
  (refine TO.splitB 18 hn rfl (fun hc => ?_) (fun hc => ?_) <;> (try simp only [decide_eq_true_eq, decide_eq_false_iff_not, beq_iff_eq, bne_iff_ne, beq_eq_false_iff_ne, bne_eq_false_iff_eq, Bool.not_eq_true', Bool.not_eq_false', Bool.not_eq_eq_eq_not, Bool.not_true, Bool.not_false, ne_eq, gt_iff_lt, ge_iff_le, Bool.and_eq_true, Bool.or_eq_true, Bool.and_eq_false_imp, Bool.or_eq_false_iff, Nat.not_lt, Nat.not_le, Int.not_lt, Int.not_le, Decidable.not_not] at hc))
  refine TO.w hn (.load _ _) rfl (guardOn (agree hn) rfl rfl rfl rfl) (lop_load (agree hn) rfl (by assumption) rfl rfl) rfl ?_
  (refine TO.wc hn (.call _) rfl (guardOn (agree hn) rfl rfl rfl rfl) (lop_func (agree hn) rfl rfl rfl) rfl (CF.co noOwn rfl rfl (left_CF hr)) (fun v H2 hR => ?_); (obtain ⟨rfl, e2⟩ := hR; cases e2.symm))
  refine TO.w hn (.binOp _ _ _ _ _) rfl (guardOn (agree hn) rfl rfl rfl rfl) (lop_bin (agree hn) rfl rfl rfl) rfl ?_
  refine TO.w hn (.pick _ _ _) rfl (guard0 rfl) (lop_pickT (agree hn) rfl rfl rfl) rfl ?_
  refine TO.w hn (.assign _) rfl (guard0 rfl) (lop_assign (agree hn) rfl) rfl ?_
  refine TO.nil ?_
  refine TC.ret ?_
  rotate_left
  refine TO.woff hn (guardOff (agree hn) rfl rfl rfl rfl) rfl ?_
  refine TO.woff hn (guardOff (agree hn) rfl rfl rfl rfl) rfl ?_
  refine TO.woff hn (guardOff (agree hn) rfl rfl rfl rfl) rfl ?_
  refine TO.w hn (.pick _ _ _) rfl (guard0 rfl) (lop_pickF (agree hn) rfl rfl rfl) rfl ?_
  refine TO.w hn (.assign _) rfl (guard0 rfl) (lop_assign (agree hn) rfl) rfl ?_
  refine TO.nil ?_
  refine TC.ret ?_
  rotate_left
  refine TO.woff hn (guardOff (agree hn) rfl rfl rfl rfl) rfl ?_
  refine TO.woff hn (guardOff (agree hn) rfl rfl rfl rfl) rfl ?_
  refine TO.w hn (.pick _ _ _) rfl (guard0 rfl) (lop_pickF (agree hn) rfl rfl rfl) rfl ?_
  refine TO.w hn (.move _) rfl (guard0 rfl) (lop_move (agree hn) rfl) rfl ?_
  refine TO.woff hn (guardOff (agree hn) rfl rfl rfl rfl) rfl ?_
  refine TO.woff hn (guardOff (agree hn) rfl rfl rfl rfl) rfl ?_
  refine TO.woff hn (guardOff (agree hn) rfl rfl rfl rfl) rfl ?_
  refine TO.w hn (.pick _ _ _) rfl (guard0 rfl) (lop_pickF (agree hn) rfl rfl rfl) rfl ?_
  refine TO.w hn (.assign _) rfl (guard0 rfl) (lop_assign (agree hn) rfl) rfl ?_
  refine TO.nil ?_
  refine TC.ret ?_
  rotate_left
  refine TO.woff hn (guardOff (agree hn) rfl rfl rfl rfl) rfl ?_
  refine TO.woff hn (guardOff (agree hn) rfl rfl rfl rfl) rfl ?_
  refine TO.w hn (.pick _ _ _) rfl (guard0 rfl) (lop_pickF (agree hn) rfl rfl rfl) rfl ?_
  refine TO.w hn (.move _) rfl (guard0 rfl) (lop_move (agree hn) rfl) rfl ?_
  refine TO.woff hn (guardOff (agree hn) rfl rfl rfl rfl) rfl ?_
  refine TO.woff hn (guardOff (agree hn) rfl rfl rfl rfl) rfl ?_
  refine TO.w hn (.pick _ _ _) rfl (guard0 rfl) (lop_pickF (agree hn) rfl rfl rfl) rfl ?_
  refine TO.w hn (.move _) rfl (guard0 rfl) (lop_move (agree hn) rfl) rfl ?_
  refine TO.woff hn (guardOff (agree hn) rfl rfl rfl rfl) rfl ?_
  refine TO.woff hn (guardOff (agree hn) rfl rfl rfl rfl) rfl ?_
  refine TO.woff hn (guardOff (agree hn) rfl rfl rfl rfl) rfl ?_
  refine TO.w hn (.pick _ _ _) rfl (guard0 rfl) (lop_pickF (agree hn) rfl rfl rfl) rfl ?_
  refine TO.w hn (.assign _) rfl (guard0 rfl) (lop_assign (agree hn) rfl) rfl ?_
  refine TO.nil ?_
  refine TC.ret ?_
  rotate_left
  refine TO.woff hn (guardOff (agree hn) rfl rfl rfl rfl) rfl ?_
  refine TO.w hn (.pick _ _ _) rfl (guard0 rfl) (lop_pickF (agree hn) rfl rfl rfl) rfl ?_
  refine TO.w hn (.move _) rfl (guard0 rfl) (lop_move (agree hn) rfl) rfl ?_
  refine TO.woff hn (guardOff (agree hn) rfl rfl rfl rfl) rfl ?_
  refine TO.woff hn (guardOff (agree hn) rfl rfl rfl rfl) rfl ?_
  refine TO.w hn (.pick _ _ _) rfl (guard0 rfl) (lop_pickF (agree hn) rfl rfl rfl) rfl ?_
  refine TO.w hn (.move _) rfl (guard0 rfl) (lop_move (agree hn) rfl) rfl ?_
  refine TO.woff hn (guardOff (agree hn) rfl rfl rfl rfl) rfl ?_
  refine TO.woff hn (guardOff (agree hn) rfl rfl rfl rfl) rfl ?_
  refine TO.w hn (.pick _ _ _) rfl (guard0 rfl) (lop_pickF (agree hn) rfl rfl rfl) rfl ?_
  refine TO.w hn (.move _) rfl (guard0 rfl) (lop_move (agree hn) rfl) rfl ?_
  refine TO.woff hn (guardOff (agree hn) rfl rfl rfl rfl) rfl ?_
  refine TO.woff hn (guardOff (agree hn) rfl rfl rfl rfl) rfl ?_
  refine TO.woff hn (guardOff (agree hn) rfl rfl rfl rfl) rfl ?_
  refine TO.w hn (.pick _ _ _) rfl (guard0 rfl) (lop_pickF (agree hn) rfl rfl rfl) rfl ?_
  refine TO.w hn (.assign _) rfl (guard0 rfl) (lop_assign (agree hn) rfl) rfl ?_
  refine TO.nil ?_
  refine TC.ret ?_
  rotate_left
  all_goals
    refine ⟨trivial, _, lres1 (agree hn) rfl, congrArg Value.bool ?_, rfl⟩
    simp_all <;> first | omega | (rw [Bool.eq_iff_iff]; simp <;> omega)
/-- What the program reads out of a cell. -/
def saidV (c : List UInt8) : Value := .tuple #[S (textA c 1000), .bool ((numA (textL c 1000) 1 : Int) == 1), .bool (decide (textOk c 1000) && decide (numOk (textL c 1000) 1) && decide (numA (textL c 1000) 1 ≤ 1) && decide (textA c 1000 ≠ []) && decide ((numL (textL c 1000) 1).length = 0))]
theorem saidV_some {c s : List UInt8} {t : Bool} (h : parse c = some (s, t)) : saidV c = .tuple #[S s, .bool t, .bool true] := by
  rcases whole_spec c with ⟨hw, hp⟩ | ⟨_, hp⟩
  · rw [h] at hp
    cases hp
    obtain ⟨h1, h2, h3, h4, h5⟩ := hw
    unfold saidV
    rw [decide_eq_true h1, decide_eq_true h2, decide_eq_true h3, decide_eq_true h4, decide_eq_true h5]
    have e : ((numA (textL c 1000) 1 : Int) == 1) = decide (numA (textL c 1000) 1 = 1) := by
      rw [Bool.eq_iff_iff, beq_iff_eq, decide_eq_true_eq]
      omega
    rw [e]
    rfl
  · rw [h] at hp; cases hp
theorem saidV_none {c : List UInt8} (h : parse c = none) : ∃ s t, saidV c = .tuple #[S s, .bool t, .bool false] := by
  rcases whole_spec c with ⟨_, hp⟩ | ⟨hw, _⟩
  · rw [h] at hp; cases hp
  · refine ⟨textA c 1000, ((numA (textL c 1000) 1 : Int) == 1), ?_⟩
    unfold saidV
    have : (decide (textOk c 1000) && decide (numOk (textL c 1000) 1) && decide (numA (textL c 1000) 1 ≤ 1) && decide (textA c 1000 ≠ []) && decide ((numL (textL c 1000) 1).length = 0)) = false := by
      rw [Bool.eq_false_iff]
      intro h2
      simp only [Bool.and_eq_true, decide_eq_true_eq] at h2
      exact hw ⟨h2.1.1.1.1, h2.1.1.1.2, h2.1.1.2, h2.1.2, h2.2⟩
    rw [this]

theorem said_CF {H : Hp} {c : List UInt8} (hc : c.length ≤ 4611686018427387904) : CF Try.prog 22 [S c] H fun v H' => v = saidV c ∧ H' = H := by
  refine CF.forget ((?_ : CF _ _ _ _ fun u H' => u = saidV c ∧ H.le H').mono fun u H' h => ⟨⟨h.1, by rw [h.1]; rfl⟩, h.2⟩)
  refine CF.wf fun hw => ?_
  have hnew := fun (H : Hp) (l : List UInt8) => CF.co noOwn rfl rfl (new_CF (H := H) l)
  refine CF.go _ Try.func22 rfl ⟨Nat.le_of_ble_eq_true rfl, rfl⟩ fun base hb0 hn => ?_
  subst hb0
  have hl := textL_le c 1000
  refine TC.seq ?_
  refine TC.region (id := 0) ?_
  refine TO.w hn (.alloc _) rfl (guard0 rfl) (lop_alloc (agree hn) rfl) rfl ?_
  refine TO.w hn (.assign _) rfl (guard0 rfl) (lop_assign (agree hn) rfl) rfl ?_
  refine TO.w hn (.assign _) rfl (guard0 rfl) (lop_assign (agree hn) rfl) rfl ?_
  refine TO.nil ?_
  refine TC.seq ?_
  refine TC.region (id := 1) ?_
  refine TO.w hn (.move _) rfl (guard0 rfl) (lop_move (agree hn) rfl) rfl ?_
  (refine TO.wc hn (.call _) rfl (guard0 rfl) (lop_func (agree hn) rfl rfl rfl) rfl (hnew _ _) (fun v H2 hR => ?_); (obtain ⟨rfl, hle, hnn, hr⟩ := hR))
  refine TO.w hn (.alloc _) rfl (guard0 rfl) (lop_alloc (agree hn) rfl) rfl ?_
  refine TO.w0 hn (.store _ _ _) rfl (guard0 rfl) (lop_store (agree hn) rfl rfl (by exact new_self _ _) rfl rfl rfl) rfl ?_
  refine TO.nil ?_
  refine TC.seq ?_
  refine TC.region (id := 2) ?_
  refine TO.w hn (.load _ _) rfl (guard0 rfl) (lop_load (agree hn) rfl (by exact set_self _ _ _) rfl rfl) rfl ?_
  (refine TO.wc hn (.call _) rfl (guard0 rfl) (lop_func (agree hn) rfl rfl rfl) rfl (CF.co noOwn rfl rfl (text_any (by (repeat' first | assumption | apply Rd.new | apply Rd.setc | exact new_self _ _ | exact set_self _ _ _ | refine (set_other _ (by first | assumption | omega | (simp only [new_n, set_n, move_n] at *; omega))).trans ?_ | refine (new_other _ (by first | assumption | omega | (simp only [new_n, set_n, move_n] at *; omega))).trans ?_ | refine Hp.le.fe (by assumption) ?_ rfl | omega | (simp only [new_n, set_n, move_n] at *; omega))) (by omega) (by omega))) (fun v H2 hR => ?_); (obtain ⟨rfl, x, rfl, hr⟩ := hR))
  refine TO.w hn (.move _) rfl (guard0 rfl) (lop_move (agree hn) rfl) rfl ?_
  refine TO.w hn (.extract _ _) rfl (guard0 rfl) (lop_ex (agree hn) rfl rfl) rfl ?_
  refine TO.w hn (.extract _ _) rfl (guard0 rfl) (lop_ex (agree hn) rfl rfl) rfl ?_
  refine TO.w hn (.alloc _) rfl (guard0 rfl) (lop_alloc (agree hn) rfl) rfl ?_
  refine TO.w0 hn (.store _ _ _) rfl (guard0 rfl) (lop_store (agree hn) rfl rfl (by (repeat (first | exact new_self _ _ | exact set_self _ _ _ | exact move_self _ _ _ | assumption | refine (set_other _ (by first | assumption | omega | (simp only [new_n, set_n, move_n] at *; omega))).trans ?_ | refine (new_other _ (by first | assumption | omega | (simp only [new_n, set_n, move_n] at *; omega))).trans ?_ | refine (move_other _ (by first | assumption | omega | (simp only [new_n, set_n, move_n] at *; omega)) (by first | assumption | omega | (simp only [new_n, set_n, move_n] at *; omega))).trans ?_ | refine Hp.le.fe (by assumption) ?_ rfl))) rfl rfl rfl) rfl ?_
  refine TO.w0 hn (.store _ _ _) rfl (guard0 rfl) (lop_store (agree hn) rfl rfl (by (repeat (first | exact new_self _ _ | exact set_self _ _ _ | exact move_self _ _ _ | assumption | refine (set_other _ (by first | assumption | omega | (simp only [new_n, set_n, move_n] at *; omega))).trans ?_ | refine (new_other _ (by first | assumption | omega | (simp only [new_n, set_n, move_n] at *; omega))).trans ?_ | refine (move_other _ (by first | assumption | omega | (simp only [new_n, set_n, move_n] at *; omega)) (by first | assumption | omega | (simp only [new_n, set_n, move_n] at *; omega))).trans ?_ | refine Hp.le.fe (by assumption) ?_ rfl))) rfl rfl rfl) rfl ?_
  refine TO.nil ?_
  refine TC.seq ?_
  refine TC.region (id := 3) ?_
  refine TO.w hn (.load _ _) rfl (guard0 rfl) (lop_load (agree hn) rfl (by (repeat (first | exact new_self _ _ | exact set_self _ _ _ | exact move_self _ _ _ | assumption | refine (set_other _ (by first | assumption | omega | (simp only [new_n, set_n, move_n] at *; omega))).trans ?_ | refine (new_other _ (by first | assumption | omega | (simp only [new_n, set_n, move_n] at *; omega))).trans ?_ | refine (move_other _ (by first | assumption | omega | (simp only [new_n, set_n, move_n] at *; omega)) (by first | assumption | omega | (simp only [new_n, set_n, move_n] at *; omega))).trans ?_ | refine Hp.le.fe (by assumption) ?_ rfl))) rfl rfl) rfl ?_
  (refine TO.wc hn (.call _) rfl (guard0 rfl) (lop_func (agree hn) rfl rfl rfl) rfl (CF.co noOwn rfl rfl (number_any (by (repeat' first | assumption | apply Rd.new | apply Rd.setc | exact new_self _ _ | exact set_self _ _ _ | refine (set_other _ (by first | assumption | omega | (simp only [new_n, set_n, move_n] at *; omega))).trans ?_ | refine (new_other _ (by first | assumption | omega | (simp only [new_n, set_n, move_n] at *; omega))).trans ?_ | refine Hp.le.fe (by assumption) ?_ rfl | omega | (simp only [new_n, set_n, move_n] at *; omega))))) (fun v H2 hR => ?_); (obtain ⟨rfl, x, rfl, hr⟩ := hR))
  refine TO.w hn (.move _) rfl (guard0 rfl) (lop_move (agree hn) rfl) rfl ?_
  refine TO.w hn (.extract _ _) rfl (guard0 rfl) (lop_ex (agree hn) rfl rfl) rfl ?_
  refine TO.w hn (.extract _ _) rfl (guard0 rfl) (lop_ex (agree hn) rfl rfl) rfl ?_
  refine TO.w hn (.alloc _) rfl (guard0 rfl) (lop_alloc (agree hn) rfl) rfl ?_
  refine TO.w hn (.alloc _) rfl (guard0 rfl) (lop_alloc (agree hn) rfl) rfl ?_
  refine TO.w0 hn (.store _ _ _) rfl (guard0 rfl) (lop_store (agree hn) rfl rfl (by (repeat (first | exact new_self _ _ | exact set_self _ _ _ | exact move_self _ _ _ | assumption | refine (set_other _ (by first | assumption | omega | (simp only [new_n, set_n, move_n] at *; omega))).trans ?_ | refine (new_other _ (by first | assumption | omega | (simp only [new_n, set_n, move_n] at *; omega))).trans ?_ | refine (move_other _ (by first | assumption | omega | (simp only [new_n, set_n, move_n] at *; omega)) (by first | assumption | omega | (simp only [new_n, set_n, move_n] at *; omega))).trans ?_ | refine Hp.le.fe (by assumption) ?_ rfl))) rfl rfl rfl) rfl ?_
  refine TO.w0 hn (.store _ _ _) rfl (guard0 rfl) (lop_store (agree hn) rfl rfl (by (repeat (first | exact new_self _ _ | exact set_self _ _ _ | exact move_self _ _ _ | assumption | refine (set_other _ (by first | assumption | omega | (simp only [new_n, set_n, move_n] at *; omega))).trans ?_ | refine (new_other _ (by first | assumption | omega | (simp only [new_n, set_n, move_n] at *; omega))).trans ?_ | refine (move_other _ (by first | assumption | omega | (simp only [new_n, set_n, move_n] at *; omega)) (by first | assumption | omega | (simp only [new_n, set_n, move_n] at *; omega))).trans ?_ | refine Hp.le.fe (by assumption) ?_ rfl))) rfl rfl rfl) rfl ?_
  refine TO.nil ?_
  refine TC.seq ?_
  refine TC.region (id := 4) ?_
  refine TO.w hn (.makeFunc _ _ _) rfl (guard0 rfl) (lop_mkfn (agree hn) rfl rfl) rfl ?_
  refine TO.w hn (.assign _) rfl (guard0 rfl) (lop_assign (agree hn) rfl) rfl ?_
  refine TO.nil ?_
  refine TC.seq ?_
  refine TC.drawnFork (id := 5) [(3, 0), (4, 1), (0, 0)] [(1, 0), (2, 0), (5, 0), (6, 0), (7, 0)] [(5, 0), (1, 0), (2, 0), (6, 0), (7, 0)] rfl (by kernel_rfl) ?_
  refine AS.w hn rfl (.move _) rfl (guard0 rfl) (lop_move (agree hn) rfl) rfl ?_
  refine AS.wp hn rfl (.call _) rfl (guard0 rfl) (lop_func (agree hn) rfl rfl rfl) rfl (CF.co noOwn rfl rfl (whole_CF (by (repeat (first | exact new_self _ _ | exact set_self _ _ _ | exact move_self _ _ _ | assumption | refine (set_other _ (by first | assumption | omega | (simp only [new_n, set_n, move_n] at *; omega))).trans ?_ | refine (new_other _ (by first | assumption | omega | (simp only [new_n, set_n, move_n] at *; omega))).trans ?_ | refine (move_other _ (by first | assumption | omega | (simp only [new_n, set_n, move_n] at *; omega)) (by first | assumption | omega | (simp only [new_n, set_n, move_n] at *; omega))).trans ?_ | refine Hp.le.fe (by assumption) ?_ rfl))) (by exact set_self _ _ _) (by (repeat (first | exact new_self _ _ | exact set_self _ _ _ | exact move_self _ _ _ | assumption | refine (set_other _ (by first | assumption | omega | (simp only [new_n, set_n, move_n] at *; omega))).trans ?_ | refine (new_other _ (by first | assumption | omega | (simp only [new_n, set_n, move_n] at *; omega))).trans ?_ | refine (move_other _ (by first | assumption | omega | (simp only [new_n, set_n, move_n] at *; omega)) (by first | assumption | omega | (simp only [new_n, set_n, move_n] at *; omega))).trans ?_ | refine Hp.le.fe (by assumption) ?_ rfl))) (by (repeat (first | exact new_self _ _ | exact set_self _ _ _ | exact move_self _ _ _ | assumption | refine (set_other _ (by first | assumption | omega | (simp only [new_n, set_n, move_n] at *; omega))).trans ?_ | refine (new_other _ (by first | assumption | omega | (simp only [new_n, set_n, move_n] at *; omega))).trans ?_ | refine (move_other _ (by first | assumption | omega | (simp only [new_n, set_n, move_n] at *; omega)) (by first | assumption | omega | (simp only [new_n, set_n, move_n] at *; omega))).trans ?_ | refine Hp.le.fe (by assumption) ?_ rfl))) (by (repeat (first | exact new_self _ _ | exact set_self _ _ _ | exact move_self _ _ _ | assumption | refine (set_other _ (by first | assumption | omega | (simp only [new_n, set_n, move_n] at *; omega))).trans ?_ | refine (new_other _ (by first | assumption | omega | (simp only [new_n, set_n, move_n] at *; omega))).trans ?_ | refine (move_other _ (by first | assumption | omega | (simp only [new_n, set_n, move_n] at *; omega)) (by first | assumption | omega | (simp only [new_n, set_n, move_n] at *; omega))).trans ?_ | refine Hp.le.fe (by assumption) ?_ rfl))) (by (repeat' first | assumption | apply Rd.new | apply Rd.setc | exact new_self _ _ | exact set_self _ _ _ | refine (set_other _ (by first | assumption | omega | (simp only [new_n, set_n, move_n] at *; omega))).trans ?_ | refine (new_other _ (by first | assumption | omega | (simp only [new_n, set_n, move_n] at *; omega))).trans ?_ | refine Hp.le.fe (by assumption) ?_ rfl | omega | (simp only [new_n, set_n, move_n] at *; omega))))) ?_
  refine AS.w hn rfl (.load _ _) rfl (guard0 rfl) (lop_load (agree hn) rfl (by (repeat (first | exact new_self _ _ | exact set_self _ _ _ | exact move_self _ _ _ | assumption | refine (set_other _ (by first | assumption | omega | (simp only [new_n, set_n, move_n] at *; omega))).trans ?_ | refine (new_other _ (by first | assumption | omega | (simp only [new_n, set_n, move_n] at *; omega))).trans ?_ | refine (move_other _ (by first | assumption | omega | (simp only [new_n, set_n, move_n] at *; omega)) (by first | assumption | omega | (simp only [new_n, set_n, move_n] at *; omega))).trans ?_ | refine Hp.le.fe (by assumption) ?_ rfl))) rfl rfl) rfl ?_
  refine AS.fork ?_ ?_
  refine AS.w hn rfl (.load _ _) rfl (guard0 rfl) (lop_load (agree hn) rfl (by (repeat (first | exact new_self _ _ | exact set_self _ _ _ | exact move_self _ _ _ | assumption | refine (set_other _ (by first | assumption | omega | (simp only [new_n, set_n, move_n] at *; omega))).trans ?_ | refine (new_other _ (by first | assumption | omega | (simp only [new_n, set_n, move_n] at *; omega))).trans ?_ | refine (move_other _ (by first | assumption | omega | (simp only [new_n, set_n, move_n] at *; omega)) (by first | assumption | omega | (simp only [new_n, set_n, move_n] at *; omega))).trans ?_ | refine Hp.le.fe (by assumption) ?_ rfl))) rfl rfl) rfl ?_
  refine AS.w hn rfl (.binOp _ _ _ _ _) rfl (guard0 rfl) (lop_bin (agree hn) rfl rfl rfl) rfl ?_
  refine AS.w0 hn rfl (.store _ _ _) rfl (guard0 rfl) (lop_store (agree hn) rfl rfl (by (repeat (first | exact new_self _ _ | exact set_self _ _ _ | exact move_self _ _ _ | assumption | refine (set_other _ (by first | assumption | omega | (simp only [new_n, set_n, move_n] at *; omega))).trans ?_ | refine (new_other _ (by first | assumption | omega | (simp only [new_n, set_n, move_n] at *; omega))).trans ?_ | refine (move_other _ (by first | assumption | omega | (simp only [new_n, set_n, move_n] at *; omega)) (by first | assumption | omega | (simp only [new_n, set_n, move_n] at *; omega))).trans ?_ | refine Hp.le.fe (by assumption) ?_ rfl))) rfl rfl rfl) rfl ?_
  refine AS.w hn rfl (.assign _) rfl (guard0 rfl) (lop_assign (agree hn) rfl) rfl ?_
  refine AS.w hn rfl (.assign _) rfl (guard0 rfl) (lop_assign (agree hn) rfl) rfl ?_
  refine AS.nil ?_
  refine TC.ret ?_
  rotate_left
  refine AS.w0 hn rfl (.store _ _ _) rfl (guard0 rfl) (lop_store (agree hn) rfl rfl (by (repeat (first | exact new_self _ _ | exact set_self _ _ _ | exact move_self _ _ _ | assumption | refine (set_other _ (by first | assumption | omega | (simp only [new_n, set_n, move_n] at *; omega))).trans ?_ | refine (new_other _ (by first | assumption | omega | (simp only [new_n, set_n, move_n] at *; omega))).trans ?_ | refine (move_other _ (by first | assumption | omega | (simp only [new_n, set_n, move_n] at *; omega)) (by first | assumption | omega | (simp only [new_n, set_n, move_n] at *; omega))).trans ?_ | refine Hp.le.fe (by assumption) ?_ rfl))) rfl rfl rfl) rfl ?_
  refine AS.w hn rfl (.load _ _) rfl (guard0 rfl) (lop_load (agree hn) rfl (by (repeat (first | exact new_self _ _ | exact set_self _ _ _ | exact move_self _ _ _ | assumption | refine (set_other _ (by first | assumption | omega | (simp only [new_n, set_n, move_n] at *; omega))).trans ?_ | refine (new_other _ (by first | assumption | omega | (simp only [new_n, set_n, move_n] at *; omega))).trans ?_ | refine (move_other _ (by first | assumption | omega | (simp only [new_n, set_n, move_n] at *; omega)) (by first | assumption | omega | (simp only [new_n, set_n, move_n] at *; omega))).trans ?_ | refine Hp.le.fe (by assumption) ?_ rfl))) rfl rfl) rfl ?_
  refine AS.w hn rfl (.binOp _ _ _ _ _) rfl (guard0 rfl) (lop_bin (agree hn) rfl rfl rfl) rfl ?_
  refine AS.w hn rfl (.assign _) rfl (guard0 rfl) (lop_assign (agree hn) rfl) rfl ?_
  refine AS.w hn rfl (.assign _) rfl (guard0 rfl) (lop_assign (agree hn) rfl) rfl ?_
  refine AS.nil ?_
  refine TC.ret ?_
  rotate_left
  all_goals exact ⟨trivial, _, lresC (agree hn) (.cell rfl (by first | assumption | exact new_self _ _ | exact set_self _ _ _ | exact move_self _ _ _ | (repeat (first | exact new_self _ _ | exact set_self _ _ _ | exact move_self _ _ _ | assumption | refine (set_other _ (by first | assumption | omega | (simp only [new_n, set_n, move_n] at *; omega))).trans ?_ | refine (new_other _ (by first | assumption | omega | (simp only [new_n, set_n, move_n] at *; omega))).trans ?_ | refine (move_other _ (by first | assumption | omega | (simp only [new_n, set_n, move_n] at *; omega)) (by first | assumption | omega | (simp only [new_n, set_n, move_n] at *; omega))).trans ?_ | refine Hp.le.fe (by assumption) ?_ rfl))) rfl rfl (.tmp rfl (.tmp rfl .nil))) rfl, rfl, (by first | assumption | (repeat' first | assumption | exact Hp.le.refl _ | apply Hp.le.new' | apply Hp.le.set' | apply Hp.le.move' | (refine Hp.le.trans ?_ (by assumption)) | omega | (simp only [new_n, set_n, move_n] at *; omega)))⟩

theorem saidR_CF {H : Hp} {c : List UInt8} (hc : c.length ≤ 4611686018427387904) : CF Try.prog 25 [S c] H fun v H' => (v = match parse c with
    | some (s, t) => .tuple #[S s, .bool t, .bool true]
    | none => if textA c 1000 = [] then .tuple #[S [], .bool false, .bool false] else .tuple #[S (textA c 1000), .bool true, .bool false]) ∧ H' = H := by
  refine CF.forget ((?_ : CF _ _ _ _ fun u H' => (u = match parse c with
    | some (s, t) => .tuple #[S s, .bool t, .bool true]
    | none => if textA c 1000 = [] then .tuple #[S [], .bool false, .bool false] else .tuple #[S (textA c 1000), .bool true, .bool false]) ∧ H.le H').mono fun u H' h => ⟨⟨h.1, by rw [h.1]; split <;> (try split) <;> rfl⟩, h.2⟩)
  refine CF.wf fun hw => ?_
  have hnew := fun (H : Hp) (l : List UInt8) => CF.co noOwn rfl rfl (newR_CF (H := H) l)
  have hla : (textA c 1000).length ≤ 1000 := by
    unfold textA
    split
    · rename_i h
      rw [List.length_take]
      have := h.2.2.1
      omega
    · simp
  refine CF.go _ Try.func25 rfl ⟨Nat.le_of_ble_eq_true rfl, rfl⟩ fun base hb0 hn => ?_
  subst hb0
  have hp : parse c = if textA c 1000 = [] then none else if c = cellL (textA c 1000) false then some (textA c 1000, false) else if c = cellL (textA c 1000) true then some (textA c 1000, true) else none := rfl
  rw [hp]
  generalize hA : textA c 1000 = A at *
  by_cases h1 : A = []
  · subst h1
    refine TC.seq ?_
    refine TC.region (id := 0) ?_
    refine TO.w hn (.assign _) rfl (guard0 rfl) (lop_assign (agree hn) rfl) rfl ?_
    refine TO.w hn (.assign _) rfl (guard0 rfl) (lop_assign (agree hn) rfl) rfl ?_
    refine TO.w hn (.assign _) rfl (guard0 rfl) (lop_assign (agree hn) rfl) rfl ?_
    refine TO.nil ?_
    refine TC.seq ?_
    refine TC.region (id := 1) ?_
    refine TO.w hn (.move _) rfl (guard0 rfl) (lop_move (agree hn) rfl) rfl ?_
    (refine TO.wc hn (.call _) rfl (guard0 rfl) (lop_func (agree hn) rfl rfl rfl) rfl (hnew _ _) (fun v H2 hR => ?_); (obtain ⟨rfl, hle, hnn, hr⟩ := hR))
    refine TO.w hn (.assign _) rfl (guard0 rfl) (lop_assign (agree hn) rfl) rfl ?_
    refine TO.nil ?_
    refine TC.seq ?_
    refine TC.region (id := 2) ?_
    refine TO.w hn (.move _) rfl (guard0 rfl) (lop_move (agree hn) rfl) rfl ?_
    (refine TO.wc hn (.call _) rfl (guard0 rfl) (lop_func (agree hn) rfl rfl rfl) rfl (CF.co noOwn rfl rfl (textR_any hr (by omega) (by omega))) (fun v H2 hR => ?_); (obtain ⟨rfl, e2⟩ := hR; cases e2.symm; rw [hA]))
    refine TO.w hn (.move _) rfl (guard0 rfl) (lop_move (agree hn) rfl) rfl ?_
    refine TO.w hn (.extract _ _) rfl (guard0 rfl) (lop_ex (agree hn) rfl rfl) rfl ?_
    refine TO.w hn (.extract _ _) rfl (guard0 rfl) (lop_ex (agree hn) rfl rfl) rfl ?_
    refine TO.w hn (.assign _) rfl (guard0 rfl) (lop_assign (agree hn) rfl) rfl ?_
    refine TO.w hn (.assign _) rfl (guard0 rfl) (lop_assign (agree hn) rfl) rfl ?_
    refine TO.nil ?_
    refine TC.seq ?_
    refine TC.seq ?_
    refine TC.region (id := 3) ?_
    refine TO.w hn (.move _) rfl (guard0 rfl) (lop_move (agree hn) rfl) rfl ?_
    refine TO.w hn (.binOp _ _ _ _ _) rfl (guard0 rfl) (lop_eqST (agree hn) rfl rfl (by rfl)) rfl ?_
    refine TO.nil ?_
    refine TC.condT (agree hn) rfl rfl ?_
    refine TC.seq ?_
    refine TC.region (id := 4) ?_
    refine TO.w hn (.assign _) rfl (guard0 rfl) (lop_assign (agree hn) rfl) rfl ?_
    refine TO.w hn (.assign _) rfl (guard0 rfl) (lop_assign (agree hn) rfl) rfl ?_
    refine TO.w hn (.assign _) rfl (guard0 rfl) (lop_assign (agree hn) rfl) rfl ?_
    refine TO.nil ?_
    refine TC.ret ?_
    exact ⟨trivial, _, lresT (agree hn) rfl rfl, rfl, (by first | assumption | (repeat' first | assumption | exact Hp.le.refl _ | apply Hp.le.new' | apply Hp.le.set' | apply Hp.le.move' | (refine Hp.le.trans ?_ (by assumption)) | omega | (simp only [new_n, set_n, move_n] at *; omega)))⟩
  · rw [if_neg h1]
    by_cases h2 : c = cellL A false
    · rw [if_pos h2]
      refine TC.seq ?_
      refine TC.region (id := 0) ?_
      refine TO.w hn (.assign _) rfl (guard0 rfl) (lop_assign (agree hn) rfl) rfl ?_
      refine TO.w hn (.assign _) rfl (guard0 rfl) (lop_assign (agree hn) rfl) rfl ?_
      refine TO.w hn (.assign _) rfl (guard0 rfl) (lop_assign (agree hn) rfl) rfl ?_
      refine TO.nil ?_
      refine TC.seq ?_
      refine TC.region (id := 1) ?_
      refine TO.w hn (.move _) rfl (guard0 rfl) (lop_move (agree hn) rfl) rfl ?_
      (refine TO.wc hn (.call _) rfl (guard0 rfl) (lop_func (agree hn) rfl rfl rfl) rfl (hnew _ _) (fun v H2 hR => ?_); (obtain ⟨rfl, hle, hnn, hr⟩ := hR))
      refine TO.w hn (.assign _) rfl (guard0 rfl) (lop_assign (agree hn) rfl) rfl ?_
      refine TO.nil ?_
      refine TC.seq ?_
      refine TC.region (id := 2) ?_
      refine TO.w hn (.move _) rfl (guard0 rfl) (lop_move (agree hn) rfl) rfl ?_
      (refine TO.wc hn (.call _) rfl (guard0 rfl) (lop_func (agree hn) rfl rfl rfl) rfl (CF.co noOwn rfl rfl (textR_any hr (by omega) (by omega))) (fun v H2 hR => ?_); (obtain ⟨rfl, e2⟩ := hR; cases e2.symm; rw [hA]))
      refine TO.w hn (.move _) rfl (guard0 rfl) (lop_move (agree hn) rfl) rfl ?_
      refine TO.w hn (.extract _ _) rfl (guard0 rfl) (lop_ex (agree hn) rfl rfl) rfl ?_
      refine TO.w hn (.extract _ _) rfl (guard0 rfl) (lop_ex (agree hn) rfl rfl) rfl ?_
      refine TO.w hn (.assign _) rfl (guard0 rfl) (lop_assign (agree hn) rfl) rfl ?_
      refine TO.w hn (.assign _) rfl (guard0 rfl) (lop_assign (agree hn) rfl) rfl ?_
      refine TO.nil ?_
      refine TC.seq ?_
      refine TC.seq ?_
      refine TC.region (id := 3) ?_
      refine TO.w hn (.move _) rfl (guard0 rfl) (lop_move (agree hn) rfl) rfl ?_
      refine TO.w hn (.binOp _ _ _ _ _) rfl (guard0 rfl) (lop_eqSF (agree hn) rfl rfl (by assumption)) rfl ?_
      refine TO.nil ?_
      refine TC.condF (agree hn) rfl rfl ?_
      refine TC.skip ?_
      refine TC.seq ?_
      refine TC.seq ?_
      refine TC.region (id := 5) ?_
      refine TO.w hn (.move _) rfl (guard0 rfl) (lop_move (agree hn) rfl) rfl ?_
      refine TO.w hn (.move _) rfl (guard0 rfl) (lop_move (agree hn) rfl) rfl ?_
      (refine TO.wc hn (.call _) rfl (guard0 rfl) (lop_func (agree hn) rfl rfl rfl) rfl (CF.co noOwn rfl rfl (cellR_CF (by omega))) (fun v H2 hR => ?_); (obtain ⟨rfl, e2⟩ := hR; cases e2.symm))
      refine TO.w hn (.binOp _ _ _ _ _) rfl (guard0 rfl) (lop_eqST (agree hn) rfl rfl (by assumption)) rfl ?_
      refine TO.nil ?_
      refine TC.condT (agree hn) rfl rfl ?_
      refine TC.seq ?_
      refine TC.region (id := 6) ?_
      refine TO.w hn (.move _) rfl (guard0 rfl) (lop_move (agree hn) rfl) rfl ?_
      refine TO.w hn (.assign _) rfl (guard0 rfl) (lop_assign (agree hn) rfl) rfl ?_
      refine TO.w hn (.assign _) rfl (guard0 rfl) (lop_assign (agree hn) rfl) rfl ?_
      refine TO.w hn (.assign _) rfl (guard0 rfl) (lop_assign (agree hn) rfl) rfl ?_
      refine TO.nil ?_
      refine TC.ret ?_
      exact ⟨trivial, _, lresT (agree hn) rfl rfl, rfl, (by first | assumption | (repeat' first | assumption | exact Hp.le.refl _ | apply Hp.le.new' | apply Hp.le.set' | apply Hp.le.move' | (refine Hp.le.trans ?_ (by assumption)) | omega | (simp only [new_n, set_n, move_n] at *; omega)))⟩
    · rw [if_neg h2]
      refine TC.seq ?_
      refine TC.region (id := 0) ?_
      refine TO.w hn (.assign _) rfl (guard0 rfl) (lop_assign (agree hn) rfl) rfl ?_
      refine TO.w hn (.assign _) rfl (guard0 rfl) (lop_assign (agree hn) rfl) rfl ?_
      refine TO.w hn (.assign _) rfl (guard0 rfl) (lop_assign (agree hn) rfl) rfl ?_
      refine TO.nil ?_
      refine TC.seq ?_
      refine TC.region (id := 1) ?_
      refine TO.w hn (.move _) rfl (guard0 rfl) (lop_move (agree hn) rfl) rfl ?_
      (refine TO.wc hn (.call _) rfl (guard0 rfl) (lop_func (agree hn) rfl rfl rfl) rfl (hnew _ _) (fun v H2 hR => ?_); (obtain ⟨rfl, hle, hnn, hr⟩ := hR))
      refine TO.w hn (.assign _) rfl (guard0 rfl) (lop_assign (agree hn) rfl) rfl ?_
      refine TO.nil ?_
      refine TC.seq ?_
      refine TC.region (id := 2) ?_
      refine TO.w hn (.move _) rfl (guard0 rfl) (lop_move (agree hn) rfl) rfl ?_
      (refine TO.wc hn (.call _) rfl (guard0 rfl) (lop_func (agree hn) rfl rfl rfl) rfl (CF.co noOwn rfl rfl (textR_any hr (by omega) (by omega))) (fun v H2 hR => ?_); (obtain ⟨rfl, e2⟩ := hR; cases e2.symm; rw [hA]))
      refine TO.w hn (.move _) rfl (guard0 rfl) (lop_move (agree hn) rfl) rfl ?_
      refine TO.w hn (.extract _ _) rfl (guard0 rfl) (lop_ex (agree hn) rfl rfl) rfl ?_
      refine TO.w hn (.extract _ _) rfl (guard0 rfl) (lop_ex (agree hn) rfl rfl) rfl ?_
      refine TO.w hn (.assign _) rfl (guard0 rfl) (lop_assign (agree hn) rfl) rfl ?_
      refine TO.w hn (.assign _) rfl (guard0 rfl) (lop_assign (agree hn) rfl) rfl ?_
      refine TO.nil ?_
      refine TC.seq ?_
      refine TC.seq ?_
      refine TC.region (id := 3) ?_
      refine TO.w hn (.move _) rfl (guard0 rfl) (lop_move (agree hn) rfl) rfl ?_
      refine TO.w hn (.binOp _ _ _ _ _) rfl (guard0 rfl) (lop_eqSF (agree hn) rfl rfl (by assumption)) rfl ?_
      refine TO.nil ?_
      refine TC.condF (agree hn) rfl rfl ?_
      refine TC.skip ?_
      refine TC.seq ?_
      refine TC.seq ?_
      refine TC.region (id := 5) ?_
      refine TO.w hn (.move _) rfl (guard0 rfl) (lop_move (agree hn) rfl) rfl ?_
      refine TO.w hn (.move _) rfl (guard0 rfl) (lop_move (agree hn) rfl) rfl ?_
      (refine TO.wc hn (.call _) rfl (guard0 rfl) (lop_func (agree hn) rfl rfl rfl) rfl (CF.co noOwn rfl rfl (cellR_CF (by omega))) (fun v H2 hR => ?_); (obtain ⟨rfl, e2⟩ := hR; cases e2.symm))
      refine TO.w hn (.binOp _ _ _ _ _) rfl (guard0 rfl) (lop_eqSF (agree hn) rfl rfl (by assumption)) rfl ?_
      refine TO.nil ?_
      refine TC.condF (agree hn) rfl rfl ?_
      refine TC.skip ?_
      refine TC.seq ?_
      refine TC.region (id := 7) ?_
      refine TO.w hn (.move _) rfl (guard0 rfl) (lop_move (agree hn) rfl) rfl ?_
      refine TO.w hn (.move _) rfl (guard0 rfl) (lop_move (agree hn) rfl) rfl ?_
      refine TO.w hn (.move _) rfl (guard0 rfl) (lop_move (agree hn) rfl) rfl ?_
      (refine TO.wc hn (.call _) rfl (guard0 rfl) (lop_func (agree hn) rfl rfl rfl) rfl (CF.co noOwn rfl rfl (cellR_CF (by omega))) (fun v H2 hR => ?_); (obtain ⟨rfl, e2⟩ := hR; cases e2.symm))
      refine TO.w hn (.binOp _ _ _ _ _) rfl (guard0 rfl) (lop_eqS (agree hn) rfl rfl) rfl ?_
      refine TO.w hn (.assign _) rfl (guard0 rfl) (lop_assign (agree hn) rfl) rfl ?_
      refine TO.w hn (.assign _) rfl (guard0 rfl) (lop_assign (agree hn) rfl) rfl ?_
      refine TO.w hn (.assign _) rfl (guard0 rfl) (lop_assign (agree hn) rfl) rfl ?_
      refine TO.nil ?_
      refine TC.ret ?_
      refine ⟨trivial, _, lresT (agree hn) rfl rfl, ?_, (by first | assumption | (repeat' first | assumption | exact Hp.le.refl _ | apply Hp.le.new' | apply Hp.le.set' | apply Hp.le.move' | (refine Hp.le.trans ?_ (by assumption)) | omega | (simp only [new_n, set_n, move_n] at *; omega)))⟩
      by_cases h3 : c = cellL A true
      · rw [if_pos h3, decide_eq_true h3]
      · rw [if_neg h3, decide_eq_false h3]; simp [h1]
end Go.Proofs.Ytcndgbaldjcdfaa
