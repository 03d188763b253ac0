/- Cells: what the program and the document's answer make of them. -/
import Derived.Test.YtcndgbaldjcdfaaVerP
import Derived.Test.YtcndgbaldjcdfaaWireV
import Derived.Test.YtcndgbaldjcdfaaLite30
namespace Go.Proofs.Ytcndgbaldjcdfaa
set_option maxHeartbeats 8000000
set_option maxRecDepth 100000
open Go Go.Lite
set_option linter.unusedSimpArgs false
set_option linter.unusedVariables false

instance (c : List UInt8) : Decidable (wholeP c) := by unfold wholeP; infer_instance
theorem right_CF {H : Hp} {a : List UInt8} : CF Try.prog 20 [S a] H fun v H' => v = .bool (rightS a) ∧ H' = H := by
  refine CF.go _ Try.func20 rfl ⟨Nat.le_of_ble_eq_true rfl, rfl⟩ fun base hb0 hn => ?_
  subst hb0
  by_cases h : a = []
  · subst h
    refine TC.seq ?_
    refine TC.region (id := 0) ?_
    refine TO.w hn (.assign _) rfl (guard0 rfl) (lop_assign (agree hn) rfl) rfl ?_
    refine TO.nil ?_
    refine TC.seq ?_
    refine TC.region (id := 1) ?_
    refine TO.w hn (.move _) rfl (guard0 rfl) (lop_move (agree hn) rfl) rfl ?_
    refine TO.w hn (.binOp _ _ _ _ _) rfl (guard0 rfl) (lop_neSF (agree hn) rfl rfl (by rfl)) rfl ?_
    refine TO.w hn (.move _) rfl (guard0 rfl) (lop_move (agree hn) rfl) rfl ?_
    refine TO.woff hn (guardOff (agree hn) rfl rfl rfl rfl) rfl ?_
    refine TO.woff hn (guardOff (agree hn) rfl rfl rfl rfl) rfl ?_
    refine TO.woff hn (guardOff (agree hn) rfl rfl rfl rfl) rfl ?_
    refine TO.w hn (.pick _ _ _) rfl (guard0 rfl) (lop_pickF (agree hn) rfl rfl rfl) rfl ?_
    refine TO.w hn (.assign _) rfl (guard0 rfl) (lop_assign (agree hn) rfl) rfl ?_
    refine TO.nil ?_
    refine TC.ret ?_
    exact ⟨trivial, _, lres1 (agree hn) rfl, rfl, rfl⟩
  ·
    refine TC.seq ?_
    refine TC.region (id := 0) ?_
    refine TO.w hn (.assign _) rfl (guard0 rfl) (lop_assign (agree hn) rfl) rfl ?_
    refine TO.nil ?_
    refine TC.seq ?_
    refine TC.region (id := 1) ?_
    refine TO.w hn (.move _) rfl (guard0 rfl) (lop_move (agree hn) rfl) rfl ?_
    refine TO.w hn (.binOp _ _ _ _ _) rfl (guard0 rfl) (lop_neST (agree hn) rfl rfl (by assumption)) rfl ?_
    refine TO.w hn (.move _) rfl (guard0 rfl) (lop_move (agree hn) rfl) rfl ?_
    refine TO.w hn (.move _) rfl (guardOn (agree hn) rfl rfl rfl rfl) (lop_move (agree hn) rfl) rfl ?_
    refine TO.w hn (.call _) rfl (guardOn (agree hn) rfl rfl rfl rfl) (lop_built (agree hn) rfl rfl (lbuiltin_lenS rfl)) rfl ?_
    refine TO.w hn (.binOp _ _ _ _ _) rfl (guardOn (agree hn) rfl rfl rfl rfl) (lop_bin (agree hn) rfl rfl rfl) rfl ?_
    refine TO.w hn (.pick _ _ _) rfl (guard0 rfl) (lop_pickT (agree hn) rfl rfl rfl) rfl ?_
    refine TO.w hn (.assign _) rfl (guard0 rfl) (lop_assign (agree hn) rfl) rfl ?_
    refine TO.nil ?_
    refine TC.ret ?_
    refine ⟨trivial, _, lres1 (agree hn) rfl, congrArg Value.bool ?_, rfl⟩
    unfold rightS
    rw [Bool.eq_iff_iff, decide_eq_true_eq, decide_eq_true_eq]
    exact ⟨fun x => ⟨h, by omega⟩, fun x => by omega⟩
theorem account_CF {H : Hp} {a : List UInt8} : CF Try.prog 23 [S a] H fun v H' => v = .bool (rightS a) ∧ H' = H := by
  refine CF.go _ Try.func23 rfl ⟨Nat.le_of_ble_eq_true rfl, rfl⟩ fun base hb0 hn => ?_
  subst hb0
  have key : rightS a = decide (1 ≤ a.length ∧ a.length ≤ 1000) := by
    unfold rightS
    congr 1
    cases a <;> simp
  rw [key]
  by_cases h : 1 ≤ a.length
  ·
    refine TC.seq ?_
    refine TC.region (id := 0) ?_
    refine TO.w hn (.assign _) rfl (guard0 rfl) (lop_assign (agree hn) rfl) rfl ?_
    refine TO.nil ?_
    refine TC.seq ?_
    refine TC.region (id := 1) ?_
    refine TO.w hn (.move _) rfl (guard0 rfl) (lop_move (agree hn) rfl) rfl ?_
    refine TO.w hn (.call _) rfl (guard0 rfl) (lop_built (agree hn) rfl rfl (lbuiltin_lenS rfl)) rfl ?_
    refine TO.w hn (.binOp _ _ _ _ _) rfl (guard0 rfl) (lop_binT (agree hn) rfl rfl rfl (by exact decide_eq_true (by omega))) rfl ?_
    refine TO.w hn (.move _) rfl (guard0 rfl) (lop_move (agree hn) rfl) rfl ?_
    refine TO.w hn (.move _) rfl (guardOn (agree hn) rfl rfl rfl rfl) (lop_move (agree hn) rfl) rfl ?_
    refine TO.w hn (.call _) rfl (guardOn (agree hn) rfl rfl rfl rfl) (lop_built (agree hn) rfl rfl (lbuiltin_lenS rfl)) rfl ?_
    refine TO.w hn (.binOp _ _ _ _ _) rfl (guardOn (agree hn) rfl rfl rfl rfl) (lop_bin (agree hn) rfl rfl rfl) rfl ?_
    refine TO.w hn (.pick _ _ _) rfl (guard0 rfl) (lop_pickT (agree hn) rfl rfl rfl) rfl ?_
    refine TO.w hn (.assign _) rfl (guard0 rfl) (lop_assign (agree hn) rfl) rfl ?_
    refine TO.nil ?_
    refine TC.ret ?_
    refine ⟨trivial, _, lres1 (agree hn) rfl, congrArg Value.bool ?_, rfl⟩
    rw [Bool.eq_iff_iff, decide_eq_true_eq, decide_eq_true_eq]
    omega
  ·
    refine TC.seq ?_
    refine TC.region (id := 0) ?_
    refine TO.w hn (.assign _) rfl (guard0 rfl) (lop_assign (agree hn) rfl) rfl ?_
    refine TO.nil ?_
    refine TC.seq ?_
    refine TC.region (id := 1) ?_
    refine TO.w hn (.move _) rfl (guard0 rfl) (lop_move (agree hn) rfl) rfl ?_
    refine TO.w hn (.call _) rfl (guard0 rfl) (lop_built (agree hn) rfl rfl (lbuiltin_lenS rfl)) rfl ?_
    refine TO.w hn (.binOp _ _ _ _ _) rfl (guard0 rfl) (lop_binF (agree hn) rfl rfl rfl (by exact decide_eq_false (by omega))) rfl ?_
    refine TO.w hn (.move _) rfl (guard0 rfl) (lop_move (agree hn) rfl) rfl ?_
    refine TO.woff hn (guardOff (agree hn) rfl rfl rfl rfl) rfl ?_
    refine TO.woff hn (guardOff (agree hn) rfl rfl rfl rfl) rfl ?_
    refine TO.woff hn (guardOff (agree hn) rfl rfl rfl rfl) rfl ?_
    refine TO.w hn (.pick _ _ _) rfl (guard0 rfl) (lop_pickF (agree hn) rfl rfl rfl) rfl ?_
    refine TO.w hn (.assign _) rfl (guard0 rfl) (lop_assign (agree hn) rfl) rfl ?_
    refine TO.nil ?_
    refine TC.ret ?_
    refine ⟨trivial, _, lres1 (agree hn) rfl, congrArg Value.bool ?_, rfl⟩
    rw [eq_comm, decide_eq_false_iff_not]
    omega

theorem cell_CF {H : Hp} {a : List UInt8} {t : Bool} (ha : a.length ≤ 70368744177000) : CF Try.prog 21 [S a, .bool t] H fun v H' => v = S (cellL a t) ∧ H' = H := by
  refine CF.go _ Try.func21 rfl ⟨Nat.le_of_ble_eq_true rfl, rfl⟩ fun base hb0 hn => ?_
  subst hb0
  have h1 := putText_CF (H := H) (b := []) (s := a) (by simp) (by omega)
  have h2 := fun v : Nat => fun hv : v < 18446744073709551616 => putNumber_CF (H := H) (b := putN 4 a.length ++ a) (n := 1) (v := v) (by simp only [List.length_append, putN_length]; omega) hv
  cases t
  ·
    refine TC.seq ?_
    refine TC.region (id := 0) ?_
    refine TO.w hn (.assign _) rfl (guard0 rfl) (lop_assign (agree hn) rfl) rfl ?_
    refine TO.nil ?_
    refine TC.seq ?_
    refine TC.region (id := 1) ?_
    refine TO.w hn (.assign _) rfl (guard0 rfl) (lop_assign (agree hn) rfl) rfl ?_
    refine TO.nil ?_
    refine TC.seq ?_
    refine TC.seq ?_
    refine TC.region (id := 2) ?_
    refine TO.w hn (.move _) rfl (guard0 rfl) (lop_move (agree hn) rfl) rfl ?_
    refine TO.nil ?_
    refine TC.condF (agree hn) rfl rfl ?_
    refine TC.skip ?_
    refine TC.seq ?_
    refine TC.region (id := 4) ?_
    refine TO.w hn (.move _) rfl (guard0 rfl) (lop_move (agree hn) rfl) rfl ?_
    (refine TO.wc hn (.call _) rfl (guard0 rfl) (lop_func (agree hn) rfl rfl rfl) rfl (CF.co noOwn rfl rfl h1) (fun v H2 hR => ?_); (obtain ⟨rfl, e2⟩ := hR; cases e2.symm))
    refine TO.w hn (.move _) rfl (guard0 rfl) (lop_move (agree hn) rfl) rfl ?_
    (refine TO.wc hn (.call _) rfl (guard0 rfl) (lop_func (agree hn) rfl rfl rfl) rfl (CF.co noOwn rfl rfl (h2 0 (by omega))) (fun v H2 hR => ?_); (obtain ⟨rfl, e2⟩ := hR; cases e2.symm))
    refine TO.w hn (.assign _) rfl (guard0 rfl) (lop_assign (agree hn) rfl) rfl ?_
    refine TO.nil ?_
    refine TC.ret ?_
    exact ⟨trivial, _, lres1 (agree hn) rfl, rfl, rfl⟩
  ·
    refine TC.seq ?_
    refine TC.region (id := 0) ?_
    refine TO.w hn (.assign _) rfl (guard0 rfl) (lop_assign (agree hn) rfl) rfl ?_
    refine TO.nil ?_
    refine TC.seq ?_
    refine TC.region (id := 1) ?_
    refine TO.w hn (.assign _) rfl (guard0 rfl) (lop_assign (agree hn) rfl) rfl ?_
    refine TO.nil ?_
    refine TC.seq ?_
    refine TC.seq ?_
    refine TC.region (id := 2) ?_
    refine TO.w hn (.move _) rfl (guard0 rfl) (lop_move (agree hn) rfl) rfl ?_
    refine TO.nil ?_
    refine TC.condT (agree hn) rfl rfl ?_
    refine TC.region (id := 3) ?_
    refine TO.w hn (.assign _) rfl (guard0 rfl) (lop_assign (agree hn) rfl) rfl ?_
    refine TO.nil ?_
    refine TC.seq ?_
    refine TC.region (id := 4) ?_
    refine TO.w hn (.move _) rfl (guard0 rfl) (lop_move (agree hn) rfl) rfl ?_
    (refine TO.wc hn (.call _) rfl (guard0 rfl) (lop_func (agree hn) rfl rfl rfl) rfl (CF.co noOwn rfl rfl h1) (fun v H2 hR => ?_); (obtain ⟨rfl, e2⟩ := hR; cases e2.symm))
    refine TO.w hn (.move _) rfl (guard0 rfl) (lop_move (agree hn) rfl) rfl ?_
    (refine TO.wc hn (.call _) rfl (guard0 rfl) (lop_func (agree hn) rfl rfl rfl) rfl (CF.co noOwn rfl rfl (h2 1 (by omega))) (fun v H2 hR => ?_); (obtain ⟨rfl, e2⟩ := hR; cases e2.symm))
    refine TO.w hn (.assign _) rfl (guard0 rfl) (lop_assign (agree hn) rfl) rfl ?_
    refine TO.nil ?_
    refine TC.ret ?_
    exact ⟨trivial, _, lres1 (agree hn) rfl, rfl, rfl⟩
theorem cellR_CF {H : Hp} {a : List UInt8} {t : Bool} (ha : a.length ≤ 70368744177000) : CF Try.prog 24 [S a, .bool t] H fun v H' => v = S (cellL a t) ∧ H' = H := by
  refine CF.forget ((?_ : CF _ _ _ _ fun u H' => u = S (cellL a t) ∧ H.le H').mono fun u H' h => ⟨⟨h.1, by rw [h.1]; rfl⟩, h.2⟩)
  refine CF.wf fun hw => ?_
  refine CF.go _ Try.func24 rfl ⟨Nat.le_of_ble_eq_true rfl, rfl⟩ fun base hb0 hn => ?_
  subst hb0
  have h1 := putTextR_CF (H := H) (b := []) (s := a) (by simp) (by omega)
  have hbl : ∀ x : UInt8, (H.new (.ints true .u8 [(x.toNat : Int)])).f H.n = some (.ints true .u8 ([x].map fun c => (c.toNat : Int))) := fun x => new_self _ _
  have h0 := hbl 0
  have h2 := hbl 1
  cases t
  ·
    refine TC.seq ?_
    refine TC.region (id := 0) ?_
    refine TO.w hn (.assign _) rfl (guard0 rfl) (lop_assign (agree hn) rfl) rfl ?_
    refine TO.nil ?_
    refine TC.seq ?_
    refine TC.region (id := 1) ?_
    refine TO.w hn (.assign _) rfl (guard0 rfl) (lop_assign (agree hn) rfl) rfl ?_
    refine TO.nil ?_
    refine TC.seq ?_
    refine TC.seq ?_
    refine TC.region (id := 2) ?_
    refine TO.w hn (.move _) rfl (guard0 rfl) (lop_move (agree hn) rfl) rfl ?_
    refine TO.nil ?_
    refine TC.condF (agree hn) rfl rfl ?_
    refine TC.skip ?_
    refine TC.seq ?_
    refine TC.drawnSeq (id := 4) [(0, 0), (1, 2), (2, 0), (3, 0), (4, 0), (5, 0), (6, 0)] rfl (by kernel_rfl) ?_
    refine AS.w hn rfl (.move _) rfl (guard0 rfl) (lop_move (agree hn) rfl) rfl ?_
    refine AS.wq hn rfl (.call _) rfl (guard0 rfl) (lop_func (agree hn) rfl rfl rfl) rfl (fun _ => CF.co noOwn rfl rfl (putTextR_CF (b := []) (s := a) (by simp) (by omega))) ?_
    refine AS.w hn rfl (.move _) rfl (guard0 rfl) (lop_move (agree hn) rfl) rfl ?_
    refine AS.w hn rfl (.buildSlice _ _ _) rfl (guard0 rfl) (lop_bslice (agree hn) rfl (lbuildSlice_1 rfl)) rfl ?_
    refine AS.w hn rfl (.convert _ _ _) rfl (guard0 rfl) (lop_convBS (agree hn) rfl rfl rfl rfl (by assumption) (by (simp only [List.length_append, List.length_take, List.length_drop, List.length_map, List.length_cons, List.length_nil, List.length_singleton, List.length_replicate, putN_length]; omega))) rfl ?_
    refine AS.w hn rfl (.binOp _ _ _ _ _) rfl (guard0 rfl) (lop_cat (agree hn) rfl rfl (by (simp only [List.length_append, List.length_take, List.length_drop, List.length_map, List.length_cons, List.length_nil, List.length_singleton, List.length_replicate, putN_length]; omega))) rfl ?_
    refine AS.w hn rfl (.assign _) rfl (guard0 rfl) (lop_assign (agree hn) rfl) rfl ?_
    refine AS.nil ?_
    refine TC.ret ?_
    exact ⟨trivial, _, lres1 (agree hn) rfl, rfl, Hp.le.new _ hw⟩
  ·
    refine TC.seq ?_
    refine TC.region (id := 0) ?_
    refine TO.w hn (.assign _) rfl (guard0 rfl) (lop_assign (agree hn) rfl) rfl ?_
    refine TO.nil ?_
    refine TC.seq ?_
    refine TC.region (id := 1) ?_
    refine TO.w hn (.assign _) rfl (guard0 rfl) (lop_assign (agree hn) rfl) rfl ?_
    refine TO.nil ?_
    refine TC.seq ?_
    refine TC.seq ?_
    refine TC.region (id := 2) ?_
    refine TO.w hn (.move _) rfl (guard0 rfl) (lop_move (agree hn) rfl) rfl ?_
    refine TO.nil ?_
    refine TC.condT (agree hn) rfl rfl ?_
    refine TC.region (id := 3) ?_
    refine TO.w hn (.assign _) rfl (guard0 rfl) (lop_assign (agree hn) rfl) rfl ?_
    refine TO.nil ?_
    refine TC.seq ?_
    refine TC.drawnSeq (id := 4) [(0, 0), (1, 2), (2, 0), (3, 0), (4, 0), (5, 0), (6, 0)] rfl (by kernel_rfl) ?_
    refine AS.w hn rfl (.move _) rfl (guard0 rfl) (lop_move (agree hn) rfl) rfl ?_
    refine AS.wq hn rfl (.call _) rfl (guard0 rfl) (lop_func (agree hn) rfl rfl rfl) rfl (fun _ => CF.co noOwn rfl rfl (putTextR_CF (b := []) (s := a) (by simp) (by omega))) ?_
    refine AS.w hn rfl (.move _) rfl (guard0 rfl) (lop_move (agree hn) rfl) rfl ?_
    refine AS.w hn rfl (.buildSlice _ _ _) rfl (guard0 rfl) (lop_bslice (agree hn) rfl (lbuildSlice_1 rfl)) rfl ?_
    refine AS.w hn rfl (.convert _ _ _) rfl (guard0 rfl) (lop_convBS (agree hn) rfl rfl rfl rfl (by assumption) (by (simp only [List.length_append, List.length_take, List.length_drop, List.length_map, List.length_cons, List.length_nil, List.length_singleton, List.length_replicate, putN_length]; omega))) rfl ?_
    refine AS.w hn rfl (.binOp _ _ _ _ _) rfl (guard0 rfl) (lop_cat (agree hn) rfl rfl (by (simp only [List.length_append, List.length_take, List.length_drop, List.length_map, List.length_cons, List.length_nil, List.length_singleton, List.length_replicate, putN_length]; omega))) rfl ?_
    refine AS.w hn rfl (.assign _) rfl (guard0 rfl) (lop_assign (agree hn) rfl) rfl ?_
    refine AS.nil ?_
    refine TC.ret ?_
    exact ⟨trivial, _, lres1 (agree hn) rfl, rfl, Hp.le.new _ hw⟩
end Go.Proofs.Ytcndgbaldjcdfaa
