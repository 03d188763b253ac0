/- The document's numbers, texts, and digits; the statement on what is laid. -/
import Derived.Test.YtbekdbehiacnkaaWireU
import Derived.Test.YtbekdbehiacnkaaLite28
import Derived.Test.YtbekdbehiacnkaaRows
namespace Go.Proofs.Ytbekdbehiacnkaa
open Go Go.Lite
set_option linter.unusedSimpArgs false
set_option linter.unusedVariables false
set_option maxHeartbeats 4000000

theorem unhexR_CF {H : Hp} {l : List UInt8} (hl : l.length ≤ 35184372088832) : CF Try.prog 22 [S l] H fun v H' => v = unhexV l ∧ H' = H := by
  refine CF.forget ((?_ : CF _ _ _ _ fun u H' => u = unhexV l ∧ H.le H').mono fun u H' h => ⟨⟨h.1, by rw [h.1]; rfl⟩, h.2⟩)
  refine CF.wf fun hw => ?_
  refine CF.go _ Try.func22 rfl ⟨Nat.le_of_ble_eq_true rfl, rfl⟩ fun base hb0 hn => ?_
  subst hb0
  by_cases hodd : l.length % 2 = 1
  ·
    refine TC.seq ?_
    refine TC.region (id := 0) ?_
    refine TO.w hn (.assign _) rfl (guard0 rfl) (lop_assign (agree hn) rfl) rfl ?_
    refine TO.w hn (.assign _) rfl (guard0 rfl) (lop_assign (agree hn) rfl) rfl ?_
    refine TO.nil ?_
    refine TC.seq ?_
    refine TC.seq ?_
    refine TC.region (id := 1) ?_
    refine TO.w hn (.move _) rfl (guard0 rfl) (lop_move (agree hn) rfl) rfl ?_
    refine TO.w hn (.call _) rfl (guard0 rfl) (lop_built (agree hn) rfl rfl (lbuiltin_lenS rfl)) rfl ?_
    refine TO.w hn (.binOp _ _ _ _ _) rfl (guard0 rfl) (lop_remP (agree hn) rfl rfl (by omega) (by omega)) rfl ?_
    refine TO.w hn (.binOp _ _ _ _ _) rfl (guard0 rfl) (lop_binT (agree hn) rfl rfl rfl (by exact bne_iff_ne.2 (by omega))) rfl ?_
    refine TO.nil ?_
    refine TC.condT (agree hn) rfl rfl ?_
    refine TC.seq ?_
    refine TC.region (id := 2) ?_
    refine TO.w hn (.assign _) rfl (guard0 rfl) (lop_assign (agree hn) rfl) rfl ?_
    refine TO.w hn (.assign _) rfl (guard0 rfl) (lop_assign (agree hn) rfl) rfl ?_
    refine TO.nil ?_
    refine TC.ret ?_
    refine ⟨trivial, _, lresT (agree hn) rfl rfl, ?_, Hp.le.refl H⟩
    rw [unhexV, unhexL_odd l hodd]; rfl
  refine TC.seq ?_
  refine TC.region (id := 0) ?_
  refine TO.w hn (.assign _) rfl (guard0 rfl) (lop_assign (agree hn) rfl) rfl ?_
  refine TO.w hn (.assign _) rfl (guard0 rfl) (lop_assign (agree hn) rfl) rfl ?_
  refine TO.nil ?_
  refine TC.seq ?_
  refine TC.seq ?_
  refine TC.region (id := 1) ?_
  refine TO.w hn (.move _) rfl (guard0 rfl) (lop_move (agree hn) rfl) rfl ?_
  refine TO.w hn (.call _) rfl (guard0 rfl) (lop_built (agree hn) rfl rfl (lbuiltin_lenS rfl)) rfl ?_
  refine TO.w hn (.binOp _ _ _ _ _) rfl (guard0 rfl) (lop_remP (agree hn) rfl rfl (by omega) (by omega)) rfl ?_
  refine TO.w hn (.binOp _ _ _ _ _) rfl (guard0 rfl) (lop_binF (agree hn) rfl rfl rfl (by exact bne_eq_false_iff_eq.2 (by omega))) rfl ?_
  refine TO.nil ?_
  refine TC.condF (agree hn) rfl rfl ?_
  refine TC.skip ?_
  refine TC.seq ?_
  refine TC.region (id := 3) ?_
  refine TO.w hn (.assign _) rfl (guard0 rfl) (lop_assign (agree hn) rfl) rfl ?_
  refine TO.nil ?_
  refine TC.seq ?_
  refine TC.seq ?_
  refine TC.region (id := 4) ?_
  refine TO.w hn (.assign _) rfl (guard0 rfl) (lop_assign (agree hn) rfl) rfl ?_
  refine TO.nil ?_
  refine TC.block ?_
  refine TC.loopI (fun m fr H' => ∃ (i : Nat) (w : Value) (xs : List UInt8), m + i = l.length ∧ i % 2 = 0 ∧ unhexL l = (unhexL (l.drop i)).map (xs ++ ·) ∧ xs.length ≤ i ∧ fr.length = 42 ∧ Facts fr [(0, S l), (4, w), (5, .int .i64 (i : Nat))] ∧ Bs H H' w xs ∧ H.le H') l.length
    ⟨0, _, [], by omega, rfl, by simp, by simp, (mkF_length _ _).trans hn, Facts.of (agree hn) ⟨rfl, rfl, rfl, trivial⟩, .inl ⟨rfl, rfl⟩, Hp.le.refl H⟩ ?_
  clear hn
  rintro m fr H' ⟨i, w, xs, hi, hi2, hu, hxl, hn, hf, hB, hle⟩
  refine TC.wf fun hw' => ?_
  by_cases h : i < l.length
  · obtain ⟨x, hc⟩ : ∃ x, l[i]? = some x := ⟨l[i], List.getElem?_eq_getElem h⟩
    obtain ⟨y, hd⟩ : ∃ y, l[i + 1]? = some y := ⟨l[i + 1], List.getElem?_eq_getElem (by omega)⟩
    have hd' : l[((i : Int) + 1).toNat]? = some y := hd
    rw [drop_two hc hd, unhexL] at hu
    have hx16 := halfN_le x.toNat
    have hy16 := halfN_le y.toNat
    have hix := fun (H : Hp) => CF.co noOwn rfl rfl (half_CF (H := H) (c := x))
    have hiy := fun (H : Hp) => CF.co noOwn rfl rfl (half_CF (H := H) (c := y))
    by_cases hxy : halfN x.toNat < 16 ∧ halfN y.toNat < 16
    · rw [if_pos hxy, Option.map_map] at hu
      generalize halfN x.toNat = p at *
      generalize halfN y.toNat = q at *
      obtain ⟨hx, hy⟩ := hxy
      have hpq : (p : Int) * 16 + (q : Int) = ((UInt8.ofNat (p * 16 + q)).toNat : Int) := by
        have e : ∀ a : Nat, a < 16 → ∀ b : Nat, b < 16 → (a : Int) * 16 + (b : Int) = ((UInt8.ofNat (a * 16 + b)).toNat : Int) := by decide +kernel
        exact e p hx q hy
      rcases hB with ⟨rfl, rfl⟩ | ⟨ob, c, rfl, hob, hge⟩
      · refine TC.facts _ hf ?_
        refine TC.seq ?_
        refine TC.seq ?_
        refine TC.region (id := 5) ?_
        refine TO.w hn (.move _) rfl (guard0 rfl) (lop_move (agree hn) rfl) rfl ?_
        refine TO.w hn (.move _) rfl (guard0 rfl) (lop_move (agree hn) rfl) rfl ?_
        refine TO.w hn (.call _) rfl (guard0 rfl) (lop_built (agree hn) rfl rfl (lbuiltin_lenS rfl)) rfl ?_
        refine TO.w hn (.binOp _ _ _ _ _) rfl (guard0 rfl) (lop_binT (agree hn) rfl rfl rfl (by exact decide_eq_true (by omega))) rfl ?_
        refine TO.nil ?_
        refine TC.condT (agree hn) rfl rfl ?_
        refine TC.skip ?_
        refine TC.seq ?_
        refine TC.block ?_
        refine TC.seq ?_
        refine TC.drawnSeq (id := 7) [(0, false), (1, false), (2, false), (3, true), (4, false), (5, false), (6, false), (7, false), (8, true), (9, false), (10, false)] rfl (by kernel_rfl) ?_
        refine AS.w hn rfl (.move _) rfl (guard0 rfl) (lop_move (agree hn) rfl) rfl ?_
        refine AS.w hn rfl (.move _) rfl (guard0 rfl) (lop_move (agree hn) rfl) rfl ?_
        refine AS.w hn rfl (.index _ _ _) rfl (guard0 rfl) (lop_ixS (agree hn) rfl rfl rfl (by omega) (by assumption)) rfl ?_
        refine AS.wp hn rfl (.call _) rfl (guard0 rfl) (lop_func (agree hn) rfl rfl rfl) rfl (hix _) ?_
        refine AS.w hn rfl (.move _) rfl (guard0 rfl) (lop_move (agree hn) rfl) rfl ?_
        refine AS.w hn rfl (.move _) rfl (guard0 rfl) (lop_move (agree hn) rfl) rfl ?_
        refine AS.w hn rfl (.binOp _ _ _ _ _) rfl (guard0 rfl) (lop_binI (agree hn) rfl rfl rfl rfl (by omega) (by omega)) rfl ?_
        refine AS.w hn rfl (.index _ _ _) rfl (guard0 rfl) (lop_ixS (agree hn) rfl rfl rfl (by omega) (by assumption)) rfl ?_
        refine AS.wp hn rfl (.call _) rfl (guard0 rfl) (lop_func (agree hn) rfl rfl rfl) rfl (hiy _) ?_
        refine AS.w hn rfl (.assign _) rfl (guard0 rfl) (lop_assign (agree hn) rfl) rfl ?_
        refine AS.w hn rfl (.assign _) rfl (guard0 rfl) (lop_assign (agree hn) rfl) rfl ?_
        refine AS.nil ?_
        refine TC.seq ?_
        refine TC.seq ?_
        refine TC.region (id := 8) ?_
        refine TO.w hn (.move _) rfl (guard0 rfl) (lop_move (agree hn) rfl) rfl ?_
        refine TO.w hn (.binOp _ _ _ _ _) rfl (guard0 rfl) (lop_binF (agree hn) rfl rfl rfl (by exact decide_eq_false (by omega))) rfl ?_
        refine TO.w hn (.move _) rfl (guard0 rfl) (lop_move (agree hn) rfl) rfl ?_
        refine TO.w hn (.move _) rfl (guardOn (agree hn) rfl rfl rfl rfl) (lop_move (agree hn) rfl) rfl ?_
        refine TO.w hn (.binOp _ _ _ _ _) rfl (guardOn (agree hn) rfl rfl rfl rfl) (lop_binF (agree hn) rfl rfl rfl (by exact decide_eq_false (by omega))) rfl ?_
        refine TO.w hn (.pick _ _ _) rfl (guard0 rfl) (lop_pickF (agree hn) rfl rfl rfl) rfl ?_
        refine TO.nil ?_
        refine TC.condF (agree hn) rfl rfl ?_
        refine TC.skip ?_
        refine TC.region (id := 10) ?_
        refine TO.w hn (.move _) rfl (guard0 rfl) (lop_move (agree hn) rfl) rfl ?_
        refine TO.w hn (.move _) rfl (guard0 rfl) (lop_move (agree hn) rfl) rfl ?_
        refine TO.w hn (.binOp _ _ _ _ _) rfl (guard0 rfl) (lop_binI (agree hn) rfl rfl rfl rfl (by omega) (by omega)) rfl ?_
        refine TO.w hn (.move _) rfl (guard0 rfl) (lop_move (agree hn) rfl) rfl ?_
        refine TO.w hn (.binOp _ _ _ _ _) rfl (guard0 rfl) (lop_binI (agree hn) rfl rfl rfl rfl (by omega) (by omega)) rfl ?_
        refine TO.w hn (.buildSlice _ _ _) rfl (guard0 rfl) (lop_bslice (agree hn) rfl (lbuildSlice_1 rfl)) rfl ?_
        refine TO.w hn (.call _) rfl (guard0 rfl) (lop_built (agree hn) rfl rfl (lappend_bytes0 rfl rfl (by exact new_self _ _) (by (simp only [List.length_append, List.length_take, List.length_drop, List.length_map, List.length_cons, List.length_nil, List.length_singleton, List.length_replicate]; omega)) (by omega) (by omega))) rfl ?_
        refine TO.w hn (.assign _) rfl (guard0 rfl) (lop_assign (agree hn) rfl) rfl ?_
        refine TO.nil ?_
        refine TC.region (id := 6) ?_
        refine TO.w hn (.move _) rfl (guard0 rfl) (lop_move (agree hn) rfl) rfl ?_
        refine TO.w hn (.binOp _ _ _ _ _) rfl (guard0 rfl) (lop_binI (agree hn) rfl rfl rfl rfl (by omega) (by omega)) rfl ?_
        refine TO.w hn (.assign _) rfl (guard0 rfl) (lop_assign (agree hn) rfl) rfl ?_
        refine TO.nil ?_
        refine ⟨m - 2, by omega, i + 2, _, [UInt8.ofNat (p * 16 + q)], by omega, by omega, ?_, ?_, (mkF_length _ _).trans hn, Facts.of (agree hn) ⟨rfl, rfl, rfl, trivial⟩, .inr ⟨H'.n + 1, _, rfl, ?_, ?_⟩, (hle.new' hw _).new' hw _⟩
        · rw [hu]; congr 1
        · simp
        · refine (new_self _ _).trans ?_
          rw [List.map_singleton, ← hpq]
          rfl
        · have := hle.n
          omega
      · have hlt := hw' _ _ hob
        refine TC.facts _ hf ?_
        refine TC.seq ?_
        refine TC.seq ?_
        refine TC.region (id := 5) ?_
        refine TO.w hn (.move _) rfl (guard0 rfl) (lop_move (agree hn) rfl) rfl ?_
        refine TO.w hn (.move _) rfl (guard0 rfl) (lop_move (agree hn) rfl) rfl ?_
        refine TO.w hn (.call _) rfl (guard0 rfl) (lop_built (agree hn) rfl rfl (lbuiltin_lenS rfl)) rfl ?_
        refine TO.w hn (.binOp _ _ _ _ _) rfl (guard0 rfl) (lop_binT (agree hn) rfl rfl rfl (by exact decide_eq_true (by omega))) rfl ?_
        refine TO.nil ?_
        refine TC.condT (agree hn) rfl rfl ?_
        refine TC.skip ?_
        refine TC.seq ?_
        refine TC.block ?_
        refine TC.seq ?_
        refine TC.drawnSeq (id := 7) [(0, false), (1, false), (2, false), (3, true), (4, false), (5, false), (6, false), (7, false), (8, true), (9, false), (10, false)] rfl (by kernel_rfl) ?_
        refine AS.w hn rfl (.move _) rfl (guard0 rfl) (lop_move (agree hn) rfl) rfl ?_
        refine AS.w hn rfl (.move _) rfl (guard0 rfl) (lop_move (agree hn) rfl) rfl ?_
        refine AS.w hn rfl (.index _ _ _) rfl (guard0 rfl) (lop_ixS (agree hn) rfl rfl rfl (by omega) (by assumption)) rfl ?_
        refine AS.wp hn rfl (.call _) rfl (guard0 rfl) (lop_func (agree hn) rfl rfl rfl) rfl (hix _) ?_
        refine AS.w hn rfl (.move _) rfl (guard0 rfl) (lop_move (agree hn) rfl) rfl ?_
        refine AS.w hn rfl (.move _) rfl (guard0 rfl) (lop_move (agree hn) rfl) rfl ?_
        refine AS.w hn rfl (.binOp _ _ _ _ _) rfl (guard0 rfl) (lop_binI (agree hn) rfl rfl rfl rfl (by omega) (by omega)) rfl ?_
        refine AS.w hn rfl (.index _ _ _) rfl (guard0 rfl) (lop_ixS (agree hn) rfl rfl rfl (by omega) (by assumption)) rfl ?_
        refine AS.wp hn rfl (.call _) rfl (guard0 rfl) (lop_func (agree hn) rfl rfl rfl) rfl (hiy _) ?_
        refine AS.w hn rfl (.assign _) rfl (guard0 rfl) (lop_assign (agree hn) rfl) rfl ?_
        refine AS.w hn rfl (.assign _) rfl (guard0 rfl) (lop_assign (agree hn) rfl) rfl ?_
        refine AS.nil ?_
        refine TC.seq ?_
        refine TC.seq ?_
        refine TC.region (id := 8) ?_
        refine TO.w hn (.move _) rfl (guard0 rfl) (lop_move (agree hn) rfl) rfl ?_
        refine TO.w hn (.binOp _ _ _ _ _) rfl (guard0 rfl) (lop_binF (agree hn) rfl rfl rfl (by exact decide_eq_false (by omega))) rfl ?_
        refine TO.w hn (.move _) rfl (guard0 rfl) (lop_move (agree hn) rfl) rfl ?_
        refine TO.w hn (.move _) rfl (guardOn (agree hn) rfl rfl rfl rfl) (lop_move (agree hn) rfl) rfl ?_
        refine TO.w hn (.binOp _ _ _ _ _) rfl (guardOn (agree hn) rfl rfl rfl rfl) (lop_binF (agree hn) rfl rfl rfl (by exact decide_eq_false (by omega))) rfl ?_
        refine TO.w hn (.pick _ _ _) rfl (guard0 rfl) (lop_pickF (agree hn) rfl rfl rfl) rfl ?_
        refine TO.nil ?_
        refine TC.condF (agree hn) rfl rfl ?_
        refine TC.skip ?_
        refine TC.region (id := 10) ?_
        refine TO.w hn (.move _) rfl (guard0 rfl) (lop_move (agree hn) rfl) rfl ?_
        refine TO.w hn (.move _) rfl (guard0 rfl) (lop_move (agree hn) rfl) rfl ?_
        refine TO.w hn (.binOp _ _ _ _ _) rfl (guard0 rfl) (lop_binI (agree hn) rfl rfl rfl rfl (by omega) (by omega)) rfl ?_
        refine TO.w hn (.move _) rfl (guard0 rfl) (lop_move (agree hn) rfl) rfl ?_
        refine TO.w hn (.binOp _ _ _ _ _) rfl (guard0 rfl) (lop_binI (agree hn) rfl rfl rfl rfl (by omega) (by omega)) rfl ?_
        refine TO.w hn (.buildSlice _ _ _) rfl (guard0 rfl) (lop_bslice (agree hn) rfl (lbuildSlice_1 rfl)) rfl ?_
        refine TO.w hn (.call _) rfl (guard0 rfl) (lop_built (agree hn) rfl rfl (lappend_bytes rfl rfl (by (repeat (first | exact new_self _ _ | exact set_self _ _ _ | exact move_self _ _ _ | assumption | refine (set_other _ (by first | assumption | omega | (simp only [new_n, set_n, move_n]; omega))).trans ?_ | refine (new_other _ (by first | assumption | omega | (simp only [new_n, set_n, move_n]; omega))).trans ?_ | refine (move_other _ (by first | assumption | omega | (simp only [new_n, set_n, move_n]; omega)) (by first | assumption | omega | (simp only [new_n, set_n, move_n]; omega))).trans ?_))) (by (simp only [List.length_append, List.length_take, List.length_drop, List.length_map, List.length_cons, List.length_nil, List.length_singleton, List.length_replicate] <;> fail)) (by exact new_self _ _) (by (simp only [List.length_append, List.length_take, List.length_drop, List.length_map, List.length_cons, List.length_nil, List.length_singleton, List.length_replicate]; omega)) (by omega))) rfl ?_
        refine TO.w hn (.assign _) rfl (guard0 rfl) (lop_assign (agree hn) rfl) rfl ?_
        refine TO.nil ?_
        refine TC.region (id := 6) ?_
        refine TO.w hn (.move _) rfl (guard0 rfl) (lop_move (agree hn) rfl) rfl ?_
        refine TO.w hn (.binOp _ _ _ _ _) rfl (guard0 rfl) (lop_binI (agree hn) rfl rfl rfl rfl (by omega) (by omega)) rfl ?_
        refine TO.w hn (.assign _) rfl (guard0 rfl) (lop_assign (agree hn) rfl) rfl ?_
        refine TO.nil ?_
        refine ⟨m - 2, by omega, i + 2, _, xs ++ [UInt8.ofNat (p * 16 + q)], by omega, by omega, ?_, ?_, (mkF_length _ _).trans hn, Facts.of (agree hn) ⟨rfl, rfl, rfl, trivial⟩, .inr ⟨H'.n + 1, xs.length + 1, ?_, ?_, ?_⟩, (hle.new' hw _).move' hw hge _⟩
        · rw [hu]; congr 1; funext z; simp
        · rw [List.length_append, List.length_singleton]; omega
        · rw [List.length_append]; rfl
        · refine (move_self _ _ _).trans ?_
          rw [List.map_append, List.map_singleton, ← hpq]
          rfl
        · have := hle.n
          omega
    · rw [if_neg hxy] at hu
      generalize halfN x.toNat = p at *
      generalize halfN y.toNat = q at *
      refine TC.facts _ hf ?_
      refine TC.seq ?_
      refine TC.seq ?_
      refine TC.region (id := 5) ?_
      refine TO.w hn (.move _) rfl (guard0 rfl) (lop_move (agree hn) rfl) rfl ?_
      refine TO.w hn (.move _) rfl (guard0 rfl) (lop_move (agree hn) rfl) rfl ?_
      refine TO.w hn (.call _) rfl (guard0 rfl) (lop_built (agree hn) rfl rfl (lbuiltin_lenS rfl)) rfl ?_
      refine TO.w hn (.binOp _ _ _ _ _) rfl (guard0 rfl) (lop_binT (agree hn) rfl rfl rfl (by exact decide_eq_true (by omega))) rfl ?_
      refine TO.nil ?_
      refine TC.condT (agree hn) rfl rfl ?_
      refine TC.skip ?_
      refine TC.seq ?_
      refine TC.block ?_
      refine TC.seq ?_
      refine TC.drawnSeq (id := 7) [(0, false), (1, false), (2, false), (3, true), (4, false), (5, false), (6, false), (7, false), (8, true), (9, false), (10, false)] rfl (by kernel_rfl) ?_
      refine AS.w hn rfl (.move _) rfl (guard0 rfl) (lop_move (agree hn) rfl) rfl ?_
      refine AS.w hn rfl (.move _) rfl (guard0 rfl) (lop_move (agree hn) rfl) rfl ?_
      refine AS.w hn rfl (.index _ _ _) rfl (guard0 rfl) (lop_ixS (agree hn) rfl rfl rfl (by omega) (by assumption)) rfl ?_
      refine AS.wp hn rfl (.call _) rfl (guard0 rfl) (lop_func (agree hn) rfl rfl rfl) rfl (hix _) ?_
      refine AS.w hn rfl (.move _) rfl (guard0 rfl) (lop_move (agree hn) rfl) rfl ?_
      refine AS.w hn rfl (.move _) rfl (guard0 rfl) (lop_move (agree hn) rfl) rfl ?_
      refine AS.w hn rfl (.binOp _ _ _ _ _) rfl (guard0 rfl) (lop_binI (agree hn) rfl rfl rfl rfl (by omega) (by omega)) rfl ?_
      refine AS.w hn rfl (.index _ _ _) rfl (guard0 rfl) (lop_ixS (agree hn) rfl rfl rfl (by omega) (by assumption)) rfl ?_
      refine AS.wp hn rfl (.call _) rfl (guard0 rfl) (lop_func (agree hn) rfl rfl rfl) rfl (hiy _) ?_
      refine AS.w hn rfl (.assign _) rfl (guard0 rfl) (lop_assign (agree hn) rfl) rfl ?_
      refine AS.w hn rfl (.assign _) rfl (guard0 rfl) (lop_assign (agree hn) rfl) rfl ?_
      refine AS.nil ?_
      refine TC.seq ?_
      refine TC.seq ?_
      refine TC.region (id := 8) ?_
      refine TO.w hn (.move _) rfl (guard0 rfl) (lop_move (agree hn) rfl) rfl ?_
      refine TO.w hn (.binOp _ _ _ _ _) rfl (guard0 rfl) (lop_bin (agree hn) rfl rfl rfl) rfl ?_
      refine TO.w hn (.move _) rfl (guard0 rfl) (lop_move (agree hn) rfl) rfl ?_
      (refine TO.splitB 29 hn rfl (fun hc => ?_) (fun hc => ?_) <;> (try simp only [decide_eq_true_eq, decide_eq_false_iff_not, beq_iff_eq, bne_iff_ne, beq_eq_false_iff_ne, bne_eq_false_iff_eq, Bool.not_eq_true', Bool.not_eq_false', Bool.not_eq_eq_eq_not, Bool.not_true, Bool.not_false, ne_eq, gt_iff_lt, ge_iff_le, Bool.and_eq_true, Bool.or_eq_true, Bool.and_eq_false_imp, Bool.or_eq_false_iff, Nat.not_lt, Nat.not_le, Int.not_lt, Int.not_le, Decidable.not_not] at hc))
      refine TO.woff hn (guardOff (agree hn) rfl rfl rfl rfl) rfl ?_
      refine TO.woff hn (guardOff (agree hn) rfl rfl rfl rfl) rfl ?_
      refine TO.w hn (.pick _ _ _) rfl (guard0 rfl) (lop_pickT (agree hn) rfl rfl rfl) rfl ?_
      refine TO.nil ?_
      refine TC.condT (agree hn) rfl rfl ?_
      refine TC.seq ?_
      refine TC.region (id := 9) ?_
      refine TO.w hn (.assign _) rfl (guard0 rfl) (lop_assign (agree hn) rfl) rfl ?_
      refine TO.w hn (.assign _) rfl (guard0 rfl) (lop_assign (agree hn) rfl) rfl ?_
      refine TO.nil ?_
      refine TC.ret ?_
      rotate_left
      refine TO.w hn (.move _) rfl (guardOn (agree hn) rfl rfl rfl rfl) (lop_move (agree hn) rfl) rfl ?_
      refine TO.w hn (.binOp _ _ _ _ _) rfl (guardOn (agree hn) rfl rfl rfl rfl) (lop_binT (agree hn) rfl rfl rfl (by exact decide_eq_true (by omega))) rfl ?_
      refine TO.w hn (.pick _ _ _) rfl (guard0 rfl) (lop_pickF (agree hn) rfl rfl rfl) rfl ?_
      refine TO.nil ?_
      refine TC.condT (agree hn) rfl rfl ?_
      refine TC.seq ?_
      refine TC.region (id := 9) ?_
      refine TO.w hn (.assign _) rfl (guard0 rfl) (lop_assign (agree hn) rfl) rfl ?_
      refine TO.w hn (.assign _) rfl (guard0 rfl) (lop_assign (agree hn) rfl) rfl ?_
      refine TO.nil ?_
      refine TC.ret ?_
      rotate_left
      · refine ⟨trivial, _, lresT (agree hn) rfl rfl, ?_, hle⟩
        rw [unhexV, hu]; rfl
      · refine ⟨trivial, _, lresT (agree hn) rfl rfl, ?_, hle⟩
        rw [unhexV, hu]; rfl
  · rw [List.drop_eq_nil_of_le (by omega), unhexL] at hu
    rcases hB with ⟨rfl, rfl⟩ | ⟨ob, c, rfl, hob, hge⟩
    · refine TC.facts _ hf ?_
      refine TC.seq ?_
      refine TC.seq ?_
      refine TC.region (id := 5) ?_
      refine TO.w hn (.move _) rfl (guard0 rfl) (lop_move (agree hn) rfl) rfl ?_
      refine TO.w hn (.move _) rfl (guard0 rfl) (lop_move (agree hn) rfl) rfl ?_
      refine TO.w hn (.call _) rfl (guard0 rfl) (lop_built (agree hn) rfl rfl (lbuiltin_lenS rfl)) rfl ?_
      refine TO.w hn (.binOp _ _ _ _ _) rfl (guard0 rfl) (lop_binF (agree hn) rfl rfl rfl (by exact decide_eq_false (by omega))) rfl ?_
      refine TO.nil ?_
      refine TC.condF (agree hn) rfl rfl ?_
      refine TC.exit ?_
      refine TC.seq ?_
      refine TC.region (id := 11) ?_
      refine TO.w hn (.move _) rfl (guard0 rfl) (lop_move (agree hn) rfl) rfl ?_
      refine TO.w hn (.convert _ _ _) rfl (guard0 rfl) (lop_convBS0 (agree hn) rfl rfl rfl rfl) rfl ?_
      refine TO.w hn (.assign _) rfl (guard0 rfl) (lop_assign (agree hn) rfl) rfl ?_
      refine TO.w hn (.assign _) rfl (guard0 rfl) (lop_assign (agree hn) rfl) rfl ?_
      refine TO.nil ?_
      refine TC.ret ?_
      refine ⟨trivial, _, lresT (agree hn) rfl rfl, ?_, hle⟩
      rw [unhexV, hu]; rfl
    · refine TC.facts _ hf ?_
      refine TC.seq ?_
      refine TC.seq ?_
      refine TC.region (id := 5) ?_
      refine TO.w hn (.move _) rfl (guard0 rfl) (lop_move (agree hn) rfl) rfl ?_
      refine TO.w hn (.move _) rfl (guard0 rfl) (lop_move (agree hn) rfl) rfl ?_
      refine TO.w hn (.call _) rfl (guard0 rfl) (lop_built (agree hn) rfl rfl (lbuiltin_lenS rfl)) rfl ?_
      refine TO.w hn (.binOp _ _ _ _ _) rfl (guard0 rfl) (lop_binF (agree hn) rfl rfl rfl (by exact decide_eq_false (by omega))) rfl ?_
      refine TO.nil ?_
      refine TC.condF (agree hn) rfl rfl ?_
      refine TC.exit ?_
      refine TC.seq ?_
      refine TC.region (id := 11) ?_
      refine TO.w hn (.move _) rfl (guard0 rfl) (lop_move (agree hn) rfl) rfl ?_
      refine TO.w hn (.convert _ _ _) rfl (guard0 rfl) (lop_convBS (agree hn) rfl rfl rfl rfl (by assumption) (by omega)) rfl ?_
      refine TO.w hn (.assign _) rfl (guard0 rfl) (lop_assign (agree hn) rfl) rfl ?_
      refine TO.w hn (.assign _) rfl (guard0 rfl) (lop_assign (agree hn) rfl) rfl ?_
      refine TO.nil ?_
      refine TC.ret ?_
      refine ⟨trivial, _, lresT (agree hn) rfl rfl, ?_, hle⟩
      rw [unhexV, hu, List.drop_zero, List.take_length]
      simp

theorem putNumberR_CF {H : Hp} {b : List UInt8} {n : Int} {v : Nat} (hb : b.length ≤ 70368744177664) (hv : v < 18446744073709551616) : CF Try.prog 23 [S b, .int .i64 n, .int .u64 (v : Nat)] H fun u H' => u = S (b ++ putN (clampN n) v) ∧ H' = H := by
  refine CF.forget ((?_ : CF _ _ _ _ fun u H' => u = S (b ++ putN (clampN n) v) ∧ H.le H').mono fun u H' h => ⟨⟨h.1, by rw [h.1]; rfl⟩, h.2⟩)
  refine CF.wf fun hw => ?_
  refine CF.go _ Try.func23 rfl ⟨Nat.le_of_ble_eq_true rfl, rfl⟩ fun base hb0 hn => ?_
  subst hb0
  have hk1 : clampN n ≤ 8 := by
    unfold clampN
    split
    · omega
    · split <;> omega
  have hk : clampN n = (if n < 1 then 1 else if 8 < n then 8 else n.toNat) := rfl
  generalize clampN n = k at *
  refine TC.seq ?_
  refine TC.region (id := 0) ?_
  refine TO.w hn (.assign _) rfl (guard0 rfl) (lop_assign (agree hn) rfl) rfl ?_
  refine TO.nil ?_
  refine TC.seqM 3 rfl (fun fr H' => fr.length = 28 ∧ Facts fr [(0, S b), (2, .int .u64 (v : Nat)), (1, .int .i64 (if n < 1 then 1 else n))] ∧ H' = H) ?_ ?_
  refine TC.seq ?_
  refine TC.region (id := 1) ?_
  refine TO.w hn (.move _) rfl (guard0 rfl) (lop_move (agree hn) rfl) rfl ?_
  refine TO.w hn (.binOp _ _ _ _ _) rfl (guard0 rfl) (lop_bin (agree hn) rfl rfl rfl) rfl ?_
  refine TO.nil ?_
  (refine TC.condE (agree hn) rfl (fun hc => ?_) (fun hc => ?_) <;> (try simp only [decide_eq_true_eq, decide_eq_false_iff_not, beq_iff_eq, bne_iff_ne, beq_eq_false_iff_ne, bne_eq_false_iff_eq, Bool.not_eq_true', Bool.not_eq_false', Bool.not_eq_eq_eq_not, Bool.not_true, Bool.not_false, ne_eq, gt_iff_lt, ge_iff_le, Bool.and_eq_true, Bool.or_eq_true, Bool.and_eq_false_imp, Bool.or_eq_false_iff, Nat.not_lt, Nat.not_le, Int.not_lt, Int.not_le, Decidable.not_not] at hc))
  refine TC.region (id := 2) ?_
  refine TO.w hn (.assign _) rfl (guard0 rfl) (lop_assign (agree hn) rfl) rfl ?_
  refine TO.nil ?_
  rotate_left
  refine TC.skip ?_
  rotate_left
  rotate_left
  any_goals
    refine ⟨(mkF_length _ _).trans hn, Facts.of (agree hn) ⟨rfl, rfl, congrArg (fun z => some (Value.int IntKind.i64 z)) ?_, trivial⟩, rfl⟩
    split <;> omega
  clear hn
  rintro fr H' ⟨hn, hf, rfl⟩
  refine TC.facts _ hf ?_
  refine TC.seqM 5 rfl (fun fr H2 => fr.length = 28 ∧ Facts fr [(0, S b), (2, .int .u64 (v : Nat)), (1, .int .i64 (k : Nat))] ∧ H2 = H') ?_ ?_
  refine TC.seq ?_
  refine TC.region (id := 3) ?_
  refine TO.w hn (.move _) rfl (guard0 rfl) (lop_move (agree hn) rfl) rfl ?_
  refine TO.w hn (.binOp _ _ _ _ _) rfl (guard0 rfl) (lop_bin (agree hn) rfl rfl rfl) rfl ?_
  refine TO.nil ?_
  (refine TC.condE (agree hn) rfl (fun hc => ?_) (fun hc => ?_) <;> (try simp only [decide_eq_true_eq, decide_eq_false_iff_not, beq_iff_eq, bne_iff_ne, beq_eq_false_iff_ne, bne_eq_false_iff_eq, Bool.not_eq_true', Bool.not_eq_false', Bool.not_eq_eq_eq_not, Bool.not_true, Bool.not_false, ne_eq, gt_iff_lt, ge_iff_le, Bool.and_eq_true, Bool.or_eq_true, Bool.and_eq_false_imp, Bool.or_eq_false_iff, Nat.not_lt, Nat.not_le, Int.not_lt, Int.not_le, Decidable.not_not] at hc))
  refine TC.region (id := 4) ?_
  refine TO.w hn (.assign _) rfl (guard0 rfl) (lop_assign (agree hn) rfl) rfl ?_
  refine TO.nil ?_
  rotate_left
  refine TC.skip ?_
  rotate_left
  rotate_left
  any_goals
    refine ⟨(mkF_length _ _).trans hn, Facts.of (agree hn) ⟨rfl, rfl, congrArg (fun z => some (Value.int IntKind.i64 z)) ?_, trivial⟩, rfl⟩
    (repeat' split at hk) <;> (repeat' split at hc) <;> (try split) <;> omega
  clear hn hf
  rintro fr H' ⟨hn, hf, rfl⟩
  refine TC.facts _ hf ?_
  refine TC.seq ?_
  refine TC.seq ?_
  refine TC.region (id := 5) ?_
  refine TO.w hn (.move _) rfl (guard0 rfl) (lop_move (agree hn) rfl) rfl ?_
  refine TO.w hn (.binOp _ _ _ _ _) rfl (guard0 rfl) (lop_binI (agree hn) rfl rfl rfl rfl (by omega) (by omega)) rfl ?_
  refine TO.w hn (.assign _) rfl (guard0 rfl) (lop_assign (agree hn) rfl) rfl ?_
  refine TO.nil ?_
  refine TC.block ?_
  refine TC.loopI (fun i fr H2 => ∃ (xs : List UInt8), xs ++ putN i v = b ++ putN k v ∧ xs.length ≤ b.length + 8 ∧ i ≤ 8 ∧ fr.length = 28 ∧ Facts fr [(0, S xs), (2, .int .u64 (v : Nat)), (7, .int .i64 ((i : Nat) - (1 : Int)))] ∧ H'.le H2) k
    ⟨b, rfl, by omega, hk1, (mkF_length _ _).trans hn, Facts.of (agree hn) ⟨rfl, rfl, rfl, trivial⟩, Hp.le.refl H'⟩ ?_
  clear hn hf
  rintro i fr H2 ⟨xs, hx, hxl, hi8, hn, hf, hle⟩
  refine TC.wf fun hw' => ?_
  refine TC.facts _ hf ?_
  cases i with
  | zero =>
    have hx : xs = b ++ putN k v := by simpa [putN] using hx
    refine TC.seq ?_
    refine TC.seq ?_
    refine TC.region (id := 6) ?_
    refine TO.w hn (.move _) rfl (guard0 rfl) (lop_move (agree hn) rfl) rfl ?_
    refine TO.w hn (.binOp _ _ _ _ _) rfl (guard0 rfl) (lop_binF (agree hn) rfl rfl rfl (by exact decide_eq_false (by omega))) rfl ?_
    refine TO.nil ?_
    refine TC.condF (agree hn) rfl rfl ?_
    refine TC.exit ?_
    refine TC.seq ?_
    refine TC.region (id := 9) ?_
    refine TO.w hn (.move _) rfl (guard0 rfl) (lop_move (agree hn) rfl) rfl ?_
    refine TO.w hn (.assign _) rfl (guard0 rfl) (lop_assign (agree hn) rfl) rfl ?_
    refine TO.nil ?_
    refine TC.ret ?_
    refine ⟨trivial, _, lres1 (agree hn) rfl, ?_, hle⟩
    rw [hx]
  | succ i =>
    have hlen := congrArg List.length hx
    simp only [List.length_append, putN_length] at hlen
    have hbyte := shr_byte (v := v) (i := i) (z := 8 * (((i + 1 : Nat) : Int) - 1)) (by omega) (by omega)
    have hbl : (H2.new (.ints true .u8 [IntKind.u8.wrap ((v : Int).fdiv (2 ^ (min (8 * (((i + 1 : Nat) : Int) - 1)).toNat IntKind.u64.bits)))])).f H2.n = some (.ints true .u8 ([UInt8.ofNat (v / 256 ^ i)].map fun c => (c.toNat : Int))) := by
      rw [hbyte]
      exact new_self _ _
    refine TC.seq ?_
    refine TC.seq ?_
    refine TC.region (id := 6) ?_
    refine TO.w hn (.move _) rfl (guard0 rfl) (lop_move (agree hn) rfl) rfl ?_
    refine TO.w hn (.binOp _ _ _ _ _) rfl (guard0 rfl) (lop_binT (agree hn) rfl rfl rfl (by exact decide_eq_true (by omega))) rfl ?_
    refine TO.nil ?_
    refine TC.condT (agree hn) rfl rfl ?_
    refine TC.skip ?_
    refine TC.seq ?_
    refine TC.block ?_
    refine TC.region (id := 8) ?_
    refine TO.w hn (.move _) rfl (guard0 rfl) (lop_move (agree hn) rfl) rfl ?_
    refine TO.w hn (.move _) rfl (guard0 rfl) (lop_move (agree hn) rfl) rfl ?_
    refine TO.w hn (.move _) rfl (guard0 rfl) (lop_move (agree hn) rfl) rfl ?_
    refine TO.w hn (.binOp _ _ _ _ _) rfl (guard0 rfl) (lop_binI (agree hn) rfl rfl rfl rfl (by omega) (by omega)) rfl ?_
    refine TO.w hn (.binOp _ _ _ _ _) rfl (guard0 rfl) (lop_shr (agree hn) rfl rfl (by omega)) rfl ?_
    refine TO.w hn (.convert _ _ _) rfl (guard0 rfl) (lop_conv (agree hn) rfl rfl) rfl ?_
    refine TO.w hn (.buildSlice _ _ _) rfl (guard0 rfl) (lop_bslice (agree hn) rfl (lbuildSlice_1 rfl)) rfl ?_
    refine TO.w hn (.convert _ _ _) rfl (guard0 rfl) (lop_convBS (agree hn) rfl rfl rfl rfl (by assumption) (by (simp only [List.length_append, List.length_take, List.length_drop, List.length_map, List.length_cons, List.length_nil, List.length_singleton, List.length_replicate, putN_length]; omega))) rfl ?_
    refine TO.w hn (.binOp _ _ _ _ _) rfl (guard0 rfl) (lop_cat (agree hn) rfl rfl (by (simp only [List.length_append, List.length_take, List.length_drop, List.length_map, List.length_cons, List.length_nil, List.length_singleton, List.length_replicate, putN_length]; omega))) rfl ?_
    refine TO.w hn (.assign _) rfl (guard0 rfl) (lop_assign (agree hn) rfl) rfl ?_
    refine TO.nil ?_
    refine TC.region (id := 7) ?_
    refine TO.w hn (.move _) rfl (guard0 rfl) (lop_move (agree hn) rfl) rfl ?_
    refine TO.w hn (.binOp _ _ _ _ _) rfl (guard0 rfl) (lop_binI (agree hn) rfl rfl rfl rfl (by omega) (by omega)) rfl ?_
    refine TO.w hn (.assign _) rfl (guard0 rfl) (lop_assign (agree hn) rfl) rfl ?_
    refine TO.nil ?_
    refine ⟨i, by omega, xs ++ [UInt8.ofNat (v / 256 ^ i)], ?_, ?_, by omega, (mkF_length _ _).trans hn, Facts.of (agree hn) ⟨rfl, rfl, ?_, trivial⟩, hle.new' hw _⟩
    · rw [List.append_assoc]; exact hx
    · rw [List.length_append, List.length_singleton]; omega
    · exact congrArg (fun z => some (Value.int IntKind.i64 z)) (by omega)
theorem putTextR_CF {H : Hp} {b s : List UInt8} (hb : b.length ≤ 70368744177664) (hs : s.length ≤ 70368744177664) : CF Try.prog 24 [S b, S s] H fun u H' => u = S (b ++ putN 4 s.length ++ s) ∧ H' = H := by
  refine CF.go _ Try.func24 rfl ⟨Nat.le_of_ble_eq_true rfl, rfl⟩ fun base hb0 hn => ?_
  subst hb0
  have h1 := putNumberR_CF (H := H) (b := b) (n := 4) (v := s.length) hb (by omega)
  rw [show clampN 4 = 4 from rfl] at h1
  refine TC.seq ?_
  refine TC.region (id := 0) ?_
  refine TO.w hn (.assign _) rfl (guard0 rfl) (lop_assign (agree hn) rfl) rfl ?_
  refine TO.nil ?_
  refine TC.seq ?_
  refine TC.region (id := 1) ?_
  refine TO.w hn (.move _) rfl (guard0 rfl) (lop_move (agree hn) rfl) rfl ?_
  refine TO.w hn (.move _) rfl (guard0 rfl) (lop_move (agree hn) rfl) rfl ?_
  refine TO.w hn (.call _) rfl (guard0 rfl) (lop_built (agree hn) rfl rfl (lbuiltin_lenS rfl)) rfl ?_
  refine TO.w hn (.convert _ _ _) rfl (guard0 rfl) (lop_convI (agree hn) rfl rfl rfl (by omega) (by omega)) rfl ?_
  (refine TO.wc hn (.call _) rfl (guard0 rfl) (lop_func (agree hn) rfl rfl rfl) rfl (CF.co noOwn rfl rfl h1) (fun v H2 hR => ?_); (obtain ⟨rfl, e2⟩ := hR; cases e2.symm))
  refine TO.w hn (.move _) rfl (guard0 rfl) (lop_move (agree hn) rfl) rfl ?_
  refine TO.w hn (.binOp _ _ _ _ _) rfl (guard0 rfl) (lop_cat (agree hn) rfl rfl (by (simp only [List.length_append, List.length_take, List.length_drop, List.length_map, List.length_cons, List.length_nil, List.length_singleton, List.length_replicate, putN_length]; omega))) rfl ?_
  refine TO.w hn (.assign _) rfl (guard0 rfl) (lop_assign (agree hn) rfl) rfl ?_
  refine TO.nil ?_
  refine TC.ret ?_
  exact ⟨trivial, _, lres1 (agree hn) rfl, rfl, rfl⟩

theorem wireLays_CF {H : Hp} {b s : List UInt8} {n : Int} {x v : Nat} (hx : x < 256) (hv : v < 18446744073709551616) (hb : b.length ≤ 9223372036854775807) (hs : s.length ≤ 9223372036854775807) :
    CF Try.prog 5 [S b, .int .i64 n, .agg #[.int .u8 x, .int .u64 v, S s]] H fun u H' => u = .bool true := by
  refine CF.wf fun hw => ?_
  refine CF.go _ Try.func5 rfl ⟨Nat.le_of_ble_eq_true rfl, rfl⟩ fun base hb0 hn => ?_
  subst hb0
  have eb : ∀ l : List UInt8, l.length ≤ 9223372036854775807 → (List.take (min (l.length : Int) (5000 : Int)).toNat l).length ≤ 5000 := fun l h => by rw [List.length_take]; omega
  have eb1 := eb b hb
  have es1 := eb s hs
  refine TC.seq ?_
  refine TC.region (id := 0) ?_
  refine TO.w hn (.box _ _) rfl (guard0 rfl) (lop_box (agree hn) rfl) rfl ?_
  refine TO.w hn (.assign _) rfl (guard0 rfl) (lop_assign (agree hn) rfl) rfl ?_
  refine TO.nil ?_
  refine TC.seq ?_
  refine TC.region (id := 1) ?_
  refine TO.w hn (.move _) rfl (guard0 rfl) (lop_move (agree hn) rfl) rfl ?_
  refine TO.w hn (.move _) rfl (guard0 rfl) (lop_move (agree hn) rfl) rfl ?_
  refine TO.w hn (.call _) rfl (guard0 rfl) (lop_built (agree hn) rfl rfl (lbuiltin_lenS rfl)) rfl ?_
  refine TO.w hn (.call _) rfl (guard0 rfl) (lop_built (agree hn) rfl rfl lbuiltin_minI) rfl ?_
  refine TO.w hn (.slice _ _ _ _ _) rfl (guard0 rfl) (lop_slice (agree hn) rfl rfl rfl rfl (lsliceS_hi rfl (by exact lboundI (by omega) (by omega)))) rfl ?_
  refine TO.w hn (.assign _) rfl (guard0 rfl) (lop_assign (agree hn) rfl) rfl ?_
  refine TO.nil ?_
  refine TC.seq ?_
  refine TC.region (id := 2) ?_
  refine TO.w hn (.fieldAddr _ _ _) rfl (guard0 rfl) (lop_fa (agree hn) rfl rfl) rfl ?_
  refine TO.w hn (.load _ _) rfl (guard0 rfl) (lop_load (agree hn) rfl (by exact new_self _ _) rfl rfl) rfl ?_
  refine TO.w hn (.fieldAddr _ _ _) rfl (guard0 rfl) (lop_fa (agree hn) rfl rfl) rfl ?_
  refine TO.w hn (.load _ _) rfl (guard0 rfl) (lop_load (agree hn) rfl (by exact new_self _ _) rfl rfl) rfl ?_
  refine TO.w hn (.call _) rfl (guard0 rfl) (lop_built (agree hn) rfl rfl (lbuiltin_lenS rfl)) rfl ?_
  refine TO.w hn (.call _) rfl (guard0 rfl) (lop_built (agree hn) rfl rfl lbuiltin_minI) rfl ?_
  refine TO.w hn (.slice _ _ _ _ _) rfl (guard0 rfl) (lop_slice (agree hn) rfl rfl rfl rfl (lsliceS_hi rfl (by exact lboundI (by omega) (by omega)))) rfl ?_
  refine TO.w hn (.assign _) rfl (guard0 rfl) (lop_assign (agree hn) rfl) rfl ?_
  refine TO.nil ?_
  refine TC.seq ?_
  refine TC.region (id := 3) ?_
  refine TO.w hn (.move _) rfl (guard0 rfl) (lop_move (agree hn) rfl) rfl ?_
  (refine TO.wc hn (.call _) rfl (guard0 rfl) (lop_func (agree hn) rfl rfl rfl) rfl (CF.co noOwn rfl rfl (unhex_CF (by omega))) (fun v H2 hR => ?_); (obtain ⟨rfl, e2⟩ := hR; cases e2.symm))
  refine TO.w hn (.move _) rfl (guard0 rfl) (lop_move (agree hn) rfl) rfl ?_
  refine TO.w hn (.extract _ _) rfl (guard0 rfl) (lop_ex (agree hn) rfl rfl) rfl ?_
  refine TO.w hn (.extract _ _) rfl (guard0 rfl) (lop_ex (agree hn) rfl rfl) rfl ?_
  refine TO.w hn (.assign _) rfl (guard0 rfl) (lop_assign (agree hn) rfl) rfl ?_
  refine TO.w hn (.assign _) rfl (guard0 rfl) (lop_assign (agree hn) rfl) rfl ?_
  refine TO.nil ?_
  refine TC.seq ?_
  refine TC.region (id := 4) ?_
  refine TO.w hn (.move _) rfl (guard0 rfl) (lop_move (agree hn) rfl) rfl ?_
  (refine TO.wc hn (.call _) rfl (guard0 rfl) (lop_func (agree hn) rfl rfl rfl) rfl (CF.co noOwn rfl rfl (unhexR_CF (by omega))) (fun v H2 hR => ?_); (obtain ⟨rfl, e2⟩ := hR; cases e2.symm))
  refine TO.w hn (.move _) rfl (guard0 rfl) (lop_move (agree hn) rfl) rfl ?_
  refine TO.w hn (.extract _ _) rfl (guard0 rfl) (lop_ex (agree hn) rfl rfl) rfl ?_
  refine TO.w hn (.extract _ _) rfl (guard0 rfl) (lop_ex (agree hn) rfl rfl) rfl ?_
  refine TO.w hn (.assign _) rfl (guard0 rfl) (lop_assign (agree hn) rfl) rfl ?_
  refine TO.w hn (.assign _) rfl (guard0 rfl) (lop_assign (agree hn) rfl) rfl ?_
  refine TO.nil ?_
  refine TC.seq ?_
  refine TC.drawnSeq (id := 5) [(0, false), (1, false), (2, false), (3, false), (4, true), (5, false), (6, false), (7, false), (8, false), (9, true), (10, false), (11, false), (12, false), (13, false), (14, true), (15, false), (16, false), (17, true), (18, false), (19, false), (20, false), (21, false), (22, true), (23, false), (24, true), (25, false), (26, false), (27, false), (28, false), (29, false), (30, false), (31, false), (32, false), (33, false), (34, false), (35, false), (36, false), (37, false), (38, true), (39, false), (40, false)] rfl (by kernel_rfl) ?_
  refine AS.w hn rfl (.move _) rfl (guard0 rfl) (lop_move (agree hn) rfl) rfl ?_
  refine AS.w hn rfl (.move _) rfl (guard0 rfl) (lop_move (agree hn) rfl) rfl ?_
  refine AS.w hn rfl (.fieldAddr _ _ _) rfl (guard0 rfl) (lop_fa (agree hn) rfl rfl) rfl ?_
  refine AS.w hn rfl (.load _ _) rfl (guard0 rfl) (lop_load (agree hn) rfl (by exact new_self _ _) rfl rfl) rfl ?_
  refine AS.wp hn rfl (.call _) rfl (guard0 rfl) (lop_func (agree hn) rfl rfl rfl) rfl (CF.co noOwn rfl rfl (putNumber_CF (by omega) hv)) ?_
  refine AS.w hn rfl (.move _) rfl (guard0 rfl) (lop_move (agree hn) rfl) rfl ?_
  refine AS.w hn rfl (.move _) rfl (guard0 rfl) (lop_move (agree hn) rfl) rfl ?_
  refine AS.w hn rfl (.fieldAddr _ _ _) rfl (guard0 rfl) (lop_fa (agree hn) rfl rfl) rfl ?_
  refine AS.w hn rfl (.load _ _) rfl (guard0 rfl) (lop_load (agree hn) rfl (by exact new_self _ _) rfl rfl) rfl ?_
  refine AS.wp hn rfl (.call _) rfl (guard0 rfl) (lop_func (agree hn) rfl rfl rfl) rfl (CF.co noOwn rfl rfl (putNumberR_CF (by omega) hv)) ?_
  refine AS.w hn rfl (.binOp _ _ _ _ _) rfl (guard0 rfl) (lop_eqST (agree hn) rfl rfl (by rfl)) rfl ?_
  refine AS.w hn rfl (.move _) rfl (guard0 rfl) (lop_move (agree hn) rfl) rfl ?_
  refine AS.w hn rfl (.move _) rfl (guardOn (agree hn) rfl rfl rfl rfl) (lop_move (agree hn) rfl) rfl ?_
  refine AS.w hn rfl (.move _) rfl (guardOn (agree hn) rfl rfl rfl rfl) (lop_move (agree hn) rfl) rfl ?_
  refine AS.wp hn rfl (.call _) rfl (guardOn (agree hn) rfl rfl rfl rfl) (lop_func (agree hn) rfl rfl rfl) rfl (CF.co noOwn rfl rfl (putText_CF (by omega) (by omega))) ?_
  refine AS.w hn rfl (.move _) rfl (guardOn (agree hn) rfl rfl rfl rfl) (lop_move (agree hn) rfl) rfl ?_
  refine AS.w hn rfl (.move _) rfl (guardOn (agree hn) rfl rfl rfl rfl) (lop_move (agree hn) rfl) rfl ?_
  refine AS.wp hn rfl (.call _) rfl (guardOn (agree hn) rfl rfl rfl rfl) (lop_func (agree hn) rfl rfl rfl) rfl (CF.co noOwn rfl rfl (putTextR_CF (by omega) (by omega))) ?_
  refine AS.w hn rfl (.binOp _ _ _ _ _) rfl (guardOn (agree hn) rfl rfl rfl rfl) (lop_eqST (agree hn) rfl rfl (by rfl)) rfl ?_
  refine AS.w hn rfl (.pick _ _ _) rfl (guard0 rfl) (lop_pickT (agree hn) rfl rfl rfl) rfl ?_
  refine AS.w hn rfl (.move _) rfl (guard0 rfl) (lop_move (agree hn) rfl) rfl ?_
  refine AS.w hn rfl (.move _) rfl (guardOn (agree hn) rfl rfl rfl rfl) (lop_move (agree hn) rfl) rfl ?_
  refine AS.wp hn rfl (.call _) rfl (guardOn (agree hn) rfl rfl rfl rfl) (lop_func (agree hn) rfl rfl rfl) rfl (CF.co noOwn rfl rfl (hex_CF (by omega))) ?_
  refine AS.w hn rfl (.move _) rfl (guardOn (agree hn) rfl rfl rfl rfl) (lop_move (agree hn) rfl) rfl ?_
  refine AS.wp hn rfl (.call _) rfl (guardOn (agree hn) rfl rfl rfl rfl) (lop_func (agree hn) rfl rfl rfl) rfl (CF.co noOwn rfl rfl (hexR_CF (by omega))) ?_
  refine AS.w hn rfl (.binOp _ _ _ _ _) rfl (guardOn (agree hn) rfl rfl rfl rfl) (lop_eqST (agree hn) rfl rfl (by rfl)) rfl ?_
  refine AS.w hn rfl (.pick _ _ _) rfl (guard0 rfl) (lop_pickT (agree hn) rfl rfl rfl) rfl ?_
  refine AS.w hn rfl (.move _) rfl (guard0 rfl) (lop_move (agree hn) rfl) rfl ?_
  refine AS.w hn rfl (.move _) rfl (guardOn (agree hn) rfl rfl rfl rfl) (lop_move (agree hn) rfl) rfl ?_
  refine AS.w hn rfl (.move _) rfl (guardOn (agree hn) rfl rfl rfl rfl) (lop_move (agree hn) rfl) rfl ?_
  refine AS.w hn rfl (.binOp _ _ _ _ _) rfl (guardOn (agree hn) rfl rfl rfl rfl) (lop_eqST (agree hn) rfl rfl (by rfl)) rfl ?_
  refine AS.w hn rfl (.pick _ _ _) rfl (guard0 rfl) (lop_pickT (agree hn) rfl rfl rfl) rfl ?_
  refine AS.w hn rfl (.move _) rfl (guard0 rfl) (lop_move (agree hn) rfl) rfl ?_
  refine AS.w hn rfl (.move _) rfl (guardOn (agree hn) rfl rfl rfl rfl) (lop_move (agree hn) rfl) rfl ?_
  refine AS.w hn rfl (.move _) rfl (guardOn (agree hn) rfl rfl rfl rfl) (lop_move (agree hn) rfl) rfl ?_
  refine AS.w hn rfl (.binOp _ _ _ _ _) rfl (guardOn (agree hn) rfl rfl rfl rfl) (lop_eqBB (agree hn) rfl rfl rfl (by with_reducible rfl)) rfl ?_
  refine AS.w hn rfl (.pick _ _ _) rfl (guard0 rfl) (lop_pickT (agree hn) rfl rfl rfl) rfl ?_
  refine AS.w hn rfl (.move _) rfl (guard0 rfl) (lop_move (agree hn) rfl) rfl ?_
  refine AS.wp hn rfl (.call _) rfl (guardOn (agree hn) rfl rfl rfl rfl) (lop_func (agree hn) rfl rfl rfl) rfl (CF.co noOwn rfl rfl works_CF) ?_
  refine AS.w hn rfl (.pick _ _ _) rfl (guard0 rfl) (lop_pickT (agree hn) rfl rfl rfl) rfl ?_
  refine AS.w hn rfl (.assign _) rfl (guard0 rfl) (lop_assign (agree hn) rfl) rfl ?_
  refine AS.nil ?_
  refine TC.ret ?_
  exact ⟨trivial, _, lres1 (agree hn) rfl, rfl⟩
end Go.Proofs.Ytbekdbehiacnkaa
