/- The document's numbers, texts, and digits; the statement on what is laid. -/
import Derived.Test.YtcndgbaldjcdfaaWireU
import Derived.Test.YtcndgbaldjcdfaaLite28
import Derived.Test.YtcndgbaldjcdfaaRows
namespace Go.Proofs.Ytcndgbaldjcdfaa
set_option maxHeartbeats 8000000
set_option maxRecDepth 100000
open Go Go.Lite
set_option linter.unusedSimpArgs false
set_option linter.unusedVariables false

theorem putNumberR_CF {H : Hp} {b : List UInt8} {n : Int} {v : Nat} (hb : b.length ≤ 70368744177664) (hv : v < 18446744073709551616) : CF Try.prog 47 [S b, .int .i64 n, .int .u64 (v : Nat)] H fun u H' => u = S (b ++ putN (clampN n) v) ∧ H' = H := by
  refine CF.forget ((?_ : CF _ _ _ _ fun u H' => u = S (b ++ putN (clampN n) v) ∧ H.le H').mono fun u H' h => ⟨⟨h.1, by rw [h.1]; rfl⟩, h.2⟩)
  refine CF.wf fun hw => ?_
  refine CF.go _ Try.func47 rfl ⟨Nat.le_of_ble_eq_true rfl, rfl⟩ fun base hb0 hn => ?_
  subst hb0
  have hk1 : clampN n ≤ 8 := by
    unfold clampN
    split
    · omega
    · split <;> omega
  have hk : clampN n = (if n < 1 then 1 else if 8 < n then 8 else n.toNat) := rfl
  generalize clampN n = k at *
  refine TC.seq ?_
  refine TC.region (id := 0) ?_
  refine TO.w hn (.assign _) rfl (guard0 rfl) (lop_assign (agree hn) rfl) rfl ?_
  refine TO.nil ?_
  refine TC.seqM 3 rfl (fun fr H' => fr.length = 28 ∧ Facts fr [(0, S b), (2, .int .u64 (v : Nat)), (1, .int .i64 (if n < 1 then 1 else n))] ∧ H' = H) ?_ ?_
  refine TC.seq ?_
  refine TC.region (id := 1) ?_
  refine TO.w hn (.move _) rfl (guard0 rfl) (lop_move (agree hn) rfl) rfl ?_
  refine TO.w hn (.binOp _ _ _ _ _) rfl (guard0 rfl) (lop_bin (agree hn) rfl rfl rfl) rfl ?_
  refine TO.nil ?_
  (refine TC.condE (agree hn) rfl (fun hc => ?_) (fun hc => ?_) <;> (try simp only [decide_eq_true_eq, decide_eq_false_iff_not, beq_iff_eq, bne_iff_ne, beq_eq_false_iff_ne, bne_eq_false_iff_eq, Bool.not_eq_true', Bool.not_eq_false', Bool.not_eq_eq_eq_not, Bool.not_true, Bool.not_false, ne_eq, gt_iff_lt, ge_iff_le, Bool.and_eq_true, Bool.or_eq_true, Bool.and_eq_false_imp, Bool.or_eq_false_iff, Nat.not_lt, Nat.not_le, Int.not_lt, Int.not_le, Decidable.not_not] at hc))
  refine TC.region (id := 2) ?_
  refine TO.w hn (.assign _) rfl (guard0 rfl) (lop_assign (agree hn) rfl) rfl ?_
  refine TO.nil ?_
  rotate_left
  refine TC.skip ?_
  rotate_left
  rotate_left
  any_goals
    refine ⟨(mkF_length _ _).trans hn, Facts.of (agree hn) ⟨rfl, rfl, congrArg (fun z => some (Value.int IntKind.i64 z)) ?_, trivial⟩, rfl⟩
    split <;> omega
  clear hn
  rintro fr H' ⟨hn, hf, rfl⟩
  refine TC.facts _ hf ?_
  refine TC.seqM 5 rfl (fun fr H2 => fr.length = 28 ∧ Facts fr [(0, S b), (2, .int .u64 (v : Nat)), (1, .int .i64 (k : Nat))] ∧ H2 = H') ?_ ?_
  refine TC.seq ?_
  refine TC.region (id := 3) ?_
  refine TO.w hn (.move _) rfl (guard0 rfl) (lop_move (agree hn) rfl) rfl ?_
  refine TO.w hn (.binOp _ _ _ _ _) rfl (guard0 rfl) (lop_bin (agree hn) rfl rfl rfl) rfl ?_
  refine TO.nil ?_
  (refine TC.condE (agree hn) rfl (fun hc => ?_) (fun hc => ?_) <;> (try simp only [decide_eq_true_eq, decide_eq_false_iff_not, beq_iff_eq, bne_iff_ne, beq_eq_false_iff_ne, bne_eq_false_iff_eq, Bool.not_eq_true', Bool.not_eq_false', Bool.not_eq_eq_eq_not, Bool.not_true, Bool.not_false, ne_eq, gt_iff_lt, ge_iff_le, Bool.and_eq_true, Bool.or_eq_true, Bool.and_eq_false_imp, Bool.or_eq_false_iff, Nat.not_lt, Nat.not_le, Int.not_lt, Int.not_le, Decidable.not_not] at hc))
  refine TC.region (id := 4) ?_
  refine TO.w hn (.assign _) rfl (guard0 rfl) (lop_assign (agree hn) rfl) rfl ?_
  refine TO.nil ?_
  rotate_left
  refine TC.skip ?_
  rotate_left
  rotate_left
  any_goals
    refine ⟨(mkF_length _ _).trans hn, Facts.of (agree hn) ⟨rfl, rfl, congrArg (fun z => some (Value.int IntKind.i64 z)) ?_, trivial⟩, rfl⟩
    (repeat' split at hk) <;> (repeat' split at hc) <;> (try split) <;> omega
  clear hn hf
  rintro fr H' ⟨hn, hf, rfl⟩
  refine TC.facts _ hf ?_
  refine TC.seq ?_
  refine TC.seq ?_
  refine TC.region (id := 5) ?_
  refine TO.w hn (.move _) rfl (guard0 rfl) (lop_move (agree hn) rfl) rfl ?_
  refine TO.w hn (.binOp _ _ _ _ _) rfl (guard0 rfl) (lop_binI (agree hn) rfl rfl rfl rfl (by omega) (by omega)) rfl ?_
  refine TO.w hn (.assign _) rfl (guard0 rfl) (lop_assign (agree hn) rfl) rfl ?_
  refine TO.nil ?_
  refine TC.block ?_
  refine TC.loopI (fun i fr H2 => ∃ (xs : List UInt8), xs ++ putN i v = b ++ putN k v ∧ xs.length ≤ b.length + 8 ∧ i ≤ 8 ∧ fr.length = 28 ∧ Facts fr [(0, S xs), (2, .int .u64 (v : Nat)), (7, .int .i64 ((i : Nat) - (1 : Int)))] ∧ H'.le H2) k
    ⟨b, rfl, by omega, hk1, (mkF_length _ _).trans hn, Facts.of (agree hn) ⟨rfl, rfl, rfl, trivial⟩, Hp.le.refl H'⟩ ?_
  clear hn hf
  rintro i fr H2 ⟨xs, hx, hxl, hi8, hn, hf, hle⟩
  refine TC.wf fun hw' => ?_
  refine TC.facts _ hf ?_
  cases i with
  | zero =>
    have hx : xs = b ++ putN k v := by simpa [putN] using hx
    refine TC.seq ?_
    refine TC.seq ?_
    refine TC.region (id := 6) ?_
    refine TO.w hn (.move _) rfl (guard0 rfl) (lop_move (agree hn) rfl) rfl ?_
    refine TO.w hn (.binOp _ _ _ _ _) rfl (guard0 rfl) (lop_binF (agree hn) rfl rfl rfl (by exact decide_eq_false (by omega))) rfl ?_
    refine TO.nil ?_
    refine TC.condF (agree hn) rfl rfl ?_
    refine TC.exit ?_
    refine TC.seq ?_
    refine TC.region (id := 9) ?_
    refine TO.w hn (.move _) rfl (guard0 rfl) (lop_move (agree hn) rfl) rfl ?_
    refine TO.w hn (.assign _) rfl (guard0 rfl) (lop_assign (agree hn) rfl) rfl ?_
    refine TO.nil ?_
    refine TC.ret ?_
    refine ⟨trivial, _, lres1 (agree hn) rfl, ?_, hle⟩
    rw [hx]
  | succ i =>
    have hlen := congrArg List.length hx
    simp only [List.length_append, putN_length] at hlen
    have hbyte := shr_byte (v := v) (i := i) (z := 8 * (((i + 1 : Nat) : Int) - 1)) (by omega) (by omega)
    have hbl : (H2.new (.ints true .u8 [IntKind.u8.wrap ((v : Int).fdiv (2 ^ (min (8 * (((i + 1 : Nat) : Int) - 1)).toNat IntKind.u64.bits)))])).f H2.n = some (.ints true .u8 ([UInt8.ofNat (v / 256 ^ i)].map fun c => (c.toNat : Int))) := by
      rw [hbyte]
      exact new_self _ _
    refine TC.seq ?_
    refine TC.seq ?_
    refine TC.region (id := 6) ?_
    refine TO.w hn (.move _) rfl (guard0 rfl) (lop_move (agree hn) rfl) rfl ?_
    refine TO.w hn (.binOp _ _ _ _ _) rfl (guard0 rfl) (lop_binT (agree hn) rfl rfl rfl (by exact decide_eq_true (by omega))) rfl ?_
    refine TO.nil ?_
    refine TC.condT (agree hn) rfl rfl ?_
    refine TC.skip ?_
    refine TC.seq ?_
    refine TC.block ?_
    refine TC.region (id := 8) ?_
    refine TO.w hn (.move _) rfl (guard0 rfl) (lop_move (agree hn) rfl) rfl ?_
    refine TO.w hn (.move _) rfl (guard0 rfl) (lop_move (agree hn) rfl) rfl ?_
    refine TO.w hn (.move _) rfl (guard0 rfl) (lop_move (agree hn) rfl) rfl ?_
    refine TO.w hn (.binOp _ _ _ _ _) rfl (guard0 rfl) (lop_binI (agree hn) rfl rfl rfl rfl (by omega) (by omega)) rfl ?_
    refine TO.w hn (.binOp _ _ _ _ _) rfl (guard0 rfl) (lop_shr (agree hn) rfl rfl (by omega)) rfl ?_
    refine TO.w hn (.convert _ _ _) rfl (guard0 rfl) (lop_conv (agree hn) rfl rfl) rfl ?_
    refine TO.w hn (.buildSlice _ _ _) rfl (guard0 rfl) (lop_bslice (agree hn) rfl (lbuildSlice_1 rfl)) rfl ?_
    refine TO.w hn (.convert _ _ _) rfl (guard0 rfl) (lop_convBS (agree hn) rfl rfl rfl rfl (by assumption) (by (simp only [List.length_append, List.length_take, List.length_drop, List.length_map, List.length_cons, List.length_nil, List.length_singleton, List.length_replicate, putN_length]; omega))) rfl ?_
    refine TO.w hn (.binOp _ _ _ _ _) rfl (guard0 rfl) (lop_cat (agree hn) rfl rfl (by (simp only [List.length_append, List.length_take, List.length_drop, List.length_map, List.length_cons, List.length_nil, List.length_singleton, List.length_replicate, putN_length]; omega))) rfl ?_
    refine TO.w hn (.assign _) rfl (guard0 rfl) (lop_assign (agree hn) rfl) rfl ?_
    refine TO.nil ?_
    refine TC.region (id := 7) ?_
    refine TO.w hn (.move _) rfl (guard0 rfl) (lop_move (agree hn) rfl) rfl ?_
    refine TO.w hn (.binOp _ _ _ _ _) rfl (guard0 rfl) (lop_binI (agree hn) rfl rfl rfl rfl (by omega) (by omega)) rfl ?_
    refine TO.w hn (.assign _) rfl (guard0 rfl) (lop_assign (agree hn) rfl) rfl ?_
    refine TO.nil ?_
    refine ⟨i, by omega, xs ++ [UInt8.ofNat (v / 256 ^ i)], ?_, ?_, by omega, (mkF_length _ _).trans hn, Facts.of (agree hn) ⟨rfl, rfl, ?_, trivial⟩, hle.new' hw _⟩
    · rw [List.append_assoc]; exact hx
    · rw [List.length_append, List.length_singleton]; omega
    · exact congrArg (fun z => some (Value.int IntKind.i64 z)) (by omega)
theorem putTextR_CF {H : Hp} {b s : List UInt8} (hb : b.length ≤ 70368744177664) (hs : s.length ≤ 70368744177664) : CF Try.prog 38 [S b, S s] H fun u H' => u = S (b ++ putN 4 s.length ++ s) ∧ H' = H := by
  refine CF.go _ Try.func38 rfl ⟨Nat.le_of_ble_eq_true rfl, rfl⟩ fun base hb0 hn => ?_
  subst hb0
  have h1 := putNumberR_CF (H := H) (b := b) (n := 4) (v := s.length) hb (by omega)
  rw [show clampN 4 = 4 from rfl] at h1
  refine TC.seq ?_
  refine TC.region (id := 0) ?_
  refine TO.w hn (.assign _) rfl (guard0 rfl) (lop_assign (agree hn) rfl) rfl ?_
  refine TO.nil ?_
  refine TC.seq ?_
  refine TC.region (id := 1) ?_
  refine TO.w hn (.move _) rfl (guard0 rfl) (lop_move (agree hn) rfl) rfl ?_
  refine TO.w hn (.move _) rfl (guard0 rfl) (lop_move (agree hn) rfl) rfl ?_
  refine TO.w hn (.call _) rfl (guard0 rfl) (lop_built (agree hn) rfl rfl (lbuiltin_lenS rfl)) rfl ?_
  refine TO.w hn (.convert _ _ _) rfl (guard0 rfl) (lop_convI (agree hn) rfl rfl rfl (by omega) (by omega)) rfl ?_
  (refine TO.wc hn (.call _) rfl (guard0 rfl) (lop_func (agree hn) rfl rfl rfl) rfl (CF.co noOwn rfl rfl h1) (fun v H2 hR => ?_); (obtain ⟨rfl, e2⟩ := hR; cases e2.symm))
  refine TO.w hn (.move _) rfl (guard0 rfl) (lop_move (agree hn) rfl) rfl ?_
  refine TO.w hn (.binOp _ _ _ _ _) rfl (guard0 rfl) (lop_cat (agree hn) rfl rfl (by (simp only [List.length_append, List.length_take, List.length_drop, List.length_map, List.length_cons, List.length_nil, List.length_singleton, List.length_replicate, putN_length]; omega))) rfl ?_
  refine TO.w hn (.assign _) rfl (guard0 rfl) (lop_assign (agree hn) rfl) rfl ?_
  refine TO.nil ?_
  refine TC.ret ?_
  exact ⟨trivial, _, lres1 (agree hn) rfl, rfl, rfl⟩

end Go.Proofs.Ytcndgbaldjcdfaa
