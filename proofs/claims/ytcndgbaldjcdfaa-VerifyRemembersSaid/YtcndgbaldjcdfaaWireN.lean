/- Readers of bytes: numbers and texts. -/
import Derived.Test.YtcndgbaldjcdfaaWireB
namespace Go.Proofs.Ytcndgbaldjcdfaa
set_option maxHeartbeats 8000000
set_option maxRecDepth 100000
open Go Go.Lite
set_option linter.unusedSimpArgs false
set_option linter.unusedVariables false

theorem number_no {H : Hp} {r : Nat} {l : List UInt8} {n : Int} (h : Rd H r l) (h0 : n < 1 ∨ 8 < n ∨ (l.length : Int) < n) : CF Try.prog 29 [.pointer (some ⟨r, 0, none⟩), .int .i64 n] H fun v H' => v = .tuple #[.int .u64 0, .bool false] ∧ H' = H := by
  refine CF.go _ Try.func29 rfl ⟨Nat.le_of_ble_eq_true rfl, rfl⟩ fun base hb0 hn => ?_
  subst hb0
  by_cases h1 : n < 1
  ·
    refine TC.seq ?_
    refine TC.region (id := 0) ?_
    refine TO.w hn (.assign _) rfl (guard0 rfl) (lop_assign (agree hn) rfl) rfl ?_
    refine TO.w hn (.assign _) rfl (guard0 rfl) (lop_assign (agree hn) rfl) rfl ?_
    refine TO.nil ?_
    refine TC.scope ?_
    refine TC.seq ?_
    refine TC.seq ?_
    refine TC.region (id := 1) ?_
    refine TO.w hn (.move _) rfl (guard0 rfl) (lop_move (agree hn) rfl) rfl ?_
    refine TO.w hn (.binOp _ _ _ _ _) rfl (guard0 rfl) (lop_binT (agree hn) rfl rfl rfl (by exact decide_eq_true (by omega))) rfl ?_
    refine TO.w hn (.move _) rfl (guard0 rfl) (lop_move (agree hn) rfl) rfl ?_
    refine TO.woff hn (guardOff (agree hn) rfl rfl rfl rfl) rfl ?_
    refine TO.woff hn (guardOff (agree hn) rfl rfl rfl rfl) rfl ?_
    refine TO.w hn (.pick _ _ _) rfl (guard0 rfl) (lop_pickT (agree hn) rfl rfl rfl) rfl ?_
    refine TO.nil ?_
    refine TC.condT (agree hn) rfl rfl ?_
    refine TC.seq ?_
    refine TC.region (id := 2) ?_
    refine TO.w hn (.assign _) rfl (guard0 rfl) (lop_assign (agree hn) rfl) rfl ?_
    refine TO.w hn (.assign _) rfl (guard0 rfl) (lop_assign (agree hn) rfl) rfl ?_
    refine TO.nil ?_
    refine TC.ret ?_
    exact ⟨trivial, _, lresT (agree hn) rfl rfl, rfl, rfl⟩
  · by_cases h2 : 8 < n
    ·
      refine TC.seq ?_
      refine TC.region (id := 0) ?_
      refine TO.w hn (.assign _) rfl (guard0 rfl) (lop_assign (agree hn) rfl) rfl ?_
      refine TO.w hn (.assign _) rfl (guard0 rfl) (lop_assign (agree hn) rfl) rfl ?_
      refine TO.nil ?_
      refine TC.scope ?_
      refine TC.seq ?_
      refine TC.seq ?_
      refine TC.region (id := 1) ?_
      refine TO.w hn (.move _) rfl (guard0 rfl) (lop_move (agree hn) rfl) rfl ?_
      refine TO.w hn (.binOp _ _ _ _ _) rfl (guard0 rfl) (lop_binF (agree hn) rfl rfl rfl (by exact decide_eq_false (by omega))) rfl ?_
      refine TO.w hn (.move _) rfl (guard0 rfl) (lop_move (agree hn) rfl) rfl ?_
      refine TO.w hn (.move _) rfl (guardOn (agree hn) rfl rfl rfl rfl) (lop_move (agree hn) rfl) rfl ?_
      refine TO.w hn (.binOp _ _ _ _ _) rfl (guardOn (agree hn) rfl rfl rfl rfl) (lop_binT (agree hn) rfl rfl rfl (by exact decide_eq_true (by omega))) rfl ?_
      refine TO.w hn (.pick _ _ _) rfl (guard0 rfl) (lop_pickF (agree hn) rfl rfl rfl) rfl ?_
      refine TO.nil ?_
      refine TC.condT (agree hn) rfl rfl ?_
      refine TC.seq ?_
      refine TC.region (id := 2) ?_
      refine TO.w hn (.assign _) rfl (guard0 rfl) (lop_assign (agree hn) rfl) rfl ?_
      refine TO.w hn (.assign _) rfl (guard0 rfl) (lop_assign (agree hn) rfl) rfl ?_
      refine TO.nil ?_
      refine TC.ret ?_
      exact ⟨trivial, _, lresT (agree hn) rfl rfl, rfl, rfl⟩
    · have h3 := take_no (n := n) h (.inr (by omega))
      refine TC.seq ?_
      refine TC.region (id := 0) ?_
      refine TO.w hn (.assign _) rfl (guard0 rfl) (lop_assign (agree hn) rfl) rfl ?_
      refine TO.w hn (.assign _) rfl (guard0 rfl) (lop_assign (agree hn) rfl) rfl ?_
      refine TO.nil ?_
      refine TC.scope ?_
      refine TC.seq ?_
      refine TC.seq ?_
      refine TC.region (id := 1) ?_
      refine TO.w hn (.move _) rfl (guard0 rfl) (lop_move (agree hn) rfl) rfl ?_
      refine TO.w hn (.binOp _ _ _ _ _) rfl (guard0 rfl) (lop_binF (agree hn) rfl rfl rfl (by exact decide_eq_false (by omega))) rfl ?_
      refine TO.w hn (.move _) rfl (guard0 rfl) (lop_move (agree hn) rfl) rfl ?_
      refine TO.w hn (.move _) rfl (guardOn (agree hn) rfl rfl rfl rfl) (lop_move (agree hn) rfl) rfl ?_
      refine TO.w hn (.binOp _ _ _ _ _) rfl (guardOn (agree hn) rfl rfl rfl rfl) (lop_binF (agree hn) rfl rfl rfl (by exact decide_eq_false (by omega))) rfl ?_
      refine TO.w hn (.pick _ _ _) rfl (guard0 rfl) (lop_pickF (agree hn) rfl rfl rfl) rfl ?_
      refine TO.nil ?_
      refine TC.condF (agree hn) rfl rfl ?_
      refine TC.skip ?_
      refine TC.seq ?_
      refine TC.region (id := 3) ?_
      refine TO.w hn (.move _) rfl (guard0 rfl) (lop_move (agree hn) rfl) rfl ?_
      refine TO.w hn (.makeFunc _ _ _) rfl (guard0 rfl) (lop_mkfn (agree hn) rfl rfl) rfl ?_
      refine TO.w hn (.assign _) rfl (guard0 rfl) (lop_assign (agree hn) rfl) rfl ?_
      refine TO.nil ?_
      refine TC.seq ?_
      refine TC.region (id := 4) ?_
      refine TO.w hn (.move _) rfl (guard0 rfl) (lop_move (agree hn) rfl) rfl ?_
      refine TO.w hn (.move _) rfl (guard0 rfl) (lop_move (agree hn) rfl) rfl ?_
      (refine TO.wc hn (.call _) rfl (guard0 rfl) (lop_func (agree hn) rfl rfl rfl) rfl (CF.co noOwn rfl rfl h3) (fun v H2 hR => ?_); (obtain ⟨rfl, e2⟩ := hR; cases e2.symm))
      refine TO.w hn (.move _) rfl (guard0 rfl) (lop_move (agree hn) rfl) rfl ?_
      refine TO.w hn (.extract _ _) rfl (guard0 rfl) (lop_ex (agree hn) rfl rfl) rfl ?_
      refine TO.w hn (.extract _ _) rfl (guard0 rfl) (lop_ex (agree hn) rfl rfl) rfl ?_
      refine TO.w hn (.assign _) rfl (guard0 rfl) (lop_assign (agree hn) rfl) rfl ?_
      refine TO.w hn (.assign _) rfl (guard0 rfl) (lop_assign (agree hn) rfl) rfl ?_
      refine TO.nil ?_
      refine TC.seq ?_
      refine TC.seq ?_
      refine TC.region (id := 5) ?_
      refine TO.w hn (.move _) rfl (guard0 rfl) (lop_move (agree hn) rfl) rfl ?_
      refine TO.w hn (.unOp _ _ _) rfl (guard0 rfl) (lop_not0 (agree hn) rfl) rfl ?_
      refine TO.nil ?_
      refine TC.condT (agree hn) rfl rfl ?_
      refine TC.seq ?_
      refine TC.region (id := 6) ?_
      refine TO.w hn (.assign _) rfl (guard0 rfl) (lop_assign (agree hn) rfl) rfl ?_
      refine TO.w hn (.assign _) rfl (guard0 rfl) (lop_assign (agree hn) rfl) rfl ?_
      refine TO.nil ?_
      refine TC.ret ?_
      exact ⟨trivial, _, lresT (agree hn) rfl rfl, rfl, rfl⟩
theorem number_ok {H : Hp} {r : Nat} {l : List UInt8} {k : Nat} (h : Rd H r l) (h0 : 1 ≤ k) (h1 : k ≤ 8) (h2 : k ≤ l.length) : CF Try.prog 29 [.pointer (some ⟨r, 0, none⟩), .int .i64 (k : Nat)] H fun v H' =>
    v = .tuple #[.int .u64 (beN (l.take k) : Nat), .bool true] ∧ ∃ x, H' = H.set r x ∧ Rd H' r (l.drop k) := by
  refine CF.go _ Try.func29 rfl ⟨Nat.le_of_ble_eq_true rfl, rfl⟩ fun base hb0 hn => ?_
  subst hb0
  have h3 := take_ok (n := (k : Nat)) h (by omega) (by omega)
  refine TC.seq ?_
  refine TC.region (id := 0) ?_
  refine TO.w hn (.assign _) rfl (guard0 rfl) (lop_assign (agree hn) rfl) rfl ?_
  refine TO.w hn (.assign _) rfl (guard0 rfl) (lop_assign (agree hn) rfl) rfl ?_
  refine TO.nil ?_
  refine TC.scope ?_
  refine TC.seq ?_
  refine TC.seq ?_
  refine TC.region (id := 1) ?_
  refine TO.w hn (.move _) rfl (guard0 rfl) (lop_move (agree hn) rfl) rfl ?_
  refine TO.w hn (.binOp _ _ _ _ _) rfl (guard0 rfl) (lop_binF (agree hn) rfl rfl rfl (by exact decide_eq_false (by omega))) rfl ?_
  refine TO.w hn (.move _) rfl (guard0 rfl) (lop_move (agree hn) rfl) rfl ?_
  refine TO.w hn (.move _) rfl (guardOn (agree hn) rfl rfl rfl rfl) (lop_move (agree hn) rfl) rfl ?_
  refine TO.w hn (.binOp _ _ _ _ _) rfl (guardOn (agree hn) rfl rfl rfl rfl) (lop_binF (agree hn) rfl rfl rfl (by exact decide_eq_false (by omega))) rfl ?_
  refine TO.w hn (.pick _ _ _) rfl (guard0 rfl) (lop_pickF (agree hn) rfl rfl rfl) rfl ?_
  refine TO.nil ?_
  refine TC.condF (agree hn) rfl rfl ?_
  refine TC.skip ?_
  refine TC.seq ?_
  refine TC.region (id := 3) ?_
  refine TO.w hn (.move _) rfl (guard0 rfl) (lop_move (agree hn) rfl) rfl ?_
  refine TO.w hn (.makeFunc _ _ _) rfl (guard0 rfl) (lop_mkfn (agree hn) rfl rfl) rfl ?_
  refine TO.w hn (.assign _) rfl (guard0 rfl) (lop_assign (agree hn) rfl) rfl ?_
  refine TO.nil ?_
  refine TC.seq ?_
  refine TC.region (id := 4) ?_
  refine TO.w hn (.move _) rfl (guard0 rfl) (lop_move (agree hn) rfl) rfl ?_
  refine TO.w hn (.move _) rfl (guard0 rfl) (lop_move (agree hn) rfl) rfl ?_
  (refine TO.wc hn (.call _) rfl (guard0 rfl) (lop_func (agree hn) rfl rfl rfl) rfl (CF.co noOwn rfl rfl h3) (fun v H2 hR => ?_); obtain ⟨rfl, x, rfl, hx⟩ := hR)
  refine TO.w hn (.move _) rfl (guard0 rfl) (lop_move (agree hn) rfl) rfl ?_
  refine TO.w hn (.extract _ _) rfl (guard0 rfl) (lop_ex (agree hn) rfl rfl) rfl ?_
  refine TO.w hn (.extract _ _) rfl (guard0 rfl) (lop_ex (agree hn) rfl rfl) rfl ?_
  refine TO.w hn (.assign _) rfl (guard0 rfl) (lop_assign (agree hn) rfl) rfl ?_
  refine TO.w hn (.assign _) rfl (guard0 rfl) (lop_assign (agree hn) rfl) rfl ?_
  refine TO.nil ?_
  refine TC.seq ?_
  refine TC.seq ?_
  refine TC.region (id := 5) ?_
  refine TO.w hn (.move _) rfl (guard0 rfl) (lop_move (agree hn) rfl) rfl ?_
  refine TO.w hn (.unOp _ _ _) rfl (guard0 rfl) (lop_not1 (agree hn) rfl) rfl ?_
  refine TO.nil ?_
  refine TC.condF (agree hn) rfl rfl ?_
  refine TC.skip ?_
  refine TC.seq ?_
  refine TC.region (id := 7) ?_
  refine TO.w hn (.assign _) rfl (guard0 rfl) (lop_assign (agree hn) rfl) rfl ?_
  refine TO.nil ?_
  refine TC.seq ?_
  refine TC.label ?_
  refine TC.seq ?_
  refine TC.seq ?_
  refine TC.region (id := 8) ?_
  refine TO.w hn (.move _) rfl (guard0 rfl) (lop_move (agree hn) rfl) rfl ?_
  refine TO.nil ?_
  refine TC.block ?_
  have hs : (l.take k).length = k := by rw [List.length_take]; omega
  generalize hse : l.take k = s at hs
  refine TC.loopI (fun m fr H' => ∃ i, i + m = 8 ∧ i ≤ k ∧ fr.length = 43 ∧ Facts fr [(7, S s), (9, .int .u64 (beN (s.take i) : Nat)), (27, .int .i64 (i : Nat))] ∧ H' = H.set r x) 8
    ⟨0, by omega, by omega, (mkF_length _ _).trans hn, Facts.of (agree hn) ⟨congrArg (fun z => some (S z)) hse, rfl, rfl, trivial⟩, rfl⟩ ?_
  rintro m fr H' ⟨i, hi, hik, hn, hf, rfl⟩
  refine TC.facts _ hf ?_
  have hend : i = k → beN (s.take i) = beN s := fun e => by rw [List.take_of_length_le (by omega)]
  by_cases h8 : i = 8
  · subst h8
    refine TC.seq ?_
    refine TC.region (id := 9) ?_
    refine TO.w hn (.binOp _ _ _ _ _) rfl (guard0 rfl) (lop_binF (agree hn) rfl rfl rfl (by exact decide_eq_false (by omega))) rfl ?_
    refine TO.nil ?_
    refine TC.seq ?_
    refine TC.condF (agree hn) rfl rfl ?_
    refine TC.exit ?_
    refine TC.seq ?_
    refine TC.region (id := 14) ?_
    refine TO.w hn (.move _) rfl (guard0 rfl) (lop_move (agree hn) rfl) rfl ?_
    refine TO.w hn (.assign _) rfl (guard0 rfl) (lop_assign (agree hn) rfl) rfl ?_
    refine TO.w hn (.assign _) rfl (guard0 rfl) (lop_assign (agree hn) rfl) rfl ?_
    refine TO.nil ?_
    refine TC.ret ?_
    refine ⟨trivial, _, lresT (agree hn) rfl rfl, ?_, x, rfl, hx⟩
    rw [← hend (by omega)]
  · by_cases hk : i = k
    ·
      refine TC.seq ?_
      refine TC.region (id := 9) ?_
      refine TO.w hn (.binOp _ _ _ _ _) rfl (guard0 rfl) (lop_binT (agree hn) rfl rfl rfl (by exact decide_eq_true (by omega))) rfl ?_
      refine TO.nil ?_
      refine TC.seq ?_
      refine TC.condT (agree hn) rfl rfl ?_
      refine TC.skip ?_
      refine TC.seq ?_
      refine TC.block ?_
      refine TC.seq ?_
      refine TC.region (id := 10) ?_
      refine TO.w hn (.move _) rfl (guard0 rfl) (lop_move (agree hn) rfl) rfl ?_
      refine TO.w hn (.assign _) rfl (guard0 rfl) (lop_assign (agree hn) rfl) rfl ?_
      refine TO.nil ?_
      refine TC.seq ?_
      refine TC.seq ?_
      refine TC.region (id := 11) ?_
      refine TO.w hn (.move _) rfl (guard0 rfl) (lop_move (agree hn) rfl) rfl ?_
      refine TO.w hn (.move _) rfl (guard0 rfl) (lop_move (agree hn) rfl) rfl ?_
      refine TO.w hn (.call _) rfl (guard0 rfl) (lop_built (agree hn) rfl rfl (lbuiltin_lenS rfl)) rfl ?_
      refine TO.w hn (.binOp _ _ _ _ _) rfl (guard0 rfl) (lop_binT (agree hn) rfl rfl rfl (by exact decide_eq_true (by omega))) rfl ?_
      refine TO.nil ?_
      refine TC.condT (agree hn) rfl rfl ?_
      refine TC.exit ?_
      refine TC.seq ?_
      refine TC.region (id := 14) ?_
      refine TO.w hn (.move _) rfl (guard0 rfl) (lop_move (agree hn) rfl) rfl ?_
      refine TO.w hn (.assign _) rfl (guard0 rfl) (lop_assign (agree hn) rfl) rfl ?_
      refine TO.w hn (.assign _) rfl (guard0 rfl) (lop_assign (agree hn) rfl) rfl ?_
      refine TO.nil ?_
      refine TC.ret ?_
      refine ⟨trivial, _, lresT (agree hn) rfl rfl, ?_, x, rfl, hx⟩
      rw [← hend (by omega)]
    · obtain ⟨c, hc⟩ : ∃ c, s[i]? = some c := ⟨s[i], List.getElem?_eq_getElem (by omega)⟩
      refine TC.seq ?_
      refine TC.region (id := 9) ?_
      refine TO.w hn (.binOp _ _ _ _ _) rfl (guard0 rfl) (lop_binT (agree hn) rfl rfl rfl (by exact decide_eq_true (by omega))) rfl ?_
      refine TO.nil ?_
      refine TC.seq ?_
      refine TC.condT (agree hn) rfl rfl ?_
      refine TC.skip ?_
      refine TC.seq ?_
      refine TC.block ?_
      refine TC.seq ?_
      refine TC.region (id := 10) ?_
      refine TO.w hn (.move _) rfl (guard0 rfl) (lop_move (agree hn) rfl) rfl ?_
      refine TO.w hn (.assign _) rfl (guard0 rfl) (lop_assign (agree hn) rfl) rfl ?_
      refine TO.nil ?_
      refine TC.seq ?_
      refine TC.seq ?_
      refine TC.region (id := 11) ?_
      refine TO.w hn (.move _) rfl (guard0 rfl) (lop_move (agree hn) rfl) rfl ?_
      refine TO.w hn (.move _) rfl (guard0 rfl) (lop_move (agree hn) rfl) rfl ?_
      refine TO.w hn (.call _) rfl (guard0 rfl) (lop_built (agree hn) rfl rfl (lbuiltin_lenS rfl)) rfl ?_
      refine TO.w hn (.binOp _ _ _ _ _) rfl (guard0 rfl) (lop_binF (agree hn) rfl rfl rfl (by exact decide_eq_false (by omega))) rfl ?_
      refine TO.nil ?_
      refine TC.condF (agree hn) rfl rfl ?_
      refine TC.skip ?_
      refine TC.region (id := 12) ?_
      refine TO.w hn (.move _) rfl (guard0 rfl) (lop_move (agree hn) rfl) rfl ?_
      refine TO.w hn (.binOp _ _ _ _ _) rfl (guard0 rfl) (lop_bin (agree hn) rfl rfl rfl) rfl ?_
      refine TO.w hn (.move _) rfl (guard0 rfl) (lop_move (agree hn) rfl) rfl ?_
      refine TO.w hn (.move _) rfl (guard0 rfl) (lop_move (agree hn) rfl) rfl ?_
      refine TO.w hn (.index _ _ _) rfl (guard0 rfl) (lop_ixS (agree hn) rfl rfl rfl (by omega) (by assumption)) rfl ?_
      refine TO.w hn (.convert _ _ _) rfl (guard0 rfl) (lop_conv (agree hn) rfl rfl) rfl ?_
      refine TO.w hn (.binOp _ _ _ _ _) rfl (guard0 rfl) (lop_bin (agree hn) rfl rfl rfl) rfl ?_
      refine TO.w hn (.assign _) rfl (guard0 rfl) (lop_assign (agree hn) rfl) rfl ?_
      refine TO.nil ?_
      refine TC.region (id := 13) ?_
      refine TO.w hn (.binOp _ _ _ _ _) rfl (guard0 rfl) (lop_binI (agree hn) rfl rfl rfl rfl (by omega) (by omega)) rfl ?_
      refine TO.w hn (.move _) rfl (guard0 rfl) (lop_move (agree hn) rfl) rfl ?_
      refine TO.nil ?_
      refine ⟨m - 1, by omega, i + 1, by omega, by omega, (mkF_length _ _).trans hn, Facts.of (agree hn) ⟨rfl, ?_, ?_, trivial⟩, rfl⟩
      · show some (Value.int IntKind.u64 _) = some (Value.int IntKind.u64 _)
        rw [take_succ' hc, beN_snoc, shl_or]
        have h1 := beN_lt (s.take i)
        have h2 : 256 ^ (s.take i).length ≤ 256 ^ 7 := Nat.pow_le_pow_right (by omega) (by rw [List.length_take]; omega)
        omega
      · show some (Value.int IntKind.i64 _) = some (Value.int IntKind.i64 _)
        rfl
end Go.Proofs.Ytcndgbaldjcdfaa
