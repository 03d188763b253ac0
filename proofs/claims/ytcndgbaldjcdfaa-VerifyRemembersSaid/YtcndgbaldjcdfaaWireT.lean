/- Readers of bytes: texts. -/
import Derived.Test.YtcndgbaldjcdfaaWireN
namespace Go.Proofs.Ytcndgbaldjcdfaa
set_option maxHeartbeats 8000000
set_option maxRecDepth 100000
open Go Go.Lite
set_option linter.unusedSimpArgs false
set_option linter.unusedVariables false

theorem beN4_lt (l : List UInt8) : beN (l.take 4) < 4294967296 := by
  have h1 := beN_lt (l.take 4)
  have h2 : 256 ^ (l.take 4).length ≤ 256 ^ 4 := Nat.pow_le_pow_right (by omega) (by rw [List.length_take]; omega)
  omega
/-- May a text be taken? -/
def textOk (l : List UInt8) (most : Int) : Prop := 0 ≤ most ∧ 4 ≤ l.length ∧ (beN (l.take 4) : Int) ≤ most ∧ beN (l.take 4) + 4 ≤ l.length

theorem text_no {H : Hp} {r : Nat} {l : List UInt8} {n : Int} (h : Rd H r l) (h9 : n ≤ 9223372036854775807) (hl9 : l.length ≤ 4611686018427387904) (h0 : ¬ textOk l n) : CF Try.prog 35 [.pointer (some ⟨r, 0, none⟩), .int .i64 n] H fun v H' => v = .tuple #[S [], .bool false] ∧ ∃ x, H' = H.set r x ∧ Rd H' r l := by
  have hb := beN4_lt l
  unfold textOk at h0
  have hh := h
  obtain ⟨b, o, m, c, L, h1, h2, h3, h4, h5⟩ := h
  have h6 : l.length = m := by rw [h4, List.length_drop]; omega
  have hback : ∀ x, Rd ((H.set r x).set r (.cells true 1 [.slice (some ⟨b, o, none⟩) m c])) r l := fun x => ⟨b, o, m, c, L, set_self _ _ _, (set_other _ h5.1).trans ((set_other _ h5.1).trans h2), h3, h4, h5⟩
  have hsame : ∃ x, H = H.set r x ∧ Rd H r l := ⟨_, (set_same_hp h1).symm, hh⟩
  refine CF.go _ Try.func35 rfl ⟨Nat.le_of_ble_eq_true rfl, rfl⟩ fun base hb0 hn => ?_
  subst hb0
  by_cases hneg : n < 0
  ·
    refine TC.seq ?_
    refine TC.region (id := 0) ?_
    refine TO.w hn (.assign _) rfl (guard0 rfl) (lop_assign (agree hn) rfl) rfl ?_
    refine TO.w hn (.assign _) rfl (guard0 rfl) (lop_assign (agree hn) rfl) rfl ?_
    refine TO.nil ?_
    refine TC.seq ?_
    refine TC.seq ?_
    refine TC.region (id := 1) ?_
    refine TO.w hn (.move _) rfl (guard0 rfl) (lop_move (agree hn) rfl) rfl ?_
    refine TO.w hn (.binOp _ _ _ _ _) rfl (guard0 rfl) (lop_binF (agree hn) rfl rfl rfl (by with_reducible rfl)) rfl ?_
    refine TO.w hn (.move _) rfl (guard0 rfl) (lop_move (agree hn) rfl) rfl ?_
    refine TO.w hn (.move _) rfl (guardOn (agree hn) rfl rfl rfl rfl) (lop_move (agree hn) rfl) rfl ?_
    refine TO.w hn (.binOp _ _ _ _ _) rfl (guardOn (agree hn) rfl rfl rfl rfl) (lop_binT (agree hn) rfl rfl rfl (by exact decide_eq_true (by omega))) rfl ?_
    refine TO.w hn (.pick _ _ _) rfl (guard0 rfl) (lop_pickF (agree hn) rfl rfl rfl) rfl ?_
    refine TO.nil ?_
    refine TC.condT (agree hn) rfl rfl ?_
    refine TC.seq ?_
    refine TC.region (id := 2) ?_
    refine TO.w hn (.assign _) rfl (guard0 rfl) (lop_assign (agree hn) rfl) rfl ?_
    refine TO.w hn (.assign _) rfl (guard0 rfl) (lop_assign (agree hn) rfl) rfl ?_
    refine TO.nil ?_
    refine TC.ret ?_
    exact ⟨trivial, _, lresT (agree hn) rfl rfl, rfl, hsame⟩
  · by_cases h4l : (l.length : Int) < 4
    · have hnum := number_no (n := 4) hh (.inr (.inr h4l))
      refine TC.seq ?_
      refine TC.region (id := 0) ?_
      refine TO.w hn (.assign _) rfl (guard0 rfl) (lop_assign (agree hn) rfl) rfl ?_
      refine TO.w hn (.assign _) rfl (guard0 rfl) (lop_assign (agree hn) rfl) rfl ?_
      refine TO.nil ?_
      refine TC.seq ?_
      refine TC.seq ?_
      refine TC.region (id := 1) ?_
      refine TO.w hn (.move _) rfl (guard0 rfl) (lop_move (agree hn) rfl) rfl ?_
      refine TO.w hn (.binOp _ _ _ _ _) rfl (guard0 rfl) (lop_binF (agree hn) rfl rfl rfl (by with_reducible rfl)) rfl ?_
      refine TO.w hn (.move _) rfl (guard0 rfl) (lop_move (agree hn) rfl) rfl ?_
      refine TO.w hn (.move _) rfl (guardOn (agree hn) rfl rfl rfl rfl) (lop_move (agree hn) rfl) rfl ?_
      refine TO.w hn (.binOp _ _ _ _ _) rfl (guardOn (agree hn) rfl rfl rfl rfl) (lop_binF (agree hn) rfl rfl rfl (by exact decide_eq_false (by omega))) rfl ?_
      refine TO.w hn (.pick _ _ _) rfl (guard0 rfl) (lop_pickF (agree hn) rfl rfl rfl) rfl ?_
      refine TO.nil ?_
      refine TC.condF (agree hn) rfl rfl ?_
      refine TC.skip ?_
      refine TC.seq ?_
      refine TC.region (id := 3) ?_
      refine TO.w hn (.move _) rfl (guard0 rfl) (lop_move (agree hn) rfl) rfl ?_
      refine TO.w hn (.nilCheck _) rfl (guard0 rfl) (lop_nil (agree hn) rfl rfl) rfl ?_
      refine TO.w hn (.fieldAddr _ _ _) rfl (guard0 rfl) (lop_fa (agree hn) rfl rfl) rfl ?_
      refine TO.w hn (.load _ _) rfl (guard0 rfl) (lop_load (agree hn) rfl (by assumption) rfl rfl) rfl ?_
      refine TO.w hn (.assign _) rfl (guard0 rfl) (lop_assign (agree hn) rfl) rfl ?_
      refine TO.nil ?_
      refine TC.seq ?_
      refine TC.region (id := 4) ?_
      refine TO.w hn (.move _) rfl (guard0 rfl) (lop_move (agree hn) rfl) rfl ?_
      (refine TO.wc hn (.call _) rfl (guard0 rfl) (lop_func (agree hn) rfl rfl rfl) rfl (CF.co noOwn rfl rfl hnum) (fun v H2 hR => ?_); (obtain ⟨rfl, e2⟩ := hR; cases e2.symm))
      refine TO.w hn (.move _) rfl (guard0 rfl) (lop_move (agree hn) rfl) rfl ?_
      refine TO.w hn (.extract _ _) rfl (guard0 rfl) (lop_ex (agree hn) rfl rfl) rfl ?_
      refine TO.w hn (.extract _ _) rfl (guard0 rfl) (lop_ex (agree hn) rfl rfl) rfl ?_
      refine TO.w hn (.assign _) rfl (guard0 rfl) (lop_assign (agree hn) rfl) rfl ?_
      refine TO.w hn (.assign _) rfl (guard0 rfl) (lop_assign (agree hn) rfl) rfl ?_
      refine TO.nil ?_
      refine TC.seq ?_
      refine TC.seq ?_
      refine TC.region (id := 5) ?_
      refine TO.w hn (.move _) rfl (guard0 rfl) (lop_move (agree hn) rfl) rfl ?_
      refine TO.w hn (.unOp _ _ _) rfl (guard0 rfl) (lop_not0 (agree hn) rfl) rfl ?_
      refine TO.w hn (.move _) rfl (guard0 rfl) (lop_move (agree hn) rfl) rfl ?_
      refine TO.woff hn (guardOff (agree hn) rfl rfl rfl rfl) rfl ?_
      refine TO.woff hn (guardOff (agree hn) rfl rfl rfl rfl) rfl ?_
      refine TO.woff hn (guardOff (agree hn) rfl rfl rfl rfl) rfl ?_
      refine TO.woff hn (guardOff (agree hn) rfl rfl rfl rfl) rfl ?_
      refine TO.w hn (.pick _ _ _) rfl (guard0 rfl) (lop_pickT (agree hn) rfl rfl rfl) rfl ?_
      refine TO.w hn (.move _) rfl (guard0 rfl) (lop_move (agree hn) rfl) rfl ?_
      refine TO.woff hn (guardOff (agree hn) rfl rfl rfl rfl) rfl ?_
      refine TO.woff hn (guardOff (agree hn) rfl rfl rfl rfl) rfl ?_
      refine TO.woff hn (guardOff (agree hn) rfl rfl rfl rfl) rfl ?_
      refine TO.woff hn (guardOff (agree hn) rfl rfl rfl rfl) rfl ?_
      refine TO.woff hn (guardOff (agree hn) rfl rfl rfl rfl) rfl ?_
      refine TO.w hn (.pick _ _ _) rfl (guard0 rfl) (lop_pickT (agree hn) rfl rfl rfl) rfl ?_
      refine TO.nil ?_
      refine TC.condT (agree hn) rfl rfl ?_
      refine TC.seq ?_
      refine TC.region (id := 6) ?_
      refine TO.w hn (.move _) rfl (guard0 rfl) (lop_move (agree hn) rfl) rfl ?_
      refine TO.w hn (.move _) rfl (guard0 rfl) (lop_move (agree hn) rfl) rfl ?_
      refine TO.w hn (.nilCheck _) rfl (guard0 rfl) (lop_nil (agree hn) rfl rfl) rfl ?_
      refine TO.w hn (.fieldAddr _ _ _) rfl (guard0 rfl) (lop_fa (agree hn) rfl rfl) rfl ?_
      refine TO.w0 hn (.store _ _ _) rfl (guard0 rfl) (lop_store (agree hn) rfl rfl (by assumption) rfl rfl rfl) rfl ?_
      refine TO.nil ?_
      refine TC.seq ?_
      refine TC.region (id := 7) ?_
      refine TO.w hn (.assign _) rfl (guard0 rfl) (lop_assign (agree hn) rfl) rfl ?_
      refine TO.w hn (.assign _) rfl (guard0 rfl) (lop_assign (agree hn) rfl) rfl ?_
      refine TO.nil ?_
      refine TC.ret ?_
      refine ⟨trivial, _, lresT (agree hn) rfl rfl, rfl, ?_⟩
      exact ⟨_, rfl, b, o, m, c, L, set_self _ _ _, (set_other _ h5.1).trans h2, h3, h4, h5⟩
    · have hnum := number_ok (k := 4) hh (by omega) (by omega) (by omega)
      generalize hN : beN (l.take 4) = N at *
      by_cases hm : n < N
      ·
        refine TC.seq ?_
        refine TC.region (id := 0) ?_
        refine TO.w hn (.assign _) rfl (guard0 rfl) (lop_assign (agree hn) rfl) rfl ?_
        refine TO.w hn (.assign _) rfl (guard0 rfl) (lop_assign (agree hn) rfl) rfl ?_
        refine TO.nil ?_
        refine TC.seq ?_
        refine TC.seq ?_
        refine TC.region (id := 1) ?_
        refine TO.w hn (.move _) rfl (guard0 rfl) (lop_move (agree hn) rfl) rfl ?_
        refine TO.w hn (.binOp _ _ _ _ _) rfl (guard0 rfl) (lop_binF (agree hn) rfl rfl rfl (by with_reducible rfl)) rfl ?_
        refine TO.w hn (.move _) rfl (guard0 rfl) (lop_move (agree hn) rfl) rfl ?_
        refine TO.w hn (.move _) rfl (guardOn (agree hn) rfl rfl rfl rfl) (lop_move (agree hn) rfl) rfl ?_
        refine TO.w hn (.binOp _ _ _ _ _) rfl (guardOn (agree hn) rfl rfl rfl rfl) (lop_binF (agree hn) rfl rfl rfl (by exact decide_eq_false (by omega))) rfl ?_
        refine TO.w hn (.pick _ _ _) rfl (guard0 rfl) (lop_pickF (agree hn) rfl rfl rfl) rfl ?_
        refine TO.nil ?_
        refine TC.condF (agree hn) rfl rfl ?_
        refine TC.skip ?_
        refine TC.seq ?_
        refine TC.region (id := 3) ?_
        refine TO.w hn (.move _) rfl (guard0 rfl) (lop_move (agree hn) rfl) rfl ?_
        refine TO.w hn (.nilCheck _) rfl (guard0 rfl) (lop_nil (agree hn) rfl rfl) rfl ?_
        refine TO.w hn (.fieldAddr _ _ _) rfl (guard0 rfl) (lop_fa (agree hn) rfl rfl) rfl ?_
        refine TO.w hn (.load _ _) rfl (guard0 rfl) (lop_load (agree hn) rfl (by assumption) rfl rfl) rfl ?_
        refine TO.w hn (.assign _) rfl (guard0 rfl) (lop_assign (agree hn) rfl) rfl ?_
        refine TO.nil ?_
        refine TC.seq ?_
        refine TC.region (id := 4) ?_
        refine TO.w hn (.move _) rfl (guard0 rfl) (lop_move (agree hn) rfl) rfl ?_
        (refine TO.wc hn (.call _) rfl (guard0 rfl) (lop_func (agree hn) rfl rfl rfl) rfl (CF.co noOwn rfl rfl hnum) (fun v H2 hR => ?_); obtain ⟨rfl, x, rfl, b', o', n', c', L', g1, g2, g3, g4, g5⟩ := hR)
        refine TO.w hn (.move _) rfl (guard0 rfl) (lop_move (agree hn) rfl) rfl ?_
        refine TO.w hn (.extract _ _) rfl (guard0 rfl) (lop_ex (agree hn) rfl rfl) rfl ?_
        refine TO.w hn (.extract _ _) rfl (guard0 rfl) (lop_ex (agree hn) rfl rfl) rfl ?_
        refine TO.w hn (.assign _) rfl (guard0 rfl) (lop_assign (agree hn) rfl) rfl ?_
        refine TO.w hn (.assign _) rfl (guard0 rfl) (lop_assign (agree hn) rfl) rfl ?_
        refine TO.nil ?_
        refine TC.seq ?_
        refine TC.seq ?_
        refine TC.region (id := 5) ?_
        refine TO.w hn (.move _) rfl (guard0 rfl) (lop_move (agree hn) rfl) rfl ?_
        refine TO.w hn (.unOp _ _ _) rfl (guard0 rfl) (lop_not1 (agree hn) rfl) rfl ?_
        refine TO.w hn (.move _) rfl (guard0 rfl) (lop_move (agree hn) rfl) rfl ?_
        refine TO.w hn (.move _) rfl (guardOn (agree hn) rfl rfl rfl rfl) (lop_move (agree hn) rfl) rfl ?_
        refine TO.w hn (.move _) rfl (guardOn (agree hn) rfl rfl rfl rfl) (lop_move (agree hn) rfl) rfl ?_
        refine TO.w hn (.convert _ _ _) rfl (guardOn (agree hn) rfl rfl rfl rfl) (lop_convI (agree hn) rfl rfl rfl (by omega) (by omega)) rfl ?_
        refine TO.w hn (.binOp _ _ _ _ _) rfl (guardOn (agree hn) rfl rfl rfl rfl) (lop_binT (agree hn) rfl rfl rfl (by exact decide_eq_true (by omega))) rfl ?_
        refine TO.w hn (.pick _ _ _) rfl (guard0 rfl) (lop_pickF (agree hn) rfl rfl rfl) rfl ?_
        refine TO.w hn (.move _) rfl (guard0 rfl) (lop_move (agree hn) rfl) rfl ?_
        refine TO.woff hn (guardOff (agree hn) rfl rfl rfl rfl) rfl ?_
        refine TO.woff hn (guardOff (agree hn) rfl rfl rfl rfl) rfl ?_
        refine TO.woff hn (guardOff (agree hn) rfl rfl rfl rfl) rfl ?_
        refine TO.woff hn (guardOff (agree hn) rfl rfl rfl rfl) rfl ?_
        refine TO.woff hn (guardOff (agree hn) rfl rfl rfl rfl) rfl ?_
        refine TO.w hn (.pick _ _ _) rfl (guard0 rfl) (lop_pickT (agree hn) rfl rfl rfl) rfl ?_
        refine TO.nil ?_
        refine TC.condT (agree hn) rfl rfl ?_
        refine TC.seq ?_
        refine TC.region (id := 6) ?_
        refine TO.w hn (.move _) rfl (guard0 rfl) (lop_move (agree hn) rfl) rfl ?_
        refine TO.w hn (.move _) rfl (guard0 rfl) (lop_move (agree hn) rfl) rfl ?_
        refine TO.w hn (.nilCheck _) rfl (guard0 rfl) (lop_nil (agree hn) rfl rfl) rfl ?_
        refine TO.w hn (.fieldAddr _ _ _) rfl (guard0 rfl) (lop_fa (agree hn) rfl rfl) rfl ?_
        refine TO.w0 hn (.store _ _ _) rfl (guard0 rfl) (lop_store (agree hn) rfl rfl (by assumption) rfl rfl rfl) rfl ?_
        refine TO.nil ?_
        refine TC.seq ?_
        refine TC.region (id := 7) ?_
        refine TO.w hn (.assign _) rfl (guard0 rfl) (lop_assign (agree hn) rfl) rfl ?_
        refine TO.w hn (.assign _) rfl (guard0 rfl) (lop_assign (agree hn) rfl) rfl ?_
        refine TO.nil ?_
        refine TC.ret ?_
        refine ⟨trivial, _, lresT (agree hn) rfl rfl, rfl, ?_⟩
        exact ⟨_, set_set _ _ _ _, hback x⟩
      · have hleft : ∀ H2, Rd H2 r (l.drop 4) → CO Try.prog 37 [.pointer (some ⟨r, 0, none⟩)] H2 fun v H' => v = .int .i64 (l.length - 4 : Nat) ∧ H' = H2 := fun H2 h => by
          have := CF.co noOwn rfl rfl (left_CF h)
          rw [List.length_drop] at this
          exact this
        refine TC.seq ?_
        refine TC.region (id := 0) ?_
        refine TO.w hn (.assign _) rfl (guard0 rfl) (lop_assign (agree hn) rfl) rfl ?_
        refine TO.w hn (.assign _) rfl (guard0 rfl) (lop_assign (agree hn) rfl) rfl ?_
        refine TO.nil ?_
        refine TC.seq ?_
        refine TC.seq ?_
        refine TC.region (id := 1) ?_
        refine TO.w hn (.move _) rfl (guard0 rfl) (lop_move (agree hn) rfl) rfl ?_
        refine TO.w hn (.binOp _ _ _ _ _) rfl (guard0 rfl) (lop_binF (agree hn) rfl rfl rfl (by with_reducible rfl)) rfl ?_
        refine TO.w hn (.move _) rfl (guard0 rfl) (lop_move (agree hn) rfl) rfl ?_
        refine TO.w hn (.move _) rfl (guardOn (agree hn) rfl rfl rfl rfl) (lop_move (agree hn) rfl) rfl ?_
        refine TO.w hn (.binOp _ _ _ _ _) rfl (guardOn (agree hn) rfl rfl rfl rfl) (lop_binF (agree hn) rfl rfl rfl (by exact decide_eq_false (by omega))) rfl ?_
        refine TO.w hn (.pick _ _ _) rfl (guard0 rfl) (lop_pickF (agree hn) rfl rfl rfl) rfl ?_
        refine TO.nil ?_
        refine TC.condF (agree hn) rfl rfl ?_
        refine TC.skip ?_
        refine TC.seq ?_
        refine TC.region (id := 3) ?_
        refine TO.w hn (.move _) rfl (guard0 rfl) (lop_move (agree hn) rfl) rfl ?_
        refine TO.w hn (.nilCheck _) rfl (guard0 rfl) (lop_nil (agree hn) rfl rfl) rfl ?_
        refine TO.w hn (.fieldAddr _ _ _) rfl (guard0 rfl) (lop_fa (agree hn) rfl rfl) rfl ?_
        refine TO.w hn (.load _ _) rfl (guard0 rfl) (lop_load (agree hn) rfl (by assumption) rfl rfl) rfl ?_
        refine TO.w hn (.assign _) rfl (guard0 rfl) (lop_assign (agree hn) rfl) rfl ?_
        refine TO.nil ?_
        refine TC.seq ?_
        refine TC.region (id := 4) ?_
        refine TO.w hn (.move _) rfl (guard0 rfl) (lop_move (agree hn) rfl) rfl ?_
        (refine TO.wc hn (.call _) rfl (guard0 rfl) (lop_func (agree hn) rfl rfl rfl) rfl (CF.co noOwn rfl rfl hnum) (fun v H2 hR => ?_); obtain ⟨rfl, x, rfl, hx⟩ := hR; have hxx := hx; obtain ⟨b', o', n', c', L', g1, g2, g3, g4, g5⟩ := hxx)
        refine TO.w hn (.move _) rfl (guard0 rfl) (lop_move (agree hn) rfl) rfl ?_
        refine TO.w hn (.extract _ _) rfl (guard0 rfl) (lop_ex (agree hn) rfl rfl) rfl ?_
        refine TO.w hn (.extract _ _) rfl (guard0 rfl) (lop_ex (agree hn) rfl rfl) rfl ?_
        refine TO.w hn (.assign _) rfl (guard0 rfl) (lop_assign (agree hn) rfl) rfl ?_
        refine TO.w hn (.assign _) rfl (guard0 rfl) (lop_assign (agree hn) rfl) rfl ?_
        refine TO.nil ?_
        refine TC.seq ?_
        refine TC.seq ?_
        refine TC.region (id := 5) ?_
        refine TO.w hn (.move _) rfl (guard0 rfl) (lop_move (agree hn) rfl) rfl ?_
        refine TO.w hn (.unOp _ _ _) rfl (guard0 rfl) (lop_not1 (agree hn) rfl) rfl ?_
        refine TO.w hn (.move _) rfl (guard0 rfl) (lop_move (agree hn) rfl) rfl ?_
        refine TO.w hn (.move _) rfl (guardOn (agree hn) rfl rfl rfl rfl) (lop_move (agree hn) rfl) rfl ?_
        refine TO.w hn (.move _) rfl (guardOn (agree hn) rfl rfl rfl rfl) (lop_move (agree hn) rfl) rfl ?_
        refine TO.w hn (.convert _ _ _) rfl (guardOn (agree hn) rfl rfl rfl rfl) (lop_convI (agree hn) rfl rfl rfl (by omega) (by omega)) rfl ?_
        refine TO.w hn (.binOp _ _ _ _ _) rfl (guardOn (agree hn) rfl rfl rfl rfl) (lop_binF (agree hn) rfl rfl rfl (by exact decide_eq_false (by omega))) rfl ?_
        refine TO.w hn (.pick _ _ _) rfl (guard0 rfl) (lop_pickF (agree hn) rfl rfl rfl) rfl ?_
        refine TO.w hn (.move _) rfl (guard0 rfl) (lop_move (agree hn) rfl) rfl ?_
        refine TO.w hn (.move _) rfl (guardOn (agree hn) rfl rfl rfl rfl) (lop_move (agree hn) rfl) rfl ?_
        refine TO.w hn (.move _) rfl (guardOn (agree hn) rfl rfl rfl rfl) (lop_move (agree hn) rfl) rfl ?_
        (refine TO.wc hn (.call _) rfl (guardOn (agree hn) rfl rfl rfl rfl) (lop_func (agree hn) rfl rfl rfl) rfl (hleft _ hx) (fun v H2 hR => ?_); (obtain ⟨rfl, e2⟩ := hR; cases e2.symm))
        refine TO.w hn (.convert _ _ _) rfl (guardOn (agree hn) rfl rfl rfl rfl) (lop_convI (agree hn) rfl rfl rfl (by omega) (by omega)) rfl ?_
        refine TO.w hn (.binOp _ _ _ _ _) rfl (guardOn (agree hn) rfl rfl rfl rfl) (lop_binT (agree hn) rfl rfl rfl (by exact decide_eq_true (by omega))) rfl ?_
        refine TO.w hn (.pick _ _ _) rfl (guard0 rfl) (lop_pickF (agree hn) rfl rfl rfl) rfl ?_
        refine TO.nil ?_
        refine TC.condT (agree hn) rfl rfl ?_
        refine TC.seq ?_
        refine TC.region (id := 6) ?_
        refine TO.w hn (.move _) rfl (guard0 rfl) (lop_move (agree hn) rfl) rfl ?_
        refine TO.w hn (.move _) rfl (guard0 rfl) (lop_move (agree hn) rfl) rfl ?_
        refine TO.w hn (.nilCheck _) rfl (guard0 rfl) (lop_nil (agree hn) rfl rfl) rfl ?_
        refine TO.w hn (.fieldAddr _ _ _) rfl (guard0 rfl) (lop_fa (agree hn) rfl rfl) rfl ?_
        refine TO.w0 hn (.store _ _ _) rfl (guard0 rfl) (lop_store (agree hn) rfl rfl (by assumption) rfl rfl rfl) rfl ?_
        refine TO.nil ?_
        refine TC.seq ?_
        refine TC.region (id := 7) ?_
        refine TO.w hn (.assign _) rfl (guard0 rfl) (lop_assign (agree hn) rfl) rfl ?_
        refine TO.w hn (.assign _) rfl (guard0 rfl) (lop_assign (agree hn) rfl) rfl ?_
        refine TO.nil ?_
        refine TC.ret ?_
        refine ⟨trivial, _, lresT (agree hn) rfl rfl, rfl, ?_⟩
        exact ⟨_, set_set _ _ _ _, hback x⟩
theorem text_ok {H : Hp} {r : Nat} {l : List UInt8} {n : Int} (h : Rd H r l) (h9 : n ≤ 9223372036854775807) (hl9 : l.length ≤ 4611686018427387904) (h0 : textOk l n) : CF Try.prog 35 [.pointer (some ⟨r, 0, none⟩), .int .i64 n] H fun v H' =>
    v = .tuple #[S ((l.drop 4).take (beN (l.take 4))), .bool true] ∧ ∃ x, H' = H.set r x ∧ Rd H' r (l.drop (4 + beN (l.take 4))) := by
  have hb := beN4_lt l
  unfold textOk at h0
  have hh := h
  obtain ⟨b, o, m, c, L, h1, h2, h3, h4, h5⟩ := h
  refine CF.go _ Try.func35 rfl ⟨Nat.le_of_ble_eq_true rfl, rfl⟩ fun base hb0 hn => ?_
  subst hb0
  have hnum := number_ok (k := 4) hh (by omega) (by omega) (by omega)
  generalize hN : beN (l.take 4) = N at *
  have hleft : ∀ H2, Rd H2 r (l.drop 4) → CO Try.prog 37 [.pointer (some ⟨r, 0, none⟩)] H2 fun v H' => v = .int .i64 (l.length - 4 : Nat) ∧ H' = H2 := fun H2 h => by
    have := CF.co noOwn rfl rfl (left_CF h)
    rw [List.length_drop] at this
    exact this
  have htake : ∀ H2, Rd H2 r (l.drop 4) → CO Try.prog 42 [.pointer (some ⟨r, 0, none⟩), .int .i64 (N : Nat)] H2 fun v H' => v = .tuple #[S ((l.drop 4).take N), .bool true] ∧ ∃ x, H' = H2.set r x ∧ Rd H' r ((l.drop 4).drop N) := fun H2 h =>
    CF.co noOwn rfl rfl (take_ok (n := (N : Nat)) h (by omega) (by rw [List.length_drop]; omega))
  refine TC.seq ?_
  refine TC.region (id := 0) ?_
  refine TO.w hn (.assign _) rfl (guard0 rfl) (lop_assign (agree hn) rfl) rfl ?_
  refine TO.w hn (.assign _) rfl (guard0 rfl) (lop_assign (agree hn) rfl) rfl ?_
  refine TO.nil ?_
  refine TC.seq ?_
  refine TC.seq ?_
  refine TC.region (id := 1) ?_
  refine TO.w hn (.move _) rfl (guard0 rfl) (lop_move (agree hn) rfl) rfl ?_
  refine TO.w hn (.binOp _ _ _ _ _) rfl (guard0 rfl) (lop_binF (agree hn) rfl rfl rfl (by with_reducible rfl)) rfl ?_
  refine TO.w hn (.move _) rfl (guard0 rfl) (lop_move (agree hn) rfl) rfl ?_
  refine TO.w hn (.move _) rfl (guardOn (agree hn) rfl rfl rfl rfl) (lop_move (agree hn) rfl) rfl ?_
  refine TO.w hn (.binOp _ _ _ _ _) rfl (guardOn (agree hn) rfl rfl rfl rfl) (lop_binF (agree hn) rfl rfl rfl (by exact decide_eq_false (by omega))) rfl ?_
  refine TO.w hn (.pick _ _ _) rfl (guard0 rfl) (lop_pickF (agree hn) rfl rfl rfl) rfl ?_
  refine TO.nil ?_
  refine TC.condF (agree hn) rfl rfl ?_
  refine TC.skip ?_
  refine TC.seq ?_
  refine TC.region (id := 3) ?_
  refine TO.w hn (.move _) rfl (guard0 rfl) (lop_move (agree hn) rfl) rfl ?_
  refine TO.w hn (.nilCheck _) rfl (guard0 rfl) (lop_nil (agree hn) rfl rfl) rfl ?_
  refine TO.w hn (.fieldAddr _ _ _) rfl (guard0 rfl) (lop_fa (agree hn) rfl rfl) rfl ?_
  refine TO.w hn (.load _ _) rfl (guard0 rfl) (lop_load (agree hn) rfl (by assumption) rfl rfl) rfl ?_
  refine TO.w hn (.assign _) rfl (guard0 rfl) (lop_assign (agree hn) rfl) rfl ?_
  refine TO.nil ?_
  refine TC.seq ?_
  refine TC.region (id := 4) ?_
  refine TO.w hn (.move _) rfl (guard0 rfl) (lop_move (agree hn) rfl) rfl ?_
  (refine TO.wc hn (.call _) rfl (guard0 rfl) (lop_func (agree hn) rfl rfl rfl) rfl (CF.co noOwn rfl rfl hnum) (fun v H2 hR => ?_); obtain ⟨rfl, x, rfl, hx⟩ := hR; have hxx := hx; obtain ⟨b', o', n', c', L', g1, g2, g3, g4, g5⟩ := hxx)
  refine TO.w hn (.move _) rfl (guard0 rfl) (lop_move (agree hn) rfl) rfl ?_
  refine TO.w hn (.extract _ _) rfl (guard0 rfl) (lop_ex (agree hn) rfl rfl) rfl ?_
  refine TO.w hn (.extract _ _) rfl (guard0 rfl) (lop_ex (agree hn) rfl rfl) rfl ?_
  refine TO.w hn (.assign _) rfl (guard0 rfl) (lop_assign (agree hn) rfl) rfl ?_
  refine TO.w hn (.assign _) rfl (guard0 rfl) (lop_assign (agree hn) rfl) rfl ?_
  refine TO.nil ?_
  refine TC.seq ?_
  refine TC.seq ?_
  refine TC.region (id := 5) ?_
  refine TO.w hn (.move _) rfl (guard0 rfl) (lop_move (agree hn) rfl) rfl ?_
  refine TO.w hn (.unOp _ _ _) rfl (guard0 rfl) (lop_not1 (agree hn) rfl) rfl ?_
  refine TO.w hn (.move _) rfl (guard0 rfl) (lop_move (agree hn) rfl) rfl ?_
  refine TO.w hn (.move _) rfl (guardOn (agree hn) rfl rfl rfl rfl) (lop_move (agree hn) rfl) rfl ?_
  refine TO.w hn (.move _) rfl (guardOn (agree hn) rfl rfl rfl rfl) (lop_move (agree hn) rfl) rfl ?_
  refine TO.w hn (.convert _ _ _) rfl (guardOn (agree hn) rfl rfl rfl rfl) (lop_convI (agree hn) rfl rfl rfl (by omega) (by omega)) rfl ?_
  refine TO.w hn (.binOp _ _ _ _ _) rfl (guardOn (agree hn) rfl rfl rfl rfl) (lop_binF (agree hn) rfl rfl rfl (by exact decide_eq_false (by omega))) rfl ?_
  refine TO.w hn (.pick _ _ _) rfl (guard0 rfl) (lop_pickF (agree hn) rfl rfl rfl) rfl ?_
  refine TO.w hn (.move _) rfl (guard0 rfl) (lop_move (agree hn) rfl) rfl ?_
  refine TO.w hn (.move _) rfl (guardOn (agree hn) rfl rfl rfl rfl) (lop_move (agree hn) rfl) rfl ?_
  refine TO.w hn (.move _) rfl (guardOn (agree hn) rfl rfl rfl rfl) (lop_move (agree hn) rfl) rfl ?_
  (refine TO.wc hn (.call _) rfl (guardOn (agree hn) rfl rfl rfl rfl) (lop_func (agree hn) rfl rfl rfl) rfl (hleft _ hx) (fun v H2 hR => ?_); (obtain ⟨rfl, e2⟩ := hR; cases e2.symm))
  refine TO.w hn (.convert _ _ _) rfl (guardOn (agree hn) rfl rfl rfl rfl) (lop_convI (agree hn) rfl rfl rfl (by omega) (by omega)) rfl ?_
  refine TO.w hn (.binOp _ _ _ _ _) rfl (guardOn (agree hn) rfl rfl rfl rfl) (lop_binF (agree hn) rfl rfl rfl (by exact decide_eq_false (by omega))) rfl ?_
  refine TO.w hn (.pick _ _ _) rfl (guard0 rfl) (lop_pickF (agree hn) rfl rfl rfl) rfl ?_
  refine TO.nil ?_
  refine TC.condF (agree hn) rfl rfl ?_
  refine TC.skip ?_
  refine TC.seq ?_
  refine TC.region (id := 8) ?_
  refine TO.w hn (.move _) rfl (guard0 rfl) (lop_move (agree hn) rfl) rfl ?_
  refine TO.w hn (.makeFunc _ _ _) rfl (guard0 rfl) (lop_mkfn (agree hn) rfl rfl) rfl ?_
  refine TO.w hn (.assign _) rfl (guard0 rfl) (lop_assign (agree hn) rfl) rfl ?_
  refine TO.nil ?_
  refine TC.seq ?_
  refine TC.region (id := 9) ?_
  refine TO.w hn (.move _) rfl (guard0 rfl) (lop_move (agree hn) rfl) rfl ?_
  refine TO.w hn (.move _) rfl (guard0 rfl) (lop_move (agree hn) rfl) rfl ?_
  refine TO.w hn (.convert _ _ _) rfl (guard0 rfl) (lop_convI (agree hn) rfl rfl rfl (by omega) (by omega)) rfl ?_
  (refine TO.wc hn (.call _) rfl (guard0 rfl) (lop_func (agree hn) rfl rfl rfl) rfl (htake _ hx) (fun v H2 hR => ?_); obtain ⟨rfl, y, rfl, hy⟩ := hR)
  refine TO.w hn (.extract _ _) rfl (guard0 rfl) (lop_ex (agree hn) rfl rfl) rfl ?_
  refine TO.w hn (.extract _ _) rfl (guard0 rfl) (lop_ex (agree hn) rfl rfl) rfl ?_
  refine TO.w hn (.assign _) rfl (guard0 rfl) (lop_assign (agree hn) rfl) rfl ?_
  refine TO.w hn (.assign _) rfl (guard0 rfl) (lop_assign (agree hn) rfl) rfl ?_
  refine TO.nil ?_
  refine TC.ret ?_
  refine ⟨trivial, _, lresT (agree hn) rfl rfl, rfl, y, set_set _ _ _ _, ?_⟩
  rw [List.drop_drop] at hy
  exact hy
theorem textR_no {H : Hp} {r : Nat} {l : List UInt8} {n : Int} (h : RdR H r l) (h9 : n ≤ 9223372036854775807) (hl9 : l.length ≤ 4611686018427387904) (h0 : ¬ textOk l n) : CF Try.prog 40 [.pointer (some ⟨r, 0, none⟩), .int .i64 n] H fun v H' => v = .tuple #[S [], .bool false] ∧ H' = H := by
  have hb := beN4_lt l
  unfold textOk at h0
  unfold RdR at h
  refine CF.go _ Try.func40 rfl ⟨Nat.le_of_ble_eq_true rfl, rfl⟩ fun base hb0 hn => ?_
  subst hb0
  have e : List.take (Int.toNat 4 - 0) (List.drop 0 l) = l.take 4 := by simp
  have hv := value_CF (H := H) (List.take (Int.toNat 4 - 0) (List.drop 0 l)) (by rw [e, List.length_take]; omega)
  by_cases h4l : (l.length : Int) < 4
  ·
    refine TC.seq ?_
    refine TC.region (id := 0) ?_
    refine TO.w hn (.assign _) rfl (guard0 rfl) (lop_assign (agree hn) rfl) rfl ?_
    refine TO.w hn (.assign _) rfl (guard0 rfl) (lop_assign (agree hn) rfl) rfl ?_
    refine TO.nil ?_
    refine TC.seq ?_
    refine TC.seq ?_
    refine TC.region (id := 1) ?_
    refine TO.w hn (.move _) rfl (guard0 rfl) (lop_move (agree hn) rfl) rfl ?_
    refine TO.w hn (.nilCheck _) rfl (guard0 rfl) (lop_nil (agree hn) rfl rfl) rfl ?_
    refine TO.w hn (.fieldAddr _ _ _) rfl (guard0 rfl) (lop_fa (agree hn) rfl rfl) rfl ?_
    refine TO.w hn (.load _ _) rfl (guard0 rfl) (lop_load (agree hn) rfl (by assumption) rfl rfl) rfl ?_
    refine TO.w hn (.call _) rfl (guard0 rfl) (lop_built (agree hn) rfl rfl (lbuiltin_lenS rfl)) rfl ?_
    refine TO.w hn (.binOp _ _ _ _ _) rfl (guard0 rfl) (lop_binT (agree hn) rfl rfl rfl (by exact decide_eq_true (by omega))) rfl ?_
    refine TO.w hn (.move _) rfl (guard0 rfl) (lop_move (agree hn) rfl) rfl ?_
    refine TO.woff hn (guardOff (agree hn) rfl rfl rfl rfl) rfl ?_
    refine TO.woff hn (guardOff (agree hn) rfl rfl rfl rfl) rfl ?_
    refine TO.w hn (.pick _ _ _) rfl (guard0 rfl) (lop_pickT (agree hn) rfl rfl rfl) rfl ?_
    refine TO.nil ?_
    refine TC.condT (agree hn) rfl rfl ?_
    refine TC.seq ?_
    refine TC.region (id := 2) ?_
    refine TO.w hn (.assign _) rfl (guard0 rfl) (lop_assign (agree hn) rfl) rfl ?_
    refine TO.w hn (.assign _) rfl (guard0 rfl) (lop_assign (agree hn) rfl) rfl ?_
    refine TO.nil ?_
    refine TC.ret ?_
    exact ⟨trivial, _, lresT (agree hn) rfl rfl, rfl, rfl⟩
  · by_cases hneg : n < 0
    ·
      refine TC.seq ?_
      refine TC.region (id := 0) ?_
      refine TO.w hn (.assign _) rfl (guard0 rfl) (lop_assign (agree hn) rfl) rfl ?_
      refine TO.w hn (.assign _) rfl (guard0 rfl) (lop_assign (agree hn) rfl) rfl ?_
      refine TO.nil ?_
      refine TC.seq ?_
      refine TC.seq ?_
      refine TC.region (id := 1) ?_
      refine TO.w hn (.move _) rfl (guard0 rfl) (lop_move (agree hn) rfl) rfl ?_
      refine TO.w hn (.nilCheck _) rfl (guard0 rfl) (lop_nil (agree hn) rfl rfl) rfl ?_
      refine TO.w hn (.fieldAddr _ _ _) rfl (guard0 rfl) (lop_fa (agree hn) rfl rfl) rfl ?_
      refine TO.w hn (.load _ _) rfl (guard0 rfl) (lop_load (agree hn) rfl (by assumption) rfl rfl) rfl ?_
      refine TO.w hn (.call _) rfl (guard0 rfl) (lop_built (agree hn) rfl rfl (lbuiltin_lenS rfl)) rfl ?_
      refine TO.w hn (.binOp _ _ _ _ _) rfl (guard0 rfl) (lop_binF (agree hn) rfl rfl rfl (by exact decide_eq_false (by omega))) rfl ?_
      refine TO.w hn (.move _) rfl (guard0 rfl) (lop_move (agree hn) rfl) rfl ?_
      refine TO.w hn (.move _) rfl (guardOn (agree hn) rfl rfl rfl rfl) (lop_move (agree hn) rfl) rfl ?_
      refine TO.w hn (.binOp _ _ _ _ _) rfl (guardOn (agree hn) rfl rfl rfl rfl) (lop_binT (agree hn) rfl rfl rfl (by exact decide_eq_true (by omega))) rfl ?_
      refine TO.w hn (.pick _ _ _) rfl (guard0 rfl) (lop_pickF (agree hn) rfl rfl rfl) rfl ?_
      refine TO.nil ?_
      refine TC.condT (agree hn) rfl rfl ?_
      refine TC.seq ?_
      refine TC.region (id := 2) ?_
      refine TO.w hn (.assign _) rfl (guard0 rfl) (lop_assign (agree hn) rfl) rfl ?_
      refine TO.w hn (.assign _) rfl (guard0 rfl) (lop_assign (agree hn) rfl) rfl ?_
      refine TO.nil ?_
      refine TC.ret ?_
      exact ⟨trivial, _, lresT (agree hn) rfl rfl, rfl, rfl⟩
    · generalize hN : beN (l.take 4) = N at *
      have hN' : beN (List.take (Int.toNat 4 - 0) (List.drop 0 l)) = N := by rw [e, hN]
      rw [hN'] at hv
      by_cases hm : n < N
      ·
        refine TC.seq ?_
        refine TC.region (id := 0) ?_
        refine TO.w hn (.assign _) rfl (guard0 rfl) (lop_assign (agree hn) rfl) rfl ?_
        refine TO.w hn (.assign _) rfl (guard0 rfl) (lop_assign (agree hn) rfl) rfl ?_
        refine TO.nil ?_
        refine TC.seq ?_
        refine TC.seq ?_
        refine TC.region (id := 1) ?_
        refine TO.w hn (.move _) rfl (guard0 rfl) (lop_move (agree hn) rfl) rfl ?_
        refine TO.w hn (.nilCheck _) rfl (guard0 rfl) (lop_nil (agree hn) rfl rfl) rfl ?_
        refine TO.w hn (.fieldAddr _ _ _) rfl (guard0 rfl) (lop_fa (agree hn) rfl rfl) rfl ?_
        refine TO.w hn (.load _ _) rfl (guard0 rfl) (lop_load (agree hn) rfl (by assumption) rfl rfl) rfl ?_
        refine TO.w hn (.call _) rfl (guard0 rfl) (lop_built (agree hn) rfl rfl (lbuiltin_lenS rfl)) rfl ?_
        refine TO.w hn (.binOp _ _ _ _ _) rfl (guard0 rfl) (lop_binF (agree hn) rfl rfl rfl (by exact decide_eq_false (by omega))) rfl ?_
        refine TO.w hn (.move _) rfl (guard0 rfl) (lop_move (agree hn) rfl) rfl ?_
        refine TO.w hn (.move _) rfl (guardOn (agree hn) rfl rfl rfl rfl) (lop_move (agree hn) rfl) rfl ?_
        refine TO.w hn (.binOp _ _ _ _ _) rfl (guardOn (agree hn) rfl rfl rfl rfl) (lop_binF (agree hn) rfl rfl rfl (by exact decide_eq_false (by omega))) rfl ?_
        refine TO.w hn (.pick _ _ _) rfl (guard0 rfl) (lop_pickF (agree hn) rfl rfl rfl) rfl ?_
        refine TO.nil ?_
        refine TC.condF (agree hn) rfl rfl ?_
        refine TC.skip ?_
        refine TC.seq ?_
        refine TC.region (id := 3) ?_
        refine TO.w hn (.move _) rfl (guard0 rfl) (lop_move (agree hn) rfl) rfl ?_
        refine TO.w hn (.nilCheck _) rfl (guard0 rfl) (lop_nil (agree hn) rfl rfl) rfl ?_
        refine TO.w hn (.fieldAddr _ _ _) rfl (guard0 rfl) (lop_fa (agree hn) rfl rfl) rfl ?_
        refine TO.w hn (.load _ _) rfl (guard0 rfl) (lop_load (agree hn) rfl (by assumption) rfl rfl) rfl ?_
        refine TO.w hn (.slice _ _ _ _ _) rfl (guard0 rfl) (lop_slice (agree hn) rfl rfl rfl rfl (lsliceS rfl (by exact lboundI (by omega) (by omega)) (by exact lbound0))) rfl ?_
        (refine TO.wc hn (.call _) rfl (guard0 rfl) (lop_func (agree hn) rfl rfl rfl) rfl (CF.co noOwn rfl rfl hv) (fun v H2 hR => ?_); (obtain ⟨rfl, e2⟩ := hR; cases e2.symm))
        refine TO.w hn (.assign _) rfl (guard0 rfl) (lop_assign (agree hn) rfl) rfl ?_
        refine TO.nil ?_
        refine TC.seq ?_
        refine TC.seq ?_
        refine TC.region (id := 4) ?_
        refine TO.w hn (.move _) rfl (guard0 rfl) (lop_move (agree hn) rfl) rfl ?_
        refine TO.w hn (.move _) rfl (guard0 rfl) (lop_move (agree hn) rfl) rfl ?_
        refine TO.w hn (.convert _ _ _) rfl (guard0 rfl) (lop_convI (agree hn) rfl rfl rfl (by omega) (by omega)) rfl ?_
        refine TO.w hn (.binOp _ _ _ _ _) rfl (guard0 rfl) (lop_binT (agree hn) rfl rfl rfl (by exact decide_eq_true (by omega))) rfl ?_
        refine TO.w hn (.move _) rfl (guard0 rfl) (lop_move (agree hn) rfl) rfl ?_
        refine TO.woff hn (guardOff (agree hn) rfl rfl rfl rfl) rfl ?_
        refine TO.woff hn (guardOff (agree hn) rfl rfl rfl rfl) rfl ?_
        refine TO.woff hn (guardOff (agree hn) rfl rfl rfl rfl) rfl ?_
        refine TO.woff hn (guardOff (agree hn) rfl rfl rfl rfl) rfl ?_
        refine TO.woff hn (guardOff (agree hn) rfl rfl rfl rfl) rfl ?_
        refine TO.woff hn (guardOff (agree hn) rfl rfl rfl rfl) rfl ?_
        refine TO.woff hn (guardOff (agree hn) rfl rfl rfl rfl) rfl ?_
        refine TO.woff hn (guardOff (agree hn) rfl rfl rfl rfl) rfl ?_
        refine TO.woff hn (guardOff (agree hn) rfl rfl rfl rfl) rfl ?_
        refine TO.w hn (.pick _ _ _) rfl (guard0 rfl) (lop_pickT (agree hn) rfl rfl rfl) rfl ?_
        refine TO.nil ?_
        refine TC.condT (agree hn) rfl rfl ?_
        refine TC.seq ?_
        refine TC.region (id := 5) ?_
        refine TO.w hn (.assign _) rfl (guard0 rfl) (lop_assign (agree hn) rfl) rfl ?_
        refine TO.w hn (.assign _) rfl (guard0 rfl) (lop_assign (agree hn) rfl) rfl ?_
        refine TO.nil ?_
        refine TC.ret ?_
        exact ⟨trivial, _, lresT (agree hn) rfl rfl, rfl, rfl⟩
      ·
        refine TC.seq ?_
        refine TC.region (id := 0) ?_
        refine TO.w hn (.assign _) rfl (guard0 rfl) (lop_assign (agree hn) rfl) rfl ?_
        refine TO.w hn (.assign _) rfl (guard0 rfl) (lop_assign (agree hn) rfl) rfl ?_
        refine TO.nil ?_
        refine TC.seq ?_
        refine TC.seq ?_
        refine TC.region (id := 1) ?_
        refine TO.w hn (.move _) rfl (guard0 rfl) (lop_move (agree hn) rfl) rfl ?_
        refine TO.w hn (.nilCheck _) rfl (guard0 rfl) (lop_nil (agree hn) rfl rfl) rfl ?_
        refine TO.w hn (.fieldAddr _ _ _) rfl (guard0 rfl) (lop_fa (agree hn) rfl rfl) rfl ?_
        refine TO.w hn (.load _ _) rfl (guard0 rfl) (lop_load (agree hn) rfl (by assumption) rfl rfl) rfl ?_
        refine TO.w hn (.call _) rfl (guard0 rfl) (lop_built (agree hn) rfl rfl (lbuiltin_lenS rfl)) rfl ?_
        refine TO.w hn (.binOp _ _ _ _ _) rfl (guard0 rfl) (lop_binF (agree hn) rfl rfl rfl (by exact decide_eq_false (by omega))) rfl ?_
        refine TO.w hn (.move _) rfl (guard0 rfl) (lop_move (agree hn) rfl) rfl ?_
        refine TO.w hn (.move _) rfl (guardOn (agree hn) rfl rfl rfl rfl) (lop_move (agree hn) rfl) rfl ?_
        refine TO.w hn (.binOp _ _ _ _ _) rfl (guardOn (agree hn) rfl rfl rfl rfl) (lop_binF (agree hn) rfl rfl rfl (by exact decide_eq_false (by omega))) rfl ?_
        refine TO.w hn (.pick _ _ _) rfl (guard0 rfl) (lop_pickF (agree hn) rfl rfl rfl) rfl ?_
        refine TO.nil ?_
        refine TC.condF (agree hn) rfl rfl ?_
        refine TC.skip ?_
        refine TC.seq ?_
        refine TC.region (id := 3) ?_
        refine TO.w hn (.move _) rfl (guard0 rfl) (lop_move (agree hn) rfl) rfl ?_
        refine TO.w hn (.nilCheck _) rfl (guard0 rfl) (lop_nil (agree hn) rfl rfl) rfl ?_
        refine TO.w hn (.fieldAddr _ _ _) rfl (guard0 rfl) (lop_fa (agree hn) rfl rfl) rfl ?_
        refine TO.w hn (.load _ _) rfl (guard0 rfl) (lop_load (agree hn) rfl (by assumption) rfl rfl) rfl ?_
        refine TO.w hn (.slice _ _ _ _ _) rfl (guard0 rfl) (lop_slice (agree hn) rfl rfl rfl rfl (lsliceS rfl (by exact lboundI (by omega) (by omega)) (by exact lbound0))) rfl ?_
        (refine TO.wc hn (.call _) rfl (guard0 rfl) (lop_func (agree hn) rfl rfl rfl) rfl (CF.co noOwn rfl rfl hv) (fun v H2 hR => ?_); (obtain ⟨rfl, e2⟩ := hR; cases e2.symm))
        refine TO.w hn (.assign _) rfl (guard0 rfl) (lop_assign (agree hn) rfl) rfl ?_
        refine TO.nil ?_
        refine TC.seq ?_
        refine TC.seq ?_
        refine TC.region (id := 4) ?_
        refine TO.w hn (.move _) rfl (guard0 rfl) (lop_move (agree hn) rfl) rfl ?_
        refine TO.w hn (.move _) rfl (guard0 rfl) (lop_move (agree hn) rfl) rfl ?_
        refine TO.w hn (.convert _ _ _) rfl (guard0 rfl) (lop_convI (agree hn) rfl rfl rfl (by omega) (by omega)) rfl ?_
        refine TO.w hn (.binOp _ _ _ _ _) rfl (guard0 rfl) (lop_binF (agree hn) rfl rfl rfl (by exact decide_eq_false (by omega))) rfl ?_
        refine TO.w hn (.move _) rfl (guard0 rfl) (lop_move (agree hn) rfl) rfl ?_
        refine TO.w hn (.move _) rfl (guardOn (agree hn) rfl rfl rfl rfl) (lop_move (agree hn) rfl) rfl ?_
        refine TO.w hn (.move _) rfl (guardOn (agree hn) rfl rfl rfl rfl) (lop_move (agree hn) rfl) rfl ?_
        refine TO.w hn (.nilCheck _) rfl (guardOn (agree hn) rfl rfl rfl rfl) (lop_nil (agree hn) rfl rfl) rfl ?_
        refine TO.w hn (.fieldAddr _ _ _) rfl (guardOn (agree hn) rfl rfl rfl rfl) (lop_fa (agree hn) rfl rfl) rfl ?_
        refine TO.w hn (.load _ _) rfl (guardOn (agree hn) rfl rfl rfl rfl) (lop_load (agree hn) rfl (by assumption) rfl rfl) rfl ?_
        refine TO.w hn (.call _) rfl (guardOn (agree hn) rfl rfl rfl rfl) (lop_built (agree hn) rfl rfl (lbuiltin_lenS rfl)) rfl ?_
        refine TO.w hn (.binOp _ _ _ _ _) rfl (guardOn (agree hn) rfl rfl rfl rfl) (lop_binI (agree hn) rfl rfl rfl rfl (by omega) (by omega)) rfl ?_
        refine TO.w hn (.convert _ _ _) rfl (guardOn (agree hn) rfl rfl rfl rfl) (lop_convI (agree hn) rfl rfl rfl (by omega) (by omega)) rfl ?_
        refine TO.w hn (.binOp _ _ _ _ _) rfl (guardOn (agree hn) rfl rfl rfl rfl) (lop_binT (agree hn) rfl rfl rfl (by exact decide_eq_true (by omega))) rfl ?_
        refine TO.w hn (.pick _ _ _) rfl (guard0 rfl) (lop_pickF (agree hn) rfl rfl rfl) rfl ?_
        refine TO.nil ?_
        refine TC.condT (agree hn) rfl rfl ?_
        refine TC.seq ?_
        refine TC.region (id := 5) ?_
        refine TO.w hn (.assign _) rfl (guard0 rfl) (lop_assign (agree hn) rfl) rfl ?_
        refine TO.w hn (.assign _) rfl (guard0 rfl) (lop_assign (agree hn) rfl) rfl ?_
        refine TO.nil ?_
        refine TC.ret ?_
        exact ⟨trivial, _, lresT (agree hn) rfl rfl, rfl, rfl⟩
theorem textR_ok {H : Hp} {r : Nat} {l : List UInt8} {n : Int} (h : RdR H r l) (h9 : n ≤ 9223372036854775807) (hl9 : l.length ≤ 4611686018427387904) (h0 : textOk l n) : CF Try.prog 40 [.pointer (some ⟨r, 0, none⟩), .int .i64 n] H fun v H' =>
    v = .tuple #[S ((l.drop 4).take (beN (l.take 4))), .bool true] ∧ H' = H.set r (.cells true 1 [S (l.drop (4 + beN (l.take 4)))]) := by
  have hb := beN4_lt l
  unfold textOk at h0
  unfold RdR at h
  refine CF.go _ Try.func40 rfl ⟨Nat.le_of_ble_eq_true rfl, rfl⟩ fun base hb0 hn => ?_
  subst hb0
  have e : List.take (Int.toNat 4 - 0) (List.drop 0 l) = l.take 4 := by simp
  have hv := value_CF (H := H) (List.take (Int.toNat 4 - 0) (List.drop 0 l)) (by rw [e, List.length_take]; omega)
  generalize hN : beN (l.take 4) = N at *
  have hN' : beN (List.take (Int.toNat 4 - 0) (List.drop 0 l)) = N := by rw [e, hN]
  rw [hN'] at hv
  refine TC.seq ?_
  refine TC.region (id := 0) ?_
  refine TO.w hn (.assign _) rfl (guard0 rfl) (lop_assign (agree hn) rfl) rfl ?_
  refine TO.w hn (.assign _) rfl (guard0 rfl) (lop_assign (agree hn) rfl) rfl ?_
  refine TO.nil ?_
  refine TC.seq ?_
  refine TC.seq ?_
  refine TC.region (id := 1) ?_
  refine TO.w hn (.move _) rfl (guard0 rfl) (lop_move (agree hn) rfl) rfl ?_
  refine TO.w hn (.nilCheck _) rfl (guard0 rfl) (lop_nil (agree hn) rfl rfl) rfl ?_
  refine TO.w hn (.fieldAddr _ _ _) rfl (guard0 rfl) (lop_fa (agree hn) rfl rfl) rfl ?_
  refine TO.w hn (.load _ _) rfl (guard0 rfl) (lop_load (agree hn) rfl (by assumption) rfl rfl) rfl ?_
  refine TO.w hn (.call _) rfl (guard0 rfl) (lop_built (agree hn) rfl rfl (lbuiltin_lenS rfl)) rfl ?_
  refine TO.w hn (.binOp _ _ _ _ _) rfl (guard0 rfl) (lop_binF (agree hn) rfl rfl rfl (by exact decide_eq_false (by omega))) rfl ?_
  refine TO.w hn (.move _) rfl (guard0 rfl) (lop_move (agree hn) rfl) rfl ?_
  refine TO.w hn (.move _) rfl (guardOn (agree hn) rfl rfl rfl rfl) (lop_move (agree hn) rfl) rfl ?_
  refine TO.w hn (.binOp _ _ _ _ _) rfl (guardOn (agree hn) rfl rfl rfl rfl) (lop_binF (agree hn) rfl rfl rfl (by exact decide_eq_false (by omega))) rfl ?_
  refine TO.w hn (.pick _ _ _) rfl (guard0 rfl) (lop_pickF (agree hn) rfl rfl rfl) rfl ?_
  refine TO.nil ?_
  refine TC.condF (agree hn) rfl rfl ?_
  refine TC.skip ?_
  refine TC.seq ?_
  refine TC.region (id := 3) ?_
  refine TO.w hn (.move _) rfl (guard0 rfl) (lop_move (agree hn) rfl) rfl ?_
  refine TO.w hn (.nilCheck _) rfl (guard0 rfl) (lop_nil (agree hn) rfl rfl) rfl ?_
  refine TO.w hn (.fieldAddr _ _ _) rfl (guard0 rfl) (lop_fa (agree hn) rfl rfl) rfl ?_
  refine TO.w hn (.load _ _) rfl (guard0 rfl) (lop_load (agree hn) rfl (by assumption) rfl rfl) rfl ?_
  refine TO.w hn (.slice _ _ _ _ _) rfl (guard0 rfl) (lop_slice (agree hn) rfl rfl rfl rfl (lsliceS rfl (by exact lboundI (by omega) (by omega)) (by exact lbound0))) rfl ?_
  (refine TO.wc hn (.call _) rfl (guard0 rfl) (lop_func (agree hn) rfl rfl rfl) rfl (CF.co noOwn rfl rfl hv) (fun v H2 hR => ?_); (obtain ⟨rfl, e2⟩ := hR; cases e2.symm))
  refine TO.w hn (.assign _) rfl (guard0 rfl) (lop_assign (agree hn) rfl) rfl ?_
  refine TO.nil ?_
  refine TC.seq ?_
  refine TC.seq ?_
  refine TC.region (id := 4) ?_
  refine TO.w hn (.move _) rfl (guard0 rfl) (lop_move (agree hn) rfl) rfl ?_
  refine TO.w hn (.move _) rfl (guard0 rfl) (lop_move (agree hn) rfl) rfl ?_
  refine TO.w hn (.convert _ _ _) rfl (guard0 rfl) (lop_convI (agree hn) rfl rfl rfl (by omega) (by omega)) rfl ?_
  refine TO.w hn (.binOp _ _ _ _ _) rfl (guard0 rfl) (lop_binF (agree hn) rfl rfl rfl (by exact decide_eq_false (by omega))) rfl ?_
  refine TO.w hn (.move _) rfl (guard0 rfl) (lop_move (agree hn) rfl) rfl ?_
  refine TO.w hn (.move _) rfl (guardOn (agree hn) rfl rfl rfl rfl) (lop_move (agree hn) rfl) rfl ?_
  refine TO.w hn (.move _) rfl (guardOn (agree hn) rfl rfl rfl rfl) (lop_move (agree hn) rfl) rfl ?_
  refine TO.w hn (.nilCheck _) rfl (guardOn (agree hn) rfl rfl rfl rfl) (lop_nil (agree hn) rfl rfl) rfl ?_
  refine TO.w hn (.fieldAddr _ _ _) rfl (guardOn (agree hn) rfl rfl rfl rfl) (lop_fa (agree hn) rfl rfl) rfl ?_
  refine TO.w hn (.load _ _) rfl (guardOn (agree hn) rfl rfl rfl rfl) (lop_load (agree hn) rfl (by assumption) rfl rfl) rfl ?_
  refine TO.w hn (.call _) rfl (guardOn (agree hn) rfl rfl rfl rfl) (lop_built (agree hn) rfl rfl (lbuiltin_lenS rfl)) rfl ?_
  refine TO.w hn (.binOp _ _ _ _ _) rfl (guardOn (agree hn) rfl rfl rfl rfl) (lop_binI (agree hn) rfl rfl rfl rfl (by omega) (by omega)) rfl ?_
  refine TO.w hn (.convert _ _ _) rfl (guardOn (agree hn) rfl rfl rfl rfl) (lop_convI (agree hn) rfl rfl rfl (by omega) (by omega)) rfl ?_
  refine TO.w hn (.binOp _ _ _ _ _) rfl (guardOn (agree hn) rfl rfl rfl rfl) (lop_binF (agree hn) rfl rfl rfl (by exact decide_eq_false (by omega))) rfl ?_
  refine TO.w hn (.pick _ _ _) rfl (guard0 rfl) (lop_pickF (agree hn) rfl rfl rfl) rfl ?_
  refine TO.nil ?_
  refine TC.condF (agree hn) rfl rfl ?_
  refine TC.skip ?_
  refine TC.seq ?_
  refine TC.region (id := 6) ?_
  refine TO.w hn (.move _) rfl (guard0 rfl) (lop_move (agree hn) rfl) rfl ?_
  refine TO.w hn (.nilCheck _) rfl (guard0 rfl) (lop_nil (agree hn) rfl rfl) rfl ?_
  refine TO.w hn (.fieldAddr _ _ _) rfl (guard0 rfl) (lop_fa (agree hn) rfl rfl) rfl ?_
  refine TO.w hn (.load _ _) rfl (guard0 rfl) (lop_load (agree hn) rfl (by assumption) rfl rfl) rfl ?_
  refine TO.w hn (.move _) rfl (guard0 rfl) (lop_move (agree hn) rfl) rfl ?_
  refine TO.w hn (.convert _ _ _) rfl (guard0 rfl) (lop_convI (agree hn) rfl rfl rfl (by omega) (by omega)) rfl ?_
  refine TO.w hn (.binOp _ _ _ _ _) rfl (guard0 rfl) (lop_binI (agree hn) rfl rfl rfl rfl (by omega) (by omega)) rfl ?_
  refine TO.w hn (.slice _ _ _ _ _) rfl (guard0 rfl) (lop_slice (agree hn) rfl rfl rfl rfl (lsliceS rfl (by exact lboundI (by omega) (by omega)) (by exact lboundI (by omega) (by omega)))) rfl ?_
  refine TO.w hn (.assign _) rfl (guard0 rfl) (lop_assign (agree hn) rfl) rfl ?_
  refine TO.nil ?_
  refine TC.seq ?_
  refine TC.region (id := 7) ?_
  refine TO.w hn (.move _) rfl (guard0 rfl) (lop_move (agree hn) rfl) rfl ?_
  refine TO.w hn (.move _) rfl (guard0 rfl) (lop_move (agree hn) rfl) rfl ?_
  refine TO.w hn (.nilCheck _) rfl (guard0 rfl) (lop_nil (agree hn) rfl rfl) rfl ?_
  refine TO.w hn (.fieldAddr _ _ _) rfl (guard0 rfl) (lop_fa (agree hn) rfl rfl) rfl ?_
  refine TO.w hn (.load _ _) rfl (guard0 rfl) (lop_load (agree hn) rfl (by assumption) rfl rfl) rfl ?_
  refine TO.w hn (.move _) rfl (guard0 rfl) (lop_move (agree hn) rfl) rfl ?_
  refine TO.w hn (.convert _ _ _) rfl (guard0 rfl) (lop_convI (agree hn) rfl rfl rfl (by omega) (by omega)) rfl ?_
  refine TO.w hn (.binOp _ _ _ _ _) rfl (guard0 rfl) (lop_binI (agree hn) rfl rfl rfl rfl (by omega) (by omega)) rfl ?_
  refine TO.w hn (.slice _ _ _ _ _) rfl (guard0 rfl) (lop_slice (agree hn) rfl rfl rfl rfl (lsliceS rfl (by exact lbound0) (by exact lboundI (by omega) (by omega)))) rfl ?_
  refine TO.w hn (.nilCheck _) rfl (guard0 rfl) (lop_nil (agree hn) rfl rfl) rfl ?_
  refine TO.w hn (.fieldAddr _ _ _) rfl (guard0 rfl) (lop_fa (agree hn) rfl rfl) rfl ?_
  refine TO.w0 hn (.store _ _ _) rfl (guard0 rfl) (lop_store (agree hn) rfl rfl (by assumption) rfl rfl rfl) rfl ?_
  refine TO.nil ?_
  refine TC.seq ?_
  refine TC.region (id := 8) ?_
  refine TO.w hn (.move _) rfl (guard0 rfl) (lop_move (agree hn) rfl) rfl ?_
  refine TO.w hn (.assign _) rfl (guard0 rfl) (lop_assign (agree hn) rfl) rfl ?_
  refine TO.w hn (.assign _) rfl (guard0 rfl) (lop_assign (agree hn) rfl) rfl ?_
  refine TO.nil ?_
  refine TC.ret ?_
  refine ⟨trivial, _, lresT (agree hn) rfl rfl, ?_, ?_⟩
  · have : (4 + (N : Int)).toNat - Int.toNat 4 = N := by omega
    rw [this]
    rfl
  · have : (4 + (N : Int)).toNat = 4 + N := by omega
    rw [this]
    exact congrArg (fun z => H.set r (.cells true 1 [S z])) (List.take_of_length_le (by rw [List.length_drop]; omega))
end Go.Proofs.Ytcndgbaldjcdfaa
