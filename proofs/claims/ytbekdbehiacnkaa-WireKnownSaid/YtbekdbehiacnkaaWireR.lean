/- Whatever is asked of a reader. -/
import Derived.Test.YtbekdbehiacnkaaWireW
namespace Go.Proofs.Ytbekdbehiacnkaa
open Go Go.Lite
set_option linter.unusedSimpArgs false
set_option linter.unusedVariables false

def numOk (l : List UInt8) (n : Int) : Prop := 1 ≤ n ∧ n ≤ 8 ∧ n ≤ l.length
instance (l : List UInt8) (n : Int) : Decidable (numOk l n) := by unfold numOk; infer_instance
instance (l : List UInt8) (n : Int) : Decidable (textOk l n) := by unfold textOk; infer_instance
def numA (l : List UInt8) (n : Int) : Nat := if numOk l n then beN (l.take n.toNat) else 0
def numL (l : List UInt8) (n : Int) : List UInt8 := if numOk l n then l.drop n.toNat else l
def takeOk (l : List UInt8) (n : Int) : Prop := 0 ≤ n ∧ n ≤ l.length
instance (l : List UInt8) (n : Int) : Decidable (takeOk l n) := by unfold takeOk; infer_instance
def takeA (l : List UInt8) (n : Int) : List UInt8 := if takeOk l n then l.take n.toNat else []
def takeL (l : List UInt8) (n : Int) : List UInt8 := if takeOk l n then l.drop n.toNat else l
def textA (l : List UInt8) (n : Int) : List UInt8 := if textOk l n then (l.drop 4).take (beN (l.take 4)) else []
def textL (l : List UInt8) (n : Int) : List UInt8 := if textOk l n then l.drop (4 + beN (l.take 4)) else l

theorem Rd.same {H : Hp} {r : Nat} {l : List UInt8} (h : Rd H r l) : ∃ x, H = H.set r x ∧ Rd H r l := by
  have h' := h
  obtain ⟨b, o, m, c, L, h1, h2, h3, h4, h5⟩ := h
  exact ⟨_, (set_same_hp h1).symm, h'⟩
theorem number_any {H : Hp} {r : Nat} {l : List UInt8} {n : Int} (h : Rd H r l) : CF Try.prog 10 [.pointer (some ⟨r, 0, none⟩), .int .i64 n] H fun v H' =>
    v = .tuple #[.int .u64 (numA l n : Nat), .bool (decide (numOk l n))] ∧ ∃ x, H' = H.set r x ∧ Rd H' r (numL l n) := by
  by_cases hk : numOk l n
  · have hk' := hk
    unfold numOk at hk'
    have := number_ok (k := n.toNat) h (by omega) (by omega) (by omega)
    rw [show ((n.toNat : Nat) : Int) = n by omega] at this
    simp only [numA, numL, if_pos hk, decide_eq_true hk]
    exact this
  · simp only [numA, numL, if_neg hk, decide_eq_false hk]
    refine (number_no (n := n) h (by unfold numOk at hk; omega)).mono fun v H' ⟨e1, e2⟩ => ?_
    cases e2.symm
    exact ⟨e1, h.same⟩
theorem numberR_any {H : Hp} {r : Nat} {l : List UInt8} {n : Int} (h : RdR H r l) : CF Try.prog 11 [.pointer (some ⟨r, 0, none⟩), .int .i64 n] H fun v H' =>
    v = .tuple #[.int .u64 (numA l n : Nat), .bool (decide (numOk l n))] ∧ H' = H.set r (.cells true 1 [S (numL l n)]) := by
  by_cases hk : numOk l n
  · have hk' := hk
    unfold numOk at hk'
    have := numberR_ok (k := n.toNat) h (by omega) (by omega) (by omega)
    rw [show ((n.toNat : Nat) : Int) = n by omega] at this
    simp only [numA, numL, if_pos hk, decide_eq_true hk]
    exact this
  · simp only [numA, numL, if_neg hk, decide_eq_false hk]
    refine (numberR_no (n := n) h (by unfold numOk at hk; omega)).mono fun v H' ⟨e1, e2⟩ => ?_
    cases e2.symm
    exact ⟨e1, (set_same_hp h).symm⟩
theorem take_any {H : Hp} {r : Nat} {l : List UInt8} {n : Int} (h : Rd H r l) : CF Try.prog 14 [.pointer (some ⟨r, 0, none⟩), .int .i64 n] H fun v H' =>
    v = .tuple #[S (takeA l n), .bool (decide (takeOk l n))] ∧ ∃ x, H' = H.set r x ∧ Rd H' r (takeL l n) := by
  by_cases hk : takeOk l n
  · simp only [takeA, takeL, if_pos hk, decide_eq_true hk]
    exact take_ok h hk.1 hk.2
  · simp only [takeA, takeL, if_neg hk, decide_eq_false hk]
    refine (take_no (n := n) h (by unfold takeOk at hk; omega)).mono fun v H' ⟨e1, e2⟩ => ?_
    cases e2.symm
    exact ⟨e1, h.same⟩
theorem takeR_any {H : Hp} {r : Nat} {l : List UInt8} {n : Int} (h : RdR H r l) : CF Try.prog 15 [.pointer (some ⟨r, 0, none⟩), .int .i64 n] H fun v H' =>
    v = .tuple #[S (takeA l n), .bool (decide (takeOk l n))] ∧ H' = H.set r (.cells true 1 [S (takeL l n)]) := by
  by_cases hk : takeOk l n
  · simp only [takeA, takeL, if_pos hk, decide_eq_true hk]
    exact takeR_ok h hk.1 hk.2
  · simp only [takeA, takeL, if_neg hk, decide_eq_false hk]
    refine (takeR_no (n := n) h (by unfold takeOk at hk; omega)).mono fun v H' ⟨e1, e2⟩ => ?_
    cases e2.symm
    exact ⟨e1, (set_same_hp h).symm⟩
theorem text_any {H : Hp} {r : Nat} {l : List UInt8} {n : Int} (h : Rd H r l) (h9 : n ≤ 9223372036854775807) (hl9 : l.length ≤ 4611686018427387904) : CF Try.prog 12 [.pointer (some ⟨r, 0, none⟩), .int .i64 n] H fun v H' =>
    v = .tuple #[S (textA l n), .bool (decide (textOk l n))] ∧ ∃ x, H' = H.set r x ∧ Rd H' r (textL l n) := by
  by_cases hk : textOk l n
  · simp only [textA, textL, if_pos hk, decide_eq_true hk]
    exact text_ok h h9 hl9 hk
  · simp only [textA, textL, if_neg hk, decide_eq_false hk]
    exact text_no h h9 hl9 hk
theorem textR_any {H : Hp} {r : Nat} {l : List UInt8} {n : Int} (h : RdR H r l) (h9 : n ≤ 9223372036854775807) (hl9 : l.length ≤ 4611686018427387904) : CF Try.prog 13 [.pointer (some ⟨r, 0, none⟩), .int .i64 n] H fun v H' =>
    v = .tuple #[S (textA l n), .bool (decide (textOk l n))] ∧ H' = H.set r (.cells true 1 [S (textL l n)]) := by
  by_cases hk : textOk l n
  · simp only [textA, textL, if_pos hk, decide_eq_true hk]
    exact textR_ok h h9 hl9 hk
  · simp only [textA, textL, if_neg hk, decide_eq_false hk]
    refine (textR_no (n := n) h h9 hl9 hk).mono fun v H' ⟨e1, e2⟩ => ?_
    cases e2.symm
    exact ⟨e1, (set_same_hp h).symm⟩

/-- Slices of pairs of numbers. -/
def Pairs (H : Hp) (v : Value) (n : Nat) : Prop :=
  ∃ (a : Option Addr) (c : Nat), v = .slice a n c ∧ (n = 0 ∨ ∃ b vs, a = some ⟨b, 0, none⟩ ∧ H.f b = some (.cells false 2 vs) ∧
    ∀ i, i < n → ∃ x y : Int, (Blk.cells false 2 vs).sub (0 + i * 2) 2 = some [.int .i64 x, .int .i64 y] ∧ (-9223372036854775808 ≤ x ∧ x ≤ 9223372036854775807) ∧ (-9223372036854775808 ≤ y ∧ y ≤ 9223372036854775807))

theorem Rd.le {H H' : Hp} {r : Nat} {l : List UInt8} (h : Rd H r l) (hle : H.le H') : Rd H' r l := by
  obtain ⟨b, o, m, c, L, h1, h2, h3, h4, h5⟩ := h
  exact ⟨b, o, m, c, L, hle.f _ _ h1, hle.f _ _ h2, h3, h4, h5⟩
theorem RdR.le {H H' : Hp} {r : Nat} {l : List UInt8} (h : RdR H r l) (hle : H.le H') : RdR H' r l := hle.f _ _ h
theorem Rd.setq {H : Hp} {r q : Nat} {l l2 : List UInt8} (h : Rd H r l) (hq : RdR H q l2) (hne : r ≠ q) (x : Blk) : Rd (H.set q x) r l := by
  obtain ⟨b, o, m, c, L, h1, h2, h3, h4, h5⟩ := h
  refine ⟨b, o, m, c, L, (set_other x hne).trans h1, (set_other x ?_).trans h2, h3, h4, h5⟩
  intro e
  subst e
  rw [hq] at h2
  cases h2
theorem RdR.setr {H : Hp} {r q : Nat} {l : List UInt8} (h : RdR H q l) (hne : q ≠ r) (x : Blk) : RdR (H.set r x) q l := (set_other x hne).trans h
theorem numL_le (l : List UInt8) (n : Int) : (numL l n).length ≤ l.length := by unfold numL; split <;> simp
theorem takeL_le (l : List UInt8) (n : Int) : (takeL l n).length ≤ l.length := by unfold takeL; split <;> simp
theorem textL_le (l : List UInt8) (n : Int) : (textL l n).length ≤ l.length := by unfold textL; split <;> simp

theorem wireReads_CF {H : Hp} {s : List UInt8} {lv : Value} {n : Nat} (hs : s.length ≤ 9223372036854775807) (hn0 : n ≤ 9223372036854775807) (hl : Pairs H lv n) : CF Try.prog 3 [S s, lv] H fun v H' => v = .bool true := by
  obtain ⟨la, lc, rfl, hl⟩ := hl
  refine CF.wf fun hw => ?_
  have hnew := fun (H : Hp) (l : List UInt8) => CF.co noOwn rfl rfl (new_CF (H := H) l)
  have hnewR := fun (H : Hp) (l : List UInt8) => CF.co noOwn rfl rfl (newR_CF (H := H) l)
  refine CF.go _ Try.func3 rfl ⟨Nat.le_of_ble_eq_true rfl, rfl⟩ fun base hb0 hn => ?_
  subst hb0
  refine TC.seq ?_
  refine TC.region (id := 0) ?_
  refine TO.w hn (.assign _) rfl (guard0 rfl) (lop_assign (agree hn) rfl) rfl ?_
  refine TO.nil ?_
  refine TC.seq ?_
  refine TC.region (id := 1) ?_
  refine TO.w hn (.move _) rfl (guard0 rfl) (lop_move (agree hn) rfl) rfl ?_
  refine TO.w hn (.move _) rfl (guard0 rfl) (lop_move (agree hn) rfl) rfl ?_
  refine TO.w hn (.call _) rfl (guard0 rfl) (lop_built (agree hn) rfl rfl (lbuiltin_lenS rfl)) rfl ?_
  refine TO.w hn (.call _) rfl (guard0 rfl) (lop_built (agree hn) rfl rfl rfl) rfl ?_
  refine TO.w hn (.slice _ _ _ _ _) rfl (guard0 rfl) (lop_slice (agree hn) rfl rfl rfl rfl (lsliceS rfl (by exact lboundI (by omega) (by omega)) (by exact lbound0))) rfl ?_
  refine TO.w hn (.assign _) rfl (guard0 rfl) (lop_assign (agree hn) rfl) rfl ?_
  refine TO.nil ?_
  refine TC.seq ?_
  refine TC.region (id := 2) ?_
  refine TO.w hn (.move _) rfl (guard0 rfl) (lop_move (agree hn) rfl) rfl ?_
  (refine TO.wc hn (.call _) rfl (guard0 rfl) (lop_func (agree hn) rfl rfl rfl) rfl (hnew _ _) (fun v H2 hR => ?_); obtain ⟨rfl, hle1, hn1, hr⟩ := hR)
  refine TO.w hn (.move _) rfl (guard0 rfl) (lop_move (agree hn) rfl) rfl ?_
  (refine TO.wc hn (.call _) rfl (guard0 rfl) (lop_func (agree hn) rfl rfl rfl) rfl (hnewR _ _) (fun v H2 hR => ?_); (obtain ⟨rfl, hle2, hn2, hq⟩ := hR; rw [hn1] at hq hn2 ⊢))
  refine TO.w hn (.assign _) rfl (guard0 rfl) (lop_assign (agree hn) rfl) rfl ?_
  refine TO.w hn (.assign _) rfl (guard0 rfl) (lop_assign (agree hn) rfl) rfl ?_
  refine TO.nil ?_
  refine TC.seq ?_
  refine TC.seq ?_
  refine TC.region (id := 3) ?_
  refine TO.w hn (.move _) rfl (guard0 rfl) (lop_move (agree hn) rfl) rfl ?_
  refine TO.w hn (.binOp _ _ _ _ _) rfl (guard0 rfl) (lop_binF (agree hn) rfl rfl rfl (by with_reducible rfl)) rfl ?_
  refine TO.nil ?_
  refine TC.condF (agree hn) rfl rfl ?_
  refine TC.skip ?_
  refine TC.seq ?_
  refine TC.seq ?_
  refine TC.region (id := 5) ?_
  refine TO.w hn (.assign _) rfl (guard0 rfl) (lop_assign (agree hn) rfl) rfl ?_
  refine TO.nil ?_
  refine TC.block ?_
  have hl5 : (List.take ((if (5000 : Int) < s.length then 5000 else (s.length : Int)).toNat - 0) (List.drop 0 s)).length ≤ 5000 := by
    rw [List.length_take]
    split <;> omega
  generalize List.take ((if (5000 : Int) < s.length then 5000 else (s.length : Int)).toNat - 0) (List.drop 0 s) = l0 at hr hq hl5
  have hr := hr.le hle2
  have hqr : H.n + 2 ≠ H.n + 1 := by omega
  refine TC.loopI (fun m fr H' => ∃ (i : Nat) (l : List UInt8), m + i = n ∧ fr.length = 124 ∧ Facts fr [(1, .slice la n lc), (5, .pointer (some ⟨H.n + 1, 0, none⟩)), (6, .pointer (some ⟨H.n + 2, 0, none⟩)), (7, .int .i64 (i : Nat))] ∧ Rd H' (H.n + 1) l ∧ RdR H' (H.n + 2) l ∧ l.length ≤ 5000 ∧ H.le H' ∧ H2.n ≤ H'.n) n
    ⟨0, l0, by omega, (mkF_length _ _).trans hn, Facts.of (agree hn) ⟨rfl, rfl, rfl, rfl, trivial⟩, hr, hq, hl5, hle1.trans hle2, Nat.le_refl _⟩ ?_
  clear hn
  rintro m fr H' ⟨i, l, hi, hn, hf, hr, hq, hl5, hle, hge⟩
  refine TC.wf fun hw' => ?_
  refine TC.facts _ hf ?_
  by_cases hin : i < n
  · by_cases hi60 : i < 60
    · rcases hl with h0 | ⟨b, vs, rfl, hb, hvs⟩
      · omega
      · obtain ⟨x, y, hxy, hx, hy⟩ := hvs i hin
        have hb' := hle.f _ _ hb
        refine TC.seq ?_
        refine TC.seq ?_
        refine TC.region (id := 6) ?_
        refine TO.w hn (.move _) rfl (guard0 rfl) (lop_move (agree hn) rfl) rfl ?_
        refine TO.w hn (.move _) rfl (guard0 rfl) (lop_move (agree hn) rfl) rfl ?_
        refine TO.w hn (.call _) rfl (guard0 rfl) (lop_built (agree hn) rfl rfl (lbuiltin_lenL rfl)) rfl ?_
        refine TO.w hn (.binOp _ _ _ _ _) rfl (guard0 rfl) (lop_binT (agree hn) rfl rfl rfl (by exact decide_eq_true (by omega))) rfl ?_
        refine TO.w hn (.move _) rfl (guard0 rfl) (lop_move (agree hn) rfl) rfl ?_
        refine TO.w hn (.move _) rfl (guardOn (agree hn) rfl rfl rfl rfl) (lop_move (agree hn) rfl) rfl ?_
        refine TO.w hn (.binOp _ _ _ _ _) rfl (guardOn (agree hn) rfl rfl rfl rfl) (lop_binT (agree hn) rfl rfl rfl (by exact decide_eq_true (by omega))) rfl ?_
        refine TO.w hn (.pick _ _ _) rfl (guard0 rfl) (lop_pickT (agree hn) rfl rfl rfl) rfl ?_
        refine TO.nil ?_
        refine TC.condT (agree hn) rfl rfl ?_
        refine TC.skip ?_
        refine TC.seq ?_
        refine TC.block ?_
        refine TC.seq ?_
        refine TC.region (id := 8) ?_
        refine TO.w hn (.move _) rfl (guard0 rfl) (lop_move (agree hn) rfl) rfl ?_
        refine TO.w hn (.move _) rfl (guard0 rfl) (lop_move (agree hn) rfl) rfl ?_
        refine TO.w hn (.indexAddr _ _ _) rfl (guard0 rfl) (lop_ia (agree hn) rfl rfl rfl rfl (by omega) (by omega)) rfl ?_
        refine TO.w hn (.load _ _) rfl (guard0 rfl) (lop_loadA (agree hn) rfl (by assumption) rfl rfl (by assumption)) rfl ?_
        refine TO.w hn (.alloc _) rfl (guard0 rfl) (lop_alloc (agree hn) rfl) rfl ?_
        refine TO.w0 hn (.store _ _ _) rfl (guard0 rfl) (lop_store (agree hn) rfl rfl (by exact new_self _ _) rfl rfl rfl) rfl ?_
        refine TO.nil ?_
        refine TC.seq ?_
        refine TC.seq ?_
        have hA : H'.le ((H'.new (.cells true 1 (cellsOf (.agg #[.int .i64 0, .int .i64 0])))).set H'.n (.cells true 1 (((cellsOf (.agg #[.int .i64 0, .int .i64 0])).set 0 (.int .i64 x)).set (0 + 1) (.int .i64 y)))) := (Hp.le.new _ hw').set' hw' (Nat.le_refl _) _
        have hxA : ((H'.new (.cells true 1 (cellsOf (.agg #[.int .i64 0, .int .i64 0])))).set H'.n (.cells true 1 (((cellsOf (.agg #[.int .i64 0, .int .i64 0])).set 0 (.int .i64 x)).set (0 + 1) (.int .i64 y)))).f H'.n = some (.cells true 1 [.int .i64 x, .int .i64 y]) := set_self _ _ _
        generalize ((H'.new (.cells true 1 (cellsOf (.agg #[.int .i64 0, .int .i64 0])))).set H'.n (.cells true 1 (((cellsOf (.agg #[.int .i64 0, .int .i64 0])).set 0 (.int .i64 x)).set (0 + 1) (.int .i64 y)))) = A at hA hxA ⊢
        have hAn := hA.n
        have hrA := hr.le hA
        have hqA := hq.le hA
        by_cases hx0 : x = 0
        ·
          refine TC.region (id := 9) ?_
          refine TO.w hn (.fieldAddr _ _ _) rfl (guard0 rfl) (lop_fa (agree hn) rfl rfl) rfl ?_
          refine TO.w hn (.load _ _) rfl (guard0 rfl) (lop_load (agree hn) rfl (by assumption) rfl rfl) rfl ?_
          refine TO.nil ?_
          refine TC.block ?_
          refine TC.seq ?_
          refine TC.region (id := 14) ?_
          refine TO.w hn (.binOp _ _ _ _ _) rfl (guard0 rfl) (lop_binT (agree hn) rfl rfl rfl (by exact decide_eq_true (by omega))) rfl ?_
          refine TO.w hn (.assign _) rfl (guard0 rfl) (lop_assign (agree hn) rfl) rfl ?_
          refine TO.nil ?_
          refine TC.condT (agree hn) rfl rfl ?_
          refine TC.seq ?_
          refine TC.region (id := 15) ?_
          refine TO.w hn (.move _) rfl (guard0 rfl) (lop_move (agree hn) rfl) rfl ?_
          refine TO.w hn (.fieldAddr _ _ _) rfl (guard0 rfl) (lop_fa (agree hn) rfl rfl) rfl ?_
          refine TO.w hn (.load _ _) rfl (guard0 rfl) (lop_load (agree hn) rfl (by assumption) rfl rfl) rfl ?_
          (refine TO.wc hn (.call _) rfl (guard0 rfl) (lop_func (agree hn) rfl rfl rfl) rfl (CF.co noOwn rfl rfl (number_any hrA)) (fun v H2 hR => ?_); (obtain ⟨rfl, x1, rfl, hr1⟩ := hR; have hq1 := hqA.setr hqr x1))
          refine TO.w hn (.move _) rfl (guard0 rfl) (lop_move (agree hn) rfl) rfl ?_
          refine TO.w hn (.extract _ _) rfl (guard0 rfl) (lop_ex (agree hn) rfl rfl) rfl ?_
          refine TO.w hn (.extract _ _) rfl (guard0 rfl) (lop_ex (agree hn) rfl rfl) rfl ?_
          refine TO.w hn (.assign _) rfl (guard0 rfl) (lop_assign (agree hn) rfl) rfl ?_
          refine TO.w hn (.assign _) rfl (guard0 rfl) (lop_assign (agree hn) rfl) rfl ?_
          refine TO.nil ?_
          refine TC.seq ?_
          refine TC.region (id := 16) ?_
          refine TO.w hn (.move _) rfl (guard0 rfl) (lop_move (agree hn) rfl) rfl ?_
          refine TO.w hn (.fieldAddr _ _ _) rfl (guard0 rfl) (lop_fa (agree hn) rfl rfl) rfl ?_
          refine TO.w hn (.load _ _) rfl (guard0 rfl) (lop_load (agree hn) rfl (by (repeat (first | exact new_self _ _ | exact set_self _ _ _ | exact move_self _ _ _ | assumption | refine (set_other _ (by first | assumption | omega | (simp only [new_n, set_n, move_n] at *; omega))).trans ?_ | refine (new_other _ (by first | assumption | omega | (simp only [new_n, set_n, move_n] at *; omega))).trans ?_ | refine (move_other _ (by first | assumption | omega | (simp only [new_n, set_n, move_n] at *; omega)) (by first | assumption | omega | (simp only [new_n, set_n, move_n] at *; omega))).trans ?_ | refine Hp.le.fe (by assumption) ?_ rfl))) rfl rfl) rfl ?_
          (refine TO.wc hn (.call _) rfl (guard0 rfl) (lop_func (agree hn) rfl rfl rfl) rfl (CF.co noOwn rfl rfl (numberR_any hq1)) (fun v H2 hR => ?_); (obtain ⟨rfl, e9⟩ := hR; cases e9.symm; have hr2 := hr1.setq hq1 hqr.symm (.cells true 1 [S (numL l y)]); have hq2 : RdR ((A.set (H.n + 1) x1).set (H.n + 2) (.cells true 1 [S (numL l y)])) (H.n + 2) (numL l y) := set_self _ _ _))
          refine TO.w hn (.move _) rfl (guard0 rfl) (lop_move (agree hn) rfl) rfl ?_
          refine TO.w hn (.extract _ _) rfl (guard0 rfl) (lop_ex (agree hn) rfl rfl) rfl ?_
          refine TO.w hn (.extract _ _) rfl (guard0 rfl) (lop_ex (agree hn) rfl rfl) rfl ?_
          refine TO.w hn (.assign _) rfl (guard0 rfl) (lop_assign (agree hn) rfl) rfl ?_
          refine TO.w hn (.assign _) rfl (guard0 rfl) (lop_assign (agree hn) rfl) rfl ?_
          refine TO.nil ?_
          refine TC.seq ?_
          refine TC.region (id := 17) ?_
          refine TO.w hn (.move _) rfl (guard0 rfl) (lop_move (agree hn) rfl) rfl ?_
          refine TO.w hn (.move _) rfl (guard0 rfl) (lop_move (agree hn) rfl) rfl ?_
          refine TO.w hn (.binOp _ _ _ _ _) rfl (guard0 rfl) (lop_binF (agree hn) rfl rfl rfl (by exact bne_self_eq_false _)) rfl ?_
          refine TO.w hn (.move _) rfl (guard0 rfl) (lop_move (agree hn) rfl) rfl ?_
          refine TO.w hn (.move _) rfl (guardOn (agree hn) rfl rfl rfl rfl) (lop_move (agree hn) rfl) rfl ?_
          refine TO.w hn (.move _) rfl (guardOn (agree hn) rfl rfl rfl rfl) (lop_move (agree hn) rfl) rfl ?_
          refine TO.w hn (.binOp _ _ _ _ _) rfl (guardOn (agree hn) rfl rfl rfl rfl) (lop_neBB (agree hn) rfl rfl rfl (by with_reducible rfl)) rfl ?_
          refine TO.w hn (.pick _ _ _) rfl (guard0 rfl) (lop_pickF (agree hn) rfl rfl rfl) rfl ?_
          refine TO.nil ?_
          refine TC.condF (agree hn) rfl rfl ?_
          refine TC.skip ?_
          refine TC.seq ?_
          refine TC.region (id := 24) ?_
          refine TO.w hn (.move _) rfl (guard0 rfl) (lop_move (agree hn) rfl) rfl ?_
          (refine TO.wc hn (.call _) rfl (guard0 rfl) (lop_func (agree hn) rfl rfl rfl) rfl (CF.co noOwn rfl rfl (left_CF hr2)) (fun v H2 hR => ?_); (obtain ⟨rfl, e2⟩ := hR; cases e2.symm))
          refine TO.w hn (.move _) rfl (guard0 rfl) (lop_move (agree hn) rfl) rfl ?_
          (refine TO.wc hn (.call _) rfl (guard0 rfl) (lop_func (agree hn) rfl rfl rfl) rfl (CF.co noOwn rfl rfl (leftR_CF hq2)) (fun v H2 hR => ?_); (obtain ⟨rfl, e2⟩ := hR; cases e2.symm))
          refine TO.w hn (.binOp _ _ _ _ _) rfl (guard0 rfl) (lop_binF (agree hn) rfl rfl rfl (by exact bne_self_eq_false _)) rfl ?_
          refine TO.nil ?_
          refine TC.condF (agree hn) rfl rfl ?_
          refine TC.skip ?_
          refine TC.region (id := 7) ?_
          refine TO.w hn (.move _) rfl (guard0 rfl) (lop_move (agree hn) rfl) rfl ?_
          refine TO.w hn (.binOp _ _ _ _ _) rfl (guard0 rfl) (lop_binI (agree hn) rfl rfl rfl rfl (by omega) (by omega)) rfl ?_
          refine TO.w hn (.assign _) rfl (guard0 rfl) (lop_assign (agree hn) rfl) rfl ?_
          refine TO.nil ?_
          refine ⟨m - 1, by omega, i + 1, numL l y, by omega, (mkF_length _ _).trans hn, Facts.of (agree hn) ⟨rfl, rfl, rfl, rfl, trivial⟩, hr2, hq2, ?_, ((hle.trans hA).set' hw (by omega) _).set' hw (by omega) _, ?_⟩
          · have := numL_le l y
            omega
          · simp only [set_n]
            omega
        · by_cases hx1 : x = 1
          ·
            refine TC.region (id := 9) ?_
            refine TO.w hn (.fieldAddr _ _ _) rfl (guard0 rfl) (lop_fa (agree hn) rfl rfl) rfl ?_
            refine TO.w hn (.load _ _) rfl (guard0 rfl) (lop_load (agree hn) rfl (by assumption) rfl rfl) rfl ?_
            refine TO.nil ?_
            refine TC.block ?_
            refine TC.seq ?_
            refine TC.region (id := 14) ?_
            refine TO.w hn (.binOp _ _ _ _ _) rfl (guard0 rfl) (lop_binF (agree hn) rfl rfl rfl (by exact decide_eq_false (by omega))) rfl ?_
            refine TO.w hn (.assign _) rfl (guard0 rfl) (lop_assign (agree hn) rfl) rfl ?_
            refine TO.nil ?_
            refine TC.condF (agree hn) rfl rfl ?_
            refine TC.seq ?_
            refine TC.region (id := 19) ?_
            refine TO.w hn (.binOp _ _ _ _ _) rfl (guard0 rfl) (lop_binT (agree hn) rfl rfl rfl (by exact decide_eq_true (by omega))) rfl ?_
            refine TO.w hn (.assign _) rfl (guard0 rfl) (lop_assign (agree hn) rfl) rfl ?_
            refine TO.nil ?_
            refine TC.condT (agree hn) rfl rfl ?_
            refine TC.seq ?_
            refine TC.region (id := 20) ?_
            refine TO.w hn (.move _) rfl (guard0 rfl) (lop_move (agree hn) rfl) rfl ?_
            refine TO.w hn (.fieldAddr _ _ _) rfl (guard0 rfl) (lop_fa (agree hn) rfl rfl) rfl ?_
            refine TO.w hn (.load _ _) rfl (guard0 rfl) (lop_load (agree hn) rfl (by assumption) rfl rfl) rfl ?_
            (refine TO.wc hn (.call _) rfl (guard0 rfl) (lop_func (agree hn) rfl rfl rfl) rfl (CF.co noOwn rfl rfl (text_any hrA (by omega) (by omega))) (fun v H2 hR => ?_); (obtain ⟨rfl, x1, rfl, hr1⟩ := hR; have hq1 := hqA.setr hqr x1))
            refine TO.w hn (.move _) rfl (guard0 rfl) (lop_move (agree hn) rfl) rfl ?_
            refine TO.w hn (.extract _ _) rfl (guard0 rfl) (lop_ex (agree hn) rfl rfl) rfl ?_
            refine TO.w hn (.extract _ _) rfl (guard0 rfl) (lop_ex (agree hn) rfl rfl) rfl ?_
            refine TO.w hn (.assign _) rfl (guard0 rfl) (lop_assign (agree hn) rfl) rfl ?_
            refine TO.w hn (.assign _) rfl (guard0 rfl) (lop_assign (agree hn) rfl) rfl ?_
            refine TO.nil ?_
            refine TC.seq ?_
            refine TC.region (id := 21) ?_
            refine TO.w hn (.move _) rfl (guard0 rfl) (lop_move (agree hn) rfl) rfl ?_
            refine TO.w hn (.fieldAddr _ _ _) rfl (guard0 rfl) (lop_fa (agree hn) rfl rfl) rfl ?_
            refine TO.w hn (.load _ _) rfl (guard0 rfl) (lop_load (agree hn) rfl (by (repeat (first | exact new_self _ _ | exact set_self _ _ _ | exact move_self _ _ _ | assumption | refine (set_other _ (by first | assumption | omega | (simp only [new_n, set_n, move_n] at *; omega))).trans ?_ | refine (new_other _ (by first | assumption | omega | (simp only [new_n, set_n, move_n] at *; omega))).trans ?_ | refine (move_other _ (by first | assumption | omega | (simp only [new_n, set_n, move_n] at *; omega)) (by first | assumption | omega | (simp only [new_n, set_n, move_n] at *; omega))).trans ?_ | refine Hp.le.fe (by assumption) ?_ rfl))) rfl rfl) rfl ?_
            (refine TO.wc hn (.call _) rfl (guard0 rfl) (lop_func (agree hn) rfl rfl rfl) rfl (CF.co noOwn rfl rfl (textR_any hq1 (by omega) (by omega))) (fun v H2 hR => ?_); (obtain ⟨rfl, e9⟩ := hR; cases e9.symm; have hr2 := hr1.setq hq1 hqr.symm (.cells true 1 [S (textL l y)]); have hq2 : RdR ((A.set (H.n + 1) x1).set (H.n + 2) (.cells true 1 [S (textL l y)])) (H.n + 2) (textL l y) := set_self _ _ _))
            refine TO.w hn (.move _) rfl (guard0 rfl) (lop_move (agree hn) rfl) rfl ?_
            refine TO.w hn (.extract _ _) rfl (guard0 rfl) (lop_ex (agree hn) rfl rfl) rfl ?_
            refine TO.w hn (.extract _ _) rfl (guard0 rfl) (lop_ex (agree hn) rfl rfl) rfl ?_
            refine TO.w hn (.assign _) rfl (guard0 rfl) (lop_assign (agree hn) rfl) rfl ?_
            refine TO.w hn (.assign _) rfl (guard0 rfl) (lop_assign (agree hn) rfl) rfl ?_
            refine TO.nil ?_
            refine TC.seq ?_
            refine TC.region (id := 22) ?_
            refine TO.w hn (.move _) rfl (guard0 rfl) (lop_move (agree hn) rfl) rfl ?_
            refine TO.w hn (.move _) rfl (guard0 rfl) (lop_move (agree hn) rfl) rfl ?_
            refine TO.w hn (.binOp _ _ _ _ _) rfl (guard0 rfl) (lop_neSF (agree hn) rfl rfl (by rfl)) rfl ?_
            refine TO.w hn (.move _) rfl (guard0 rfl) (lop_move (agree hn) rfl) rfl ?_
            refine TO.w hn (.move _) rfl (guardOn (agree hn) rfl rfl rfl rfl) (lop_move (agree hn) rfl) rfl ?_
            refine TO.w hn (.move _) rfl (guardOn (agree hn) rfl rfl rfl rfl) (lop_move (agree hn) rfl) rfl ?_
            refine TO.w hn (.binOp _ _ _ _ _) rfl (guardOn (agree hn) rfl rfl rfl rfl) (lop_neBB (agree hn) rfl rfl rfl (by with_reducible rfl)) rfl ?_
            refine TO.w hn (.pick _ _ _) rfl (guard0 rfl) (lop_pickF (agree hn) rfl rfl rfl) rfl ?_
            refine TO.nil ?_
            refine TC.condF (agree hn) rfl rfl ?_
            refine TC.skip ?_
            refine TC.seq ?_
            refine TC.region (id := 24) ?_
            refine TO.w hn (.move _) rfl (guard0 rfl) (lop_move (agree hn) rfl) rfl ?_
            (refine TO.wc hn (.call _) rfl (guard0 rfl) (lop_func (agree hn) rfl rfl rfl) rfl (CF.co noOwn rfl rfl (left_CF hr2)) (fun v H2 hR => ?_); (obtain ⟨rfl, e2⟩ := hR; cases e2.symm))
            refine TO.w hn (.move _) rfl (guard0 rfl) (lop_move (agree hn) rfl) rfl ?_
            (refine TO.wc hn (.call _) rfl (guard0 rfl) (lop_func (agree hn) rfl rfl rfl) rfl (CF.co noOwn rfl rfl (leftR_CF hq2)) (fun v H2 hR => ?_); (obtain ⟨rfl, e2⟩ := hR; cases e2.symm))
            refine TO.w hn (.binOp _ _ _ _ _) rfl (guard0 rfl) (lop_binF (agree hn) rfl rfl rfl (by exact bne_self_eq_false _)) rfl ?_
            refine TO.nil ?_
            refine TC.condF (agree hn) rfl rfl ?_
            refine TC.skip ?_
            refine TC.region (id := 7) ?_
            refine TO.w hn (.move _) rfl (guard0 rfl) (lop_move (agree hn) rfl) rfl ?_
            refine TO.w hn (.binOp _ _ _ _ _) rfl (guard0 rfl) (lop_binI (agree hn) rfl rfl rfl rfl (by omega) (by omega)) rfl ?_
            refine TO.w hn (.assign _) rfl (guard0 rfl) (lop_assign (agree hn) rfl) rfl ?_
            refine TO.nil ?_
            refine ⟨m - 1, by omega, i + 1, textL l y, by omega, (mkF_length _ _).trans hn, Facts.of (agree hn) ⟨rfl, rfl, rfl, rfl, trivial⟩, hr2, hq2, ?_, ((hle.trans hA).set' hw (by omega) _).set' hw (by omega) _, ?_⟩
            · have := textL_le l y
              omega
            · simp only [set_n]
              omega
          ·
            refine TC.region (id := 9) ?_
            refine TO.w hn (.fieldAddr _ _ _) rfl (guard0 rfl) (lop_fa (agree hn) rfl rfl) rfl ?_
            refine TO.w hn (.load _ _) rfl (guard0 rfl) (lop_load (agree hn) rfl (by assumption) rfl rfl) rfl ?_
            refine TO.nil ?_
            refine TC.block ?_
            refine TC.seq ?_
            refine TC.region (id := 14) ?_
            refine TO.w hn (.binOp _ _ _ _ _) rfl (guard0 rfl) (lop_binF (agree hn) rfl rfl rfl (by exact decide_eq_false (by omega))) rfl ?_
            refine TO.w hn (.assign _) rfl (guard0 rfl) (lop_assign (agree hn) rfl) rfl ?_
            refine TO.nil ?_
            refine TC.condF (agree hn) rfl rfl ?_
            refine TC.seq ?_
            refine TC.region (id := 19) ?_
            refine TO.w hn (.binOp _ _ _ _ _) rfl (guard0 rfl) (lop_binF (agree hn) rfl rfl rfl (by exact decide_eq_false (by omega))) rfl ?_
            refine TO.w hn (.assign _) rfl (guard0 rfl) (lop_assign (agree hn) rfl) rfl ?_
            refine TO.nil ?_
            refine TC.condF (agree hn) rfl rfl ?_
            refine TC.seq ?_
            refine TC.region (id := 10) ?_
            refine TO.w hn (.move _) rfl (guard0 rfl) (lop_move (agree hn) rfl) rfl ?_
            refine TO.w hn (.fieldAddr _ _ _) rfl (guard0 rfl) (lop_fa (agree hn) rfl rfl) rfl ?_
            refine TO.w hn (.load _ _) rfl (guard0 rfl) (lop_load (agree hn) rfl (by assumption) rfl rfl) rfl ?_
            (refine TO.wc hn (.call _) rfl (guard0 rfl) (lop_func (agree hn) rfl rfl rfl) rfl (CF.co noOwn rfl rfl (take_any hrA)) (fun v H2 hR => ?_); (obtain ⟨rfl, x1, rfl, hr1⟩ := hR; have hq1 := hqA.setr hqr x1))
            refine TO.w hn (.move _) rfl (guard0 rfl) (lop_move (agree hn) rfl) rfl ?_
            refine TO.w hn (.extract _ _) rfl (guard0 rfl) (lop_ex (agree hn) rfl rfl) rfl ?_
            refine TO.w hn (.extract _ _) rfl (guard0 rfl) (lop_ex (agree hn) rfl rfl) rfl ?_
            refine TO.w hn (.assign _) rfl (guard0 rfl) (lop_assign (agree hn) rfl) rfl ?_
            refine TO.w hn (.assign _) rfl (guard0 rfl) (lop_assign (agree hn) rfl) rfl ?_
            refine TO.nil ?_
            refine TC.seq ?_
            refine TC.region (id := 11) ?_
            refine TO.w hn (.move _) rfl (guard0 rfl) (lop_move (agree hn) rfl) rfl ?_
            refine TO.w hn (.fieldAddr _ _ _) rfl (guard0 rfl) (lop_fa (agree hn) rfl rfl) rfl ?_
            refine TO.w hn (.load _ _) rfl (guard0 rfl) (lop_load (agree hn) rfl (by (repeat (first | exact new_self _ _ | exact set_self _ _ _ | exact move_self _ _ _ | assumption | refine (set_other _ (by first | assumption | omega | (simp only [new_n, set_n, move_n] at *; omega))).trans ?_ | refine (new_other _ (by first | assumption | omega | (simp only [new_n, set_n, move_n] at *; omega))).trans ?_ | refine (move_other _ (by first | assumption | omega | (simp only [new_n, set_n, move_n] at *; omega)) (by first | assumption | omega | (simp only [new_n, set_n, move_n] at *; omega))).trans ?_ | refine Hp.le.fe (by assumption) ?_ rfl))) rfl rfl) rfl ?_
            (refine TO.wc hn (.call _) rfl (guard0 rfl) (lop_func (agree hn) rfl rfl rfl) rfl (CF.co noOwn rfl rfl (takeR_any hq1)) (fun v H2 hR => ?_); (obtain ⟨rfl, e9⟩ := hR; cases e9.symm; have hr2 := hr1.setq hq1 hqr.symm (.cells true 1 [S (takeL l y)]); have hq2 : RdR ((A.set (H.n + 1) x1).set (H.n + 2) (.cells true 1 [S (takeL l y)])) (H.n + 2) (takeL l y) := set_self _ _ _))
            refine TO.w hn (.move _) rfl (guard0 rfl) (lop_move (agree hn) rfl) rfl ?_
            refine TO.w hn (.extract _ _) rfl (guard0 rfl) (lop_ex (agree hn) rfl rfl) rfl ?_
            refine TO.w hn (.extract _ _) rfl (guard0 rfl) (lop_ex (agree hn) rfl rfl) rfl ?_
            refine TO.w hn (.assign _) rfl (guard0 rfl) (lop_assign (agree hn) rfl) rfl ?_
            refine TO.w hn (.assign _) rfl (guard0 rfl) (lop_assign (agree hn) rfl) rfl ?_
            refine TO.nil ?_
            refine TC.seq ?_
            refine TC.region (id := 12) ?_
            refine TO.w hn (.move _) rfl (guard0 rfl) (lop_move (agree hn) rfl) rfl ?_
            refine TO.w hn (.move _) rfl (guard0 rfl) (lop_move (agree hn) rfl) rfl ?_
            refine TO.w hn (.binOp _ _ _ _ _) rfl (guard0 rfl) (lop_neSF (agree hn) rfl rfl (by rfl)) rfl ?_
            refine TO.w hn (.move _) rfl (guard0 rfl) (lop_move (agree hn) rfl) rfl ?_
            refine TO.w hn (.move _) rfl (guardOn (agree hn) rfl rfl rfl rfl) (lop_move (agree hn) rfl) rfl ?_
            refine TO.w hn (.move _) rfl (guardOn (agree hn) rfl rfl rfl rfl) (lop_move (agree hn) rfl) rfl ?_
            refine TO.w hn (.binOp _ _ _ _ _) rfl (guardOn (agree hn) rfl rfl rfl rfl) (lop_neBB (agree hn) rfl rfl rfl (by with_reducible rfl)) rfl ?_
            refine TO.w hn (.pick _ _ _) rfl (guard0 rfl) (lop_pickF (agree hn) rfl rfl rfl) rfl ?_
            refine TO.nil ?_
            refine TC.condF (agree hn) rfl rfl ?_
            refine TC.skip ?_
            refine TC.seq ?_
            refine TC.region (id := 24) ?_
            refine TO.w hn (.move _) rfl (guard0 rfl) (lop_move (agree hn) rfl) rfl ?_
            (refine TO.wc hn (.call _) rfl (guard0 rfl) (lop_func (agree hn) rfl rfl rfl) rfl (CF.co noOwn rfl rfl (left_CF hr2)) (fun v H2 hR => ?_); (obtain ⟨rfl, e2⟩ := hR; cases e2.symm))
            refine TO.w hn (.move _) rfl (guard0 rfl) (lop_move (agree hn) rfl) rfl ?_
            (refine TO.wc hn (.call _) rfl (guard0 rfl) (lop_func (agree hn) rfl rfl rfl) rfl (CF.co noOwn rfl rfl (leftR_CF hq2)) (fun v H2 hR => ?_); (obtain ⟨rfl, e2⟩ := hR; cases e2.symm))
            refine TO.w hn (.binOp _ _ _ _ _) rfl (guard0 rfl) (lop_binF (agree hn) rfl rfl rfl (by exact bne_self_eq_false _)) rfl ?_
            refine TO.nil ?_
            refine TC.condF (agree hn) rfl rfl ?_
            refine TC.skip ?_
            refine TC.region (id := 7) ?_
            refine TO.w hn (.move _) rfl (guard0 rfl) (lop_move (agree hn) rfl) rfl ?_
            refine TO.w hn (.binOp _ _ _ _ _) rfl (guard0 rfl) (lop_binI (agree hn) rfl rfl rfl rfl (by omega) (by omega)) rfl ?_
            refine TO.w hn (.assign _) rfl (guard0 rfl) (lop_assign (agree hn) rfl) rfl ?_
            refine TO.nil ?_
            refine ⟨m - 1, by omega, i + 1, takeL l y, by omega, (mkF_length _ _).trans hn, Facts.of (agree hn) ⟨rfl, rfl, rfl, rfl, trivial⟩, hr2, hq2, ?_, ((hle.trans hA).set' hw (by omega) _).set' hw (by omega) _, ?_⟩
            · have := takeL_le l y
              omega
            · simp only [set_n]
              omega
    ·
      refine TC.seq ?_
      refine TC.seq ?_
      refine TC.region (id := 6) ?_
      refine TO.w hn (.move _) rfl (guard0 rfl) (lop_move (agree hn) rfl) rfl ?_
      refine TO.w hn (.move _) rfl (guard0 rfl) (lop_move (agree hn) rfl) rfl ?_
      refine TO.w hn (.call _) rfl (guard0 rfl) (lop_built (agree hn) rfl rfl (lbuiltin_lenL rfl)) rfl ?_
      refine TO.w hn (.binOp _ _ _ _ _) rfl (guard0 rfl) (lop_binT (agree hn) rfl rfl rfl (by exact decide_eq_true (by omega))) rfl ?_
      refine TO.w hn (.move _) rfl (guard0 rfl) (lop_move (agree hn) rfl) rfl ?_
      refine TO.w hn (.move _) rfl (guardOn (agree hn) rfl rfl rfl rfl) (lop_move (agree hn) rfl) rfl ?_
      refine TO.w hn (.binOp _ _ _ _ _) rfl (guardOn (agree hn) rfl rfl rfl rfl) (lop_binF (agree hn) rfl rfl rfl (by exact decide_eq_false (by omega))) rfl ?_
      refine TO.w hn (.pick _ _ _) rfl (guard0 rfl) (lop_pickT (agree hn) rfl rfl rfl) rfl ?_
      refine TO.nil ?_
      refine TC.condF (agree hn) rfl rfl ?_
      refine TC.exit ?_
      refine TC.seq ?_
      refine TC.region (id := 26) ?_
      (refine TO.wc hn (.call _) rfl (guard0 rfl) (lop_func (agree hn) rfl rfl rfl) rfl (CF.co noOwn rfl rfl works_CF) (fun v H2 hR => ?_); (obtain ⟨rfl, e2⟩ := hR; cases e2.symm))
      refine TO.w hn (.assign _) rfl (guard0 rfl) (lop_assign (agree hn) rfl) rfl ?_
      refine TO.nil ?_
      refine TC.ret ?_
      exact ⟨trivial, _, lres1 (agree hn) rfl, rfl⟩
  ·
    refine TC.seq ?_
    refine TC.seq ?_
    refine TC.region (id := 6) ?_
    refine TO.w hn (.move _) rfl (guard0 rfl) (lop_move (agree hn) rfl) rfl ?_
    refine TO.w hn (.move _) rfl (guard0 rfl) (lop_move (agree hn) rfl) rfl ?_
    refine TO.w hn (.call _) rfl (guard0 rfl) (lop_built (agree hn) rfl rfl (lbuiltin_lenL rfl)) rfl ?_
    refine TO.w hn (.binOp _ _ _ _ _) rfl (guard0 rfl) (lop_binF (agree hn) rfl rfl rfl (by exact decide_eq_false (by omega))) rfl ?_
    refine TO.w hn (.move _) rfl (guard0 rfl) (lop_move (agree hn) rfl) rfl ?_
    refine TO.woff hn (guardOff (agree hn) rfl rfl rfl rfl) rfl ?_
    refine TO.woff hn (guardOff (agree hn) rfl rfl rfl rfl) rfl ?_
    refine TO.w hn (.pick _ _ _) rfl (guard0 rfl) (lop_pickF (agree hn) rfl rfl rfl) rfl ?_
    refine TO.nil ?_
    refine TC.condF (agree hn) rfl rfl ?_
    refine TC.exit ?_
    refine TC.seq ?_
    refine TC.region (id := 26) ?_
    (refine TO.wc hn (.call _) rfl (guard0 rfl) (lop_func (agree hn) rfl rfl rfl) rfl (CF.co noOwn rfl rfl works_CF) (fun v H2 hR => ?_); (obtain ⟨rfl, e2⟩ := hR; cases e2.symm))
    refine TO.w hn (.assign _) rfl (guard0 rfl) (lop_assign (agree hn) rfl) rfl ?_
    refine TO.nil ?_
    refine TC.ret ?_
    exact ⟨trivial, _, lres1 (agree hn) rfl, rfl⟩
end Go.Proofs.Ytbekdbehiacnkaa
