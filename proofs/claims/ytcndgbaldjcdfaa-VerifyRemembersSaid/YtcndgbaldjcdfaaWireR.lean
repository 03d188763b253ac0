/- Whatever is asked of a reader. -/
import Derived.Test.YtcndgbaldjcdfaaWireW
namespace Go.Proofs.Ytcndgbaldjcdfaa
set_option maxHeartbeats 8000000
set_option maxRecDepth 100000
open Go Go.Lite
set_option linter.unusedSimpArgs false
set_option linter.unusedVariables false

def numOk (l : List UInt8) (n : Int) : Prop := 1 ≤ n ∧ n ≤ 8 ∧ n ≤ l.length
instance (l : List UInt8) (n : Int) : Decidable (numOk l n) := by unfold numOk; infer_instance
instance (l : List UInt8) (n : Int) : Decidable (textOk l n) := by unfold textOk; infer_instance
def numA (l : List UInt8) (n : Int) : Nat := if numOk l n then beN (l.take n.toNat) else 0
def numL (l : List UInt8) (n : Int) : List UInt8 := if numOk l n then l.drop n.toNat else l
def takeOk (l : List UInt8) (n : Int) : Prop := 0 ≤ n ∧ n ≤ l.length
instance (l : List UInt8) (n : Int) : Decidable (takeOk l n) := by unfold takeOk; infer_instance
def takeA (l : List UInt8) (n : Int) : List UInt8 := if takeOk l n then l.take n.toNat else []
def takeL (l : List UInt8) (n : Int) : List UInt8 := if takeOk l n then l.drop n.toNat else l
def textA (l : List UInt8) (n : Int) : List UInt8 := if textOk l n then (l.drop 4).take (beN (l.take 4)) else []
def textL (l : List UInt8) (n : Int) : List UInt8 := if textOk l n then l.drop (4 + beN (l.take 4)) else l

theorem Rd.same {H : Hp} {r : Nat} {l : List UInt8} (h : Rd H r l) : ∃ x, H = H.set r x ∧ Rd H r l := by
  have h' := h
  obtain ⟨b, o, m, c, L, h1, h2, h3, h4, h5⟩ := h
  exact ⟨_, (set_same_hp h1).symm, h'⟩
theorem number_any {H : Hp} {r : Nat} {l : List UInt8} {n : Int} (h : Rd H r l) : CF Try.prog 29 [.pointer (some ⟨r, 0, none⟩), .int .i64 n] H fun v H' =>
    v = .tuple #[.int .u64 (numA l n : Nat), .bool (decide (numOk l n))] ∧ ∃ x, H' = H.set r x ∧ Rd H' r (numL l n) := by
  by_cases hk : numOk l n
  · have hk' := hk
    unfold numOk at hk'
    have := number_ok (k := n.toNat) h (by omega) (by omega) (by omega)
    rw [show ((n.toNat : Nat) : Int) = n by omega] at this
    simp only [numA, numL, if_pos hk, decide_eq_true hk]
    exact this
  · simp only [numA, numL, if_neg hk, decide_eq_false hk]
    refine (number_no (n := n) h (by unfold numOk at hk; omega)).mono fun v H' ⟨e1, e2⟩ => ?_
    cases e2.symm
    exact ⟨e1, h.same⟩
theorem take_any {H : Hp} {r : Nat} {l : List UInt8} {n : Int} (h : Rd H r l) : CF Try.prog 42 [.pointer (some ⟨r, 0, none⟩), .int .i64 n] H fun v H' =>
    v = .tuple #[S (takeA l n), .bool (decide (takeOk l n))] ∧ ∃ x, H' = H.set r x ∧ Rd H' r (takeL l n) := by
  by_cases hk : takeOk l n
  · simp only [takeA, takeL, if_pos hk, decide_eq_true hk]
    exact take_ok h hk.1 hk.2
  · simp only [takeA, takeL, if_neg hk, decide_eq_false hk]
    refine (take_no (n := n) h (by unfold takeOk at hk; omega)).mono fun v H' ⟨e1, e2⟩ => ?_
    cases e2.symm
    exact ⟨e1, h.same⟩
theorem text_any {H : Hp} {r : Nat} {l : List UInt8} {n : Int} (h : Rd H r l) (h9 : n ≤ 9223372036854775807) (hl9 : l.length ≤ 4611686018427387904) : CF Try.prog 35 [.pointer (some ⟨r, 0, none⟩), .int .i64 n] H fun v H' =>
    v = .tuple #[S (textA l n), .bool (decide (textOk l n))] ∧ ∃ x, H' = H.set r x ∧ Rd H' r (textL l n) := by
  by_cases hk : textOk l n
  · simp only [textA, textL, if_pos hk, decide_eq_true hk]
    exact text_ok h h9 hl9 hk
  · simp only [textA, textL, if_neg hk, decide_eq_false hk]
    exact text_no h h9 hl9 hk
theorem textR_any {H : Hp} {r : Nat} {l : List UInt8} {n : Int} (h : RdR H r l) (h9 : n ≤ 9223372036854775807) (hl9 : l.length ≤ 4611686018427387904) : CF Try.prog 40 [.pointer (some ⟨r, 0, none⟩), .int .i64 n] H fun v H' =>
    v = .tuple #[S (textA l n), .bool (decide (textOk l n))] ∧ H' = H.set r (.cells true 1 [S (textL l n)]) := by
  by_cases hk : textOk l n
  · simp only [textA, textL, if_pos hk, decide_eq_true hk]
    exact textR_ok h h9 hl9 hk
  · simp only [textA, textL, if_neg hk, decide_eq_false hk]
    refine (textR_no (n := n) h h9 hl9 hk).mono fun v H' ⟨e1, e2⟩ => ?_
    cases e2.symm
    exact ⟨e1, (set_same_hp h).symm⟩

/-- Slices of pairs of numbers. -/
def Pairs (H : Hp) (v : Value) (n : Nat) : Prop :=
  ∃ (a : Option Addr) (c : Nat), v = .slice a n c ∧ (n = 0 ∨ ∃ b vs, a = some ⟨b, 0, none⟩ ∧ H.f b = some (.cells false 2 vs) ∧
    ∀ i, i < n → ∃ x y : Int, (Blk.cells false 2 vs).sub (0 + i * 2) 2 = some [.int .i64 x, .int .i64 y] ∧ (-9223372036854775808 ≤ x ∧ x ≤ 9223372036854775807) ∧ (-9223372036854775808 ≤ y ∧ y ≤ 9223372036854775807))

theorem Rd.le {H H' : Hp} {r : Nat} {l : List UInt8} (h : Rd H r l) (hle : H.le H') : Rd H' r l := by
  obtain ⟨b, o, m, c, L, h1, h2, h3, h4, h5⟩ := h
  exact ⟨b, o, m, c, L, hle.f _ _ h1, hle.f _ _ h2, h3, h4, h5.1, Nat.lt_of_lt_of_le h5.2.1 hle.n, Nat.lt_of_lt_of_le h5.2.2 hle.n⟩
theorem RdR.le {H H' : Hp} {r : Nat} {l : List UInt8} (h : RdR H r l) (hle : H.le H') : RdR H' r l := hle.f _ _ h
theorem Rd.setq {H : Hp} {r q : Nat} {l l2 : List UInt8} (h : Rd H r l) (hq : RdR H q l2) (hne : r ≠ q) (x : Blk) : Rd (H.set q x) r l := by
  obtain ⟨b, o, m, c, L, h1, h2, h3, h4, h5⟩ := h
  refine ⟨b, o, m, c, L, (set_other x hne).trans h1, (set_other x ?_).trans h2, h3, h4, h5⟩
  intro e
  subst e
  rw [hq] at h2
  cases h2
theorem RdR.setr {H : Hp} {r q : Nat} {l : List UInt8} (h : RdR H q l) (hne : q ≠ r) (x : Blk) : RdR (H.set r x) q l := (set_other x hne).trans h
theorem numL_le (l : List UInt8) (n : Int) : (numL l n).length ≤ l.length := by unfold numL; split <;> simp
theorem takeL_le (l : List UInt8) (n : Int) : (takeL l n).length ≤ l.length := by unfold takeL; split <;> simp
theorem textL_le (l : List UInt8) (n : Int) : (textL l n).length ≤ l.length := by unfold textL; split <;> simp

end Go.Proofs.Ytcndgbaldjcdfaa
