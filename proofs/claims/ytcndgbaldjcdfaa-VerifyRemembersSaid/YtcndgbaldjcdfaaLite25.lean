/- Lite, part 25: plainer forms of some operations. -/
import Derived.Test.YtcndgbaldjcdfaaLite24
namespace Go.Lite
open Go
set_option linter.unusedSimpArgs false
set_option linter.unusedVariables false

section
variable {P : Program} {H : Hp} {fr : Frame}

theorem lbuiltin_minI {ts : List TypeId} {k k' : IntKind} {x y : Int} : lbuiltin P .min ts [.int k x, .int k' y] H = some (.val (.int k (min x y)) H) := by
  have h : (if y < x then y else x) = min x y := by rw [Int.min_def]; split <;> split <;> omega
  simp [lbuiltin, lmin, scal, lfold, lmin2, h]
theorem lbuiltin_maxI {ts : List TypeId} {k k' : IntKind} {x y : Int} : lbuiltin P .max ts [.int k x, .int k' y] H = some (.val (.int k (max x y)) H) := by
  have h : (if y > x then y else x) = max x y := by rw [Int.max_def]; split <;> split <;> omega
  simp [lbuiltin, lmax, scal, lfold, lmax2, h]
theorem lsliceS_hi {t : TypeId} {l : List UInt8} {hi : Value} {j : Nat} (ht : P.underlying t = some .string) (hh : lbound l.length (some hi) l.length = some j) : lsliceAt P t (S l) none (some hi) none H = some (.val (S (l.take j)) H) := by
  have h0 : lbound j none 0 = some 0 := rfl
  have := lsliceS (H := H) ht hh h0
  simpa using this
theorem lsliceS_lo {t : TypeId} {l : List UInt8} {lo : Value} {i : Nat} (ht : P.underlying t = some .string) (hl : lbound l.length (some lo) 0 = some i) : lsliceAt P t (S l) (some lo) none none H = some (.val (S (l.drop i)) H) := by
  have h0 : lbound l.length none l.length = some l.length := rfl
  have := lsliceS (H := H) ht h0 hl
  rwa [List.take_of_length_le (by rw [List.length_drop]; omega)] at this
/-- Whole quotients and rests of numbers that are not below nought. -/
theorem lop_remP {L : Nat → Option Value} (hL : Agree L fr) {t t' : TypeId} {x y : Operand} {k : IntKind} {n m : Int} (hx : aoN P H L x = some (.int k n)) (hy : aoN P H L y = some (.int k m)) (h0 : 0 ≤ n) (h1 : 0 < m) :
    lop P (.binOp .rem t x y t') fr H = some (.val (.int k (n % m)) H) := by
  rw [lop_rem hL hx hy (by omega), Int.tmod_eq_emod_of_nonneg h0]
theorem lop_quoP {L : Nat → Option Value} (hL : Agree L fr) {t t' : TypeId} {x y : Operand} {k : IntKind} {n m lo hi : Int} (hx : aoN P H L x = some (.int k n)) (hy : aoN P H L y = some (.int k m)) (h0 : 0 ≤ n) (h1 : 0 < m) (hr : rangeK k = (lo, hi)) (h2 : n ≤ hi) (h3 : lo ≤ 0) :
    lop P (.binOp .quo t x y t') fr H = some (.val (.int k (n / m)) H) := by
  have h4 : 0 ≤ n / m := Int.ediv_nonneg h0 (by omega)
  have h5 : n / m ≤ n := Int.ediv_le_self m h0
  rw [lop_quo hL hx hy (by omega), Int.tdiv_eq_ediv_of_nonneg h0, wrap_range hr (by omega) (by omega)]
theorem toNat_min (k : Nat) (n : Nat) : (min (n : Int) (k : Int)).toNat = min n k := by omega
theorem take_min (l : List UInt8) (k : Nat) : l.take (min (l.length : Int) (k : Int)).toNat = l.take k := by
  rw [toNat_min]
  rcases Nat.le_total l.length k with h | h
  · rw [Nat.min_eq_left h, List.take_length, List.take_of_length_le h]
  · rw [Nat.min_eq_right h]
end
end Go.Lite
