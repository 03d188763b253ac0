/- Digits as bytes; the document's numbers and texts. -/
import Derived.Test.YtcndgbaldjcdfaaWireH
namespace Go.Proofs.Ytcndgbaldjcdfaa
set_option maxHeartbeats 8000000
set_option maxRecDepth 100000
open Go Go.Lite
set_option linter.unusedSimpArgs false
set_option linter.unusedVariables false

theorem first_digit : ∀ n : Nat, n < 256 → firstIdx ⟨digitsL.toArray⟩ (UInt8.ofNat n) = if halfN n < 16 then (halfN n : Int) else -1 := by decide +kernel
theorem first_digit' (c : UInt8) : firstIdx ⟨digitsL.toArray⟩ c = if halfN c.toNat < 16 then (halfN c.toNat : Int) else -1 := by
  have := first_digit c.toNat c.toNat_lt
  rwa [UInt8.ofNat_toNat] at this
theorem halfN_le (c : Nat) : halfN c ≤ 16 := by unfold halfN; split <;> (try split) <;> omega

/-- The bytes of digits. -/
def unhexL : List UInt8 → Option (List UInt8)
  | [] => some []
  | [_] => none
  | a :: b :: r => if halfN a.toNat < 16 ∧ halfN b.toNat < 16 then (unhexL r).map (UInt8.ofNat (halfN a.toNat * 16 + halfN b.toNat) :: ·) else none
theorem unhexL_odd : ∀ l : List UInt8, l.length % 2 = 1 → unhexL l = none
  | [], h => by simp at h
  | [_], _ => rfl
  | a :: b :: r, h => by
    have := unhexL_odd r (by simp only [List.length_cons] at h; omega)
    simp [unhexL, this]
theorem drop_two {l : List UInt8} {i : Nat} {a b : UInt8} (ha : l[i]? = some a) (hb : l[i + 1]? = some b) : l.drop i = a :: b :: l.drop (i + 2) := by
  have h0 : i + 1 < l.length := (List.getElem?_eq_some_iff.1 hb).1
  rw [List.drop_eq_getElem_cons (by omega), List.drop_eq_getElem_cons h0]
  rw [List.getElem?_eq_getElem (by omega)] at ha hb
  cases ha; cases hb
  rfl
def unhexV (l : List UInt8) : Value := .tuple #[S ((unhexL l).getD []), .bool (unhexL l).isSome]

end Go.Proofs.Ytcndgbaldjcdfaa
