/- Bytes as digits, and digits as bytes. -/
import Derived.Test.YtcndgbaldjcdfaaWireW
import Derived.Test.YtcndgbaldjcdfaaLite27
namespace Go.Proofs.Ytcndgbaldjcdfaa
set_option maxHeartbeats 8000000
set_option maxRecDepth 100000
open Go Go.Lite
set_option linter.unusedSimpArgs false
set_option linter.unusedVariables false

def digitsL : List UInt8 := [48, 49, 50, 51, 52, 53, 54, 55, 56, 57, 97, 98, 99, 100, 101, 102]
def hexd (n : Nat) : UInt8 := if n < 10 then UInt8.ofNat (48 + n) else UInt8.ofNat (87 + n)
theorem digits_at : ∀ n : Nat, n < 16 → digitsL[n]? = some (hexd n) := by decide
theorem digits_atI {n : Int} (h0 : 0 ≤ n) (h : n < 16) : digitsL[n.toNat]? = some (hexd n.toNat) := digits_at _ (by omega)
def hexL (l : List UInt8) : List UInt8 := l.flatMap fun c => [hexd (c.toNat / 16), hexd (c.toNat % 16)]
theorem hexL_snoc (l : List UInt8) (c : UInt8) : hexL (l ++ [c]) = hexL l ++ [hexd (c.toNat / 16), hexd (c.toNat % 16)] := by simp [hexL]
theorem hexL_length : ∀ l : List UInt8, (hexL l).length = 2 * l.length
  | [] => rfl
  | c :: l => by
    have := hexL_length l
    simp only [hexL, List.flatMap_cons, List.length_append, List.length_cons, List.length_nil] at this ⊢
    omega
/-- What a slice of bytes holds: nothing yet, or a block of its own, behind what was there. -/
def Bs (A H : Hp) (v : Value) (xs : List UInt8) : Prop := (v = .slice none 0 0 ∧ xs = []) ∨ ∃ b c, v = .slice (some ⟨b, 0, none⟩) xs.length c ∧ H.f b = some (.ints true .u8 (xs.map fun c => (c.toNat : Int))) ∧ A.n ≤ b

/-- A digit's number; 16: it is none. -/
def halfN (c : Nat) : Nat := if 48 ≤ c ∧ c ≤ 57 then c - 48 else if 97 ≤ c ∧ c ≤ 102 then c - 87 else 16
end Go.Proofs.Ytcndgbaldjcdfaa
