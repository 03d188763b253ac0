/-
  No cell of these rows narrows 'for every input' (looked for: loops, veiled, ifaces, maps, wideKeys, modest, calm, conditions, laid).
  DERIVED. THE GIVEN ROWS OF THIS SEAT. 5 by the template 'for every input the law returns true; each argument reads behind the call as it read before'; 0 by the template 'total and deterministic' (their statements: YtcndgbaldjcdfaaTotals.lean).
  GIVEN WITH THE SEED: the statements are not yours to turn. If you find one false, say at which input.
  Laid BY PROGRAM, IN A SANDBOX (cutbox-rows.mjs): the forced cells as the released guide's own fill.sh prints them over the translation 3dc80d45aff4213a… (all of the seat's roots in one cut). By AI agents, Wed Nov 11 2026. No macro, syntax, notation, axiom, sorry.
-/
import Derived.Test.YtcndgbaldjcdfaaChecked
import GoSem.Claim
import GoSem.ClaimJoined
import GoSem.ClaimMapViews
import Derived.JoinedTies
import Derived.KernelRfl
namespace Go.Proofs.Ytcndgbaldjcdfaa
/- THE CELL 'sum', in the pinned program and in every row, IS THE sha256 OF THE DUMP (.gsa) THAT YtcndgbaldjcdfaaProg.lean LOADS. Nothing in Lean hashes anything: it is a label: what it is worth is what the hold of that sum in a sandbox is worth. -/
noncomputable def Try.pinned : Pinned := { name := "ytcndgbaldjcdfaa", sum := "3dc80d45aff4213a1c1fbafe6a89b68e64dc8c7a6006229b100610e2a8dcd584", checked := Try.checked }
namespace Rows
def none {H : Type} : Left H := { results := [], args := [] }

/-- 'missivelaw23.VerifyCells': WHATEVER THE INPUT: true; the input reads as it did. -/
def verifyCellsSpec : ChangeSpec := { name := "verifyCells", fn := fun _ => fun
  | [d1, d2] => { results := [.lit (.bool true)], args := [d1, d2] }
  | _ => none }
def verifyCellsRow : OpenClaim := { program := "ytcndgbaldjcdfaa", sum := "3dc80d45aff4213a1c1fbafe6a89b68e64dc8c7a6006229b100610e2a8dcd584", func := "missive/missivelaw23.VerifyCells", spec := "verifyCells", unfollowed := true, recurses := true, apart := false }
def VerifyCellsSaid : Prop := verifyCellsRow.holds Try.pinned (OpenSpec.ofChange verifyCellsSpec)

/-- ITS FALSE NEIGHBOUR: 'it returns false'. Refute it at one input. -/
def verifyCellsWrong : ChangeSpec := { name := "verifyCells", fn := fun _ => fun
  | [d1, d2] => { results := [.lit (.bool false)], args := [d1, d2] }
  | _ => none }
def VerifyCellsWrongFalsely : Prop := verifyCellsRow.holds Try.pinned (OpenSpec.ofChange verifyCellsWrong)

/-- 'missivelaw23.VerifyRemembers': WHATEVER THE INPUT: true; the input reads as it did. -/
def verifyRemembersSpec : ChangeSpec := { name := "verifyRemembers", fn := fun _ => fun
  | [d] => { results := [.lit (.bool true)], args := [d] }
  | _ => none }
def verifyRemembersRow : OpenClaim := { program := "ytcndgbaldjcdfaa", sum := "3dc80d45aff4213a1c1fbafe6a89b68e64dc8c7a6006229b100610e2a8dcd584", func := "missive/missivelaw23.VerifyRemembers", spec := "verifyRemembers", unfollowed := true, recurses := true, apart := false }
def VerifyRemembersSaid : Prop := verifyRemembersRow.holds Try.pinned (OpenSpec.ofChange verifyRemembersSpec)

/-- ITS FALSE NEIGHBOUR: 'it returns false'. Refute it at one input. -/
def verifyRemembersWrong : ChangeSpec := { name := "verifyRemembers", fn := fun _ => fun
  | [d] => { results := [.lit (.bool false)], args := [d] }
  | _ => none }
def VerifyRemembersWrongFalsely : Prop := verifyRemembersRow.holds Try.pinned (OpenSpec.ofChange verifyRemembersWrong)

/-- 'missivelaw23.VerifyNumbers': WHATEVER THE INPUT: true; the input reads as it did. -/
def verifyNumbersSpec : ChangeSpec := { name := "verifyNumbers", fn := fun _ => fun
  | [d1, d2, d3] => { results := [.lit (.bool true)], args := [d1, d2, d3] }
  | _ => none }
def verifyNumbersRow : OpenClaim := { program := "ytcndgbaldjcdfaa", sum := "3dc80d45aff4213a1c1fbafe6a89b68e64dc8c7a6006229b100610e2a8dcd584", func := "missive/missivelaw23.VerifyNumbers", spec := "verifyNumbers", inPlace := ["internal/abi.NoEscape"], unfollowed := true, recurses := true, apart := false }
def VerifyNumbersSaid : Prop := verifyNumbersRow.holds Try.pinned (OpenSpec.ofChange verifyNumbersSpec)

/-- ITS FALSE NEIGHBOUR: 'it returns false'. Refute it at one input. -/
def verifyNumbersWrong : ChangeSpec := { name := "verifyNumbers", fn := fun _ => fun
  | [d1, d2, d3] => { results := [.lit (.bool false)], args := [d1, d2, d3] }
  | _ => none }
def VerifyNumbersWrongFalsely : Prop := verifyNumbersRow.holds Try.pinned (OpenSpec.ofChange verifyNumbersWrong)

/-- 'missivelaw23.VerifyBoth': WHATEVER THE INPUT: true; the input reads as it did. -/
def verifyBothSpec : ChangeSpec := { name := "verifyBoth", fn := fun _ => fun
  | [d1, d2, d3] => { results := [.lit (.bool true)], args := [d1, d2, d3] }
  | _ => none }
def verifyBothRow : OpenClaim := { program := "ytcndgbaldjcdfaa", sum := "3dc80d45aff4213a1c1fbafe6a89b68e64dc8c7a6006229b100610e2a8dcd584", func := "missive/missivelaw23.VerifyBoth", spec := "verifyBoth", inPlace := ["internal/abi.NoEscape"], unfollowed := true, recurses := true, apart := false }
def VerifyBothSaid : Prop := verifyBothRow.holds Try.pinned (OpenSpec.ofChange verifyBothSpec)

/-- ITS FALSE NEIGHBOUR: 'it returns false'. Refute it at one input. -/
def verifyBothWrong : ChangeSpec := { name := "verifyBoth", fn := fun _ => fun
  | [d1, d2, d3] => { results := [.lit (.bool false)], args := [d1, d2, d3] }
  | _ => none }
def VerifyBothWrongFalsely : Prop := verifyBothRow.holds Try.pinned (OpenSpec.ofChange verifyBothWrong)

/-- 'missivelaw23.VerifyKnown': WHATEVER THE INPUT: true; the input reads as it did. -/
def verifyKnownSpec : ChangeSpec := { name := "verifyKnown", fn := fun _ => fun
  | [] => { results := [.lit (.bool true)], args := [] }
  | _ => none }
def verifyKnownRow : OpenClaim := { program := "ytcndgbaldjcdfaa", sum := "3dc80d45aff4213a1c1fbafe6a89b68e64dc8c7a6006229b100610e2a8dcd584", func := "missive/missivelaw23.VerifyKnown", spec := "verifyKnown", inPlace := ["internal/abi.NoEscape"], unfollowed := true, recurses := true, apart := false }
def VerifyKnownSaid : Prop := verifyKnownRow.holds Try.pinned (OpenSpec.ofChange verifyKnownSpec)

/-- ITS FALSE NEIGHBOUR: 'it returns false'. Refute it at one input. -/
def verifyKnownWrong : ChangeSpec := { name := "verifyKnown", fn := fun _ => fun
  | [] => { results := [.lit (.bool false)], args := [] }
  | _ => none }
def VerifyKnownWrongFalsely : Prop := verifyKnownRow.holds Try.pinned (OpenSpec.ofChange verifyKnownWrong)

/- THE SECOND FORM. 'bulk': how many values and letters a reading holds, each counted each time it is reached (what is shared counts as often as it is met; a slice's spare places count too). A statement '..UptoSaid' is the law's where the arguments, and the package variables that the reading takes, are together of bulk at most 1048576: NARROWER than '..Said'. Prove '..Said' where nothing that the law and all that it calls make is longer than what came in: it says more and counts as full. Else prove '..UptoSaid'. A law counts once. -/
mutual
def uptoBulk {H : Type} : DataW H → Nat
  | .lit (.string bytes) => bytes.length + 1
  | .lit _ => 1
  | .nil => 1
  | .ptr d => uptoBulk d + 1
  | .slice elems spare => uptoBulkAll elems + uptoBulkAll spare + 1
  | .agg parts => uptoBulkAll parts + 1
  | .iface _ d => uptoBulk d + 1
  | .map entries => uptoBulkEntries entries + 1
  | .held _ => 1
def uptoBulkAll {H : Type} : List (DataW H) → Nat
  | [] => 0
  | d :: r => uptoBulk d + uptoBulkAll r
def uptoBulkEntries {H : Type} : List (Lit × DataW H) → Nat
  | [] => 0
  | x :: r => uptoBulkEntry x + uptoBulkEntries r
def uptoBulkEntry {H : Type} : Lit × DataW H → Nat
  | (.string bytes, d) => bytes.length + uptoBulk d + 1
  | (_, d) => uptoBulk d + 1
 end
def uptoSmall : (H : Type) → List (DataW H) → Bool := fun _ ds => decide (uptoBulkAll ds ≤ 1048576)
def OpenSpec.upto (s : _root_.Go.ChangeSpec) : _root_.Go.OpenSpec := { _root_.Go.OpenSpec.ofChange s with cond := some uptoSmall }

/-- 'missivelaw23.VerifyCells', WHERE WHAT IT READS IS OF BULK AT MOST 1048576: true; the input reads as it did. -/
def verifyCellsUptoRow : OpenClaim := { program := "ytcndgbaldjcdfaa", sum := "3dc80d45aff4213a1c1fbafe6a89b68e64dc8c7a6006229b100610e2a8dcd584", func := "missive/missivelaw23.VerifyCells", spec := "verifyCells", unfollowed := true, recurses := true, apart := false, narrowed := true }
def VerifyCellsUptoSaid : Prop := verifyCellsUptoRow.holds Try.pinned (OpenSpec.upto verifyCellsSpec)

/-- 'missivelaw23.VerifyRemembers', WHERE WHAT IT READS IS OF BULK AT MOST 1048576: true; the input reads as it did. -/
def verifyRemembersUptoRow : OpenClaim := { program := "ytcndgbaldjcdfaa", sum := "3dc80d45aff4213a1c1fbafe6a89b68e64dc8c7a6006229b100610e2a8dcd584", func := "missive/missivelaw23.VerifyRemembers", spec := "verifyRemembers", unfollowed := true, recurses := true, apart := false, narrowed := true }
def VerifyRemembersUptoSaid : Prop := verifyRemembersUptoRow.holds Try.pinned (OpenSpec.upto verifyRemembersSpec)

/-- 'missivelaw23.VerifyNumbers', WHERE WHAT IT READS IS OF BULK AT MOST 1048576: true; the input reads as it did. -/
def verifyNumbersUptoRow : OpenClaim := { program := "ytcndgbaldjcdfaa", sum := "3dc80d45aff4213a1c1fbafe6a89b68e64dc8c7a6006229b100610e2a8dcd584", func := "missive/missivelaw23.VerifyNumbers", spec := "verifyNumbers", inPlace := ["internal/abi.NoEscape"], unfollowed := true, recurses := true, apart := false, narrowed := true }
def VerifyNumbersUptoSaid : Prop := verifyNumbersUptoRow.holds Try.pinned (OpenSpec.upto verifyNumbersSpec)

/-- 'missivelaw23.VerifyBoth', WHERE WHAT IT READS IS OF BULK AT MOST 1048576: true; the input reads as it did. -/
def verifyBothUptoRow : OpenClaim := { program := "ytcndgbaldjcdfaa", sum := "3dc80d45aff4213a1c1fbafe6a89b68e64dc8c7a6006229b100610e2a8dcd584", func := "missive/missivelaw23.VerifyBoth", spec := "verifyBoth", inPlace := ["internal/abi.NoEscape"], unfollowed := true, recurses := true, apart := false, narrowed := true }
def VerifyBothUptoSaid : Prop := verifyBothUptoRow.holds Try.pinned (OpenSpec.upto verifyBothSpec)

/-- 'missivelaw23.VerifyKnown', WHERE WHAT IT READS IS OF BULK AT MOST 1048576: true; the input reads as it did. -/
def verifyKnownUptoRow : OpenClaim := { program := "ytcndgbaldjcdfaa", sum := "3dc80d45aff4213a1c1fbafe6a89b68e64dc8c7a6006229b100610e2a8dcd584", func := "missive/missivelaw23.VerifyKnown", spec := "verifyKnown", inPlace := ["internal/abi.NoEscape"], unfollowed := true, recurses := true, apart := false, narrowed := true }
def VerifyKnownUptoSaid : Prop := verifyKnownUptoRow.holds Try.pinned (OpenSpec.upto verifyKnownSpec)

end Rows
end Go.Proofs.Ytcndgbaldjcdfaa
