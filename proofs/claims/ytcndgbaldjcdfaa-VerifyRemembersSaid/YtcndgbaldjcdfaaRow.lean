/- What all rows of this seat ask. -/
import Derived.Test.YtcndgbaldjcdfaaLite26
import Derived.Test.YtcndgbaldjcdfaaRows
namespace Go.Proofs.Ytcndgbaldjcdfaa
set_option maxHeartbeats 8000000
set_option maxRecDepth 100000
open Go Go.Lite Go.ChangeShapes Go.WideShapes Go.ChangeAt Go.RowKit

theorem own : ownKnob Try.prog.godebug = none := by kernel_rfl
theorem laidOut : laidOutB Try.prog = true := by kernel_rfl
theorem hasCells {W : World} (h : W.ShapedOpen Try.prog) : HasCells W := by
  obtain ⟨h1, _⟩ := h
  have hz : ((((begin Try.prog (fun _ _ => 0) default).world.heap[0]?).bind Obj.row?).isSome) = true := by kernel_rfl
  obtain ⟨⟨z, t⟩, hz⟩ := Option.isSome_iff_exists.1 hz
  have hg : (Nat.blt 0 Try.prog.globals.size) = true := by kernel_rfl
  obtain ⟨cs, h2, _⟩ := h1 0 z t (Nat.le_of_ble_eq_true hg) hz
  exact ⟨0, cs, t, _, h2⟩
end Go.Proofs.Ytcndgbaldjcdfaa
