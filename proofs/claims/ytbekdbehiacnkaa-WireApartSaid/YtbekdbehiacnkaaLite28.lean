/- Lite, part 28: ways that meet again. -/
import Derived.Test.YtbekdbehiacnkaaLite27
namespace Go.Lite
open Go
set_option linter.unusedSimpArgs false
set_option linter.unusedVariables false

section
variable {P : Program}
/-- The region with which a piece of code begins. -/
def headR : Code → Option Nat
  | .region id _ _ => some id
  | .seq a _ => headR a
  | .block _ b => headR b
  | .scope b => headR b
  | .loop b => headR b
  | _ => none
def midQ (M : Frame → Hp → Prop) (Q : AX → Frame → Hp → Prop) : AX → Frame → Hp → Prop
  | .normal, fr, H => M fr H
  | x, fr, H => Q x fr H
theorem TC.seqM {x y : Code} {fr : Frame} {H : Hp} {Q : AX → Frame → Hp → Prop} (k : Nat) (_ : headR y = some k) (M : Frame → Hp → Prop) (h : TC P x fr H (midQ M Q)) (h2 : ∀ fr H, M fr H → TC P y fr H Q) : TC P (.seq x y) fr H Q :=
  TC.seq (h.mono fun a fr H h => by
    cases a with
    | normal => exact h2 fr H h
    | exit id => exact h
    | ret => exact h)
theorem lbuiltin_minI3 {H : Hp} {ts : List TypeId} {k k' k'' : IntKind} {x y z : Int} : lbuiltin P .min ts [.int k x, .int k' y, .int k'' z] H = some (.val (.int k (min (min x y) z)) H) := by
  have h : ∀ a b : Int, (if b < a then b else a) = min a b := fun a b => by rw [Int.min_def]; split <;> split <;> omega
  simp [lbuiltin, lmin, scal, lfold, lmin2, h]
end
end Go.Lite
