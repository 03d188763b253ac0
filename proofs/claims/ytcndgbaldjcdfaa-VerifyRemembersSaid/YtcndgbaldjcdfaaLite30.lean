/- Lite, part 30: results that lie in cells. -/
import Derived.Test.YtcndgbaldjcdfaaLite29
namespace Go.Lite
open Go
set_option linter.unusedSimpArgs false
set_option linter.unusedVariables false

section
variable {P : Program} {H : Hp} {fr : Frame} {L : Nat → Option Value}
/-- What is handed back, one by one. -/
inductive ResIs (P : Program) (H : Hp) (L : Nat → Option Value) : List ResultVar → List Value → Prop
  | nil : ResIs P H L [] []
  | tmp {t : Tmp} {r : List ResultVar} {v : Value} {l : List Value} : L t = some v → ResIs P H L r l → ResIs P H L (.tmp t :: r) (v :: l)
  | cell {a : Tmp} {t : TypeId} {r : List ResultVar} {b o : Nat} {B : Blk} {v : Value} {l : List Value} : L a = some (.pointer (some ⟨b, o, none⟩)) → H.f b = some B → aggT P t = some false → B.cell o = some v → ResIs P H L r l → ResIs P H L (.cell a t :: r) (v :: l)
theorem ResIs.go (hL : Agree L fr) : ∀ {rs : List ResultVar} {l : List Value}, ResIs P H L rs l → lresults.go P fr H rs = some l
  | _, _, .nil => rfl
  | _, _, .tmp h r => by
    simp only [lresults.go, r.go hL, Option.bind_some, List.getD_eq_getElem?_getD, hL _ _ h]
    rfl
  | _, _, .cell h hb ht hc r => by
    simp only [lresults.go, List.getD_eq_getElem?_getD, hL _ _ h, Option.getD_some, lload, addr0, Option.bind_some, hb, ht, hc, Bool.false_eq_true, if_false, r.go hL]
theorem lresC1 (hL : Agree L fr) {fn : Func} {v : Value} (h : ResIs P H L fn.results.toList [v]) : lresults P fn fr H = some v := by
  unfold lresults; simp only [h.go hL, Option.bind_some]
theorem lresC (hL : Agree L fr) {fn : Func} {l : List Value} (h : ResIs P H L fn.results.toList l) (h0 : Nat.beq l.length 1 = false) : lresults P fn fr H = some (.tuple l.toArray) := by
  have h1 : l.length ≠ 1 := fun e => by rw [e] at h0; cases h0
  unfold lresults; simp only [h.go hL, Option.bind_some]
  match l, h1 with
  | [], _ => rfl
  | [_], h1 => exact absurd rfl h1
  | _ :: _ :: _, _ => rfl
end
end Go.Lite
