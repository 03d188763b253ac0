/- Lite, part 26: arguments that were read in, one by one. -/
import Derived.Test.YtcndgbaldjcdfaaLite25
namespace Go.Lite
open Go Go.ChangeShapes Go.WideShapes Go.Deep
set_option linter.unusedSimpArgs false
set_option linter.unusedVariables false

section
variable {P : Program} {Hh : Hp}
theorem ArgsIn.inv0 {vs : List Value} (h : ArgsIn P Hh [] vs) : vs = [] := by cases h; rfl
theorem ArgsIn.inv1 {t : TypeId} {ts : List TypeId} {vs : List Value} (hb : leafB P t = true) (h : ArgsIn P Hh (t :: ts) vs) : ∃ v vs', vs = v :: vs' ∧ Sh P Hh t v ∧ ArgsIn P Hh ts vs' := by
  cases h with
  | one a b => exact ⟨_, _, rfl, a, b⟩
  | agg z _ _ _ _ =>
    unfold leafB at hb
    unfold aggB at z
    cases hu : P.underlying t with
    | none => rw [hu] at z; cases z
    | some d => rw [hu] at hb z; cases d <;> first | (cases z; done) | (cases hb; done)
theorem ArgsIn.invA {t : TypeId} {ts : List TypeId} {vs : List Value} {k : Nat} {ls : List TypeId} (hb : aggB P t = true) (hl : leafs P k t = some ls) (h : ArgsIn P Hh (t :: ts) vs) :
    ∃ (cs vs' : List Value), vs = .agg cs.toArray :: vs' ∧ cs.length = ls.length ∧ (∀ (j : Nat) u v, ls[j]? = some u → cs[j]? = some v → Sh P Hh u v) ∧ ArgsIn P Hh ts vs' := by
  cases h with
  | one a b =>
    unfold aggB at hb
    cases a <;> rename_i hu <;> simp_all
  | agg _ hl2 hlen hs b =>
    cases leafs_unique hl hl2
    exact ⟨_, _, rfl, hlen, hs, b⟩
end
end Go.Lite
