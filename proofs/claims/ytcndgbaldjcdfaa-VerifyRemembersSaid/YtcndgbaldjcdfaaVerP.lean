/- What a cell says. -/
import Derived.Test.YtcndgbaldjcdfaaWireL
import Derived.Test.YtcndgbaldjcdfaaWireR
namespace Go.Proofs.Ytcndgbaldjcdfaa
set_option maxHeartbeats 8000000
set_option maxRecDepth 100000
open Go Go.Lite
set_option linter.unusedSimpArgs false
set_option linter.unusedVariables false

/-- A cell of an account. -/
def cellL (s : List UInt8) (t : Bool) : List UInt8 := putN 4 s.length ++ s ++ [if t then 1 else 0]
theorem cellL_length (s : List UInt8) (t : Bool) : (cellL s t).length = s.length + 5 := by
  simp only [cellL, List.length_append, putN_length, List.length_singleton]; omega
/-- What a cell says. -/
def parse (c : List UInt8) : Option (List UInt8 × Bool) :=
  if textA c 1000 = [] then none else if c = cellL (textA c 1000) false then some (textA c 1000, false) else if c = cellL (textA c 1000) true then some (textA c 1000, true) else none
def wholeP (c : List UInt8) : Prop := textOk c 1000 ∧ numOk (textL c 1000) 1 ∧ numA (textL c 1000) 1 ≤ 1 ∧ textA c 1000 ≠ [] ∧ (numL (textL c 1000) 1).length = 0
theorem textA_no {c : List UInt8} {m : Int} (h : ¬ textOk c m) : textA c m = [] := by unfold textA; rw [if_neg h]
theorem whole_spec (c : List UInt8) : (wholeP c ∧ parse c = some (textA c 1000, decide (numA (textL c 1000) 1 = 1))) ∨ (¬ wholeP c ∧ parse c = none) := by
  by_cases h : textOk c 1000
  · by_cases hs : textA c 1000 = []
    · right
      exact ⟨fun hw => hw.2.2.2.1 hs, by unfold parse; rw [if_pos hs]⟩
    · have hsh := text_shape h
      have ea : (c.drop 4).take (beN (c.take 4)) = textA c 1000 := by unfold textA; rw [if_pos h]
      have el : c.drop (4 + beN (c.take 4)) = textL c 1000 := by unfold textL; rw [if_pos h]
      rw [ea, el] at hsh
      have key : ∀ t, c = cellL (textA c 1000) t ↔ textL c 1000 = [if t then 1 else 0] := by
        intro t
        constructor
        · intro hc
          have hc2 := hsh.symm.trans hc
          unfold cellL at hc2
          exact List.append_cancel_left hc2
        · intro hc
          rw [hc] at hsh
          exact hsh
      unfold wholeP parse
      simp only [if_neg hs, key]
      generalize textL c 1000 = r at *
      match r with
      | [] => right; exact ⟨fun hw => by have := hw.2.1; unfold numOk at this; simp at this, by simp⟩
      | [x] =>
        have hn : numOk [x] 1 := by unfold numOk; simp
        have e1 : numA [x] 1 = x.toNat := by unfold numA; rw [if_pos hn]; simp [beN]
        have e2 : numL [x] 1 = [] := by unfold numL; rw [if_pos hn]; simp
        rw [e1, e2]
        by_cases h0 : x = 0
        · subst h0; left; exact ⟨⟨h, hn, by decide, hs, rfl⟩, by simp⟩
        · by_cases h1 : x = 1
          · subst h1; left; exact ⟨⟨h, hn, by decide, hs, rfl⟩, by simp⟩
          · right
            refine ⟨fun hw => ?_, by simp [h0, h1]⟩
            have h2 := hw.2.2.1
            have h3 : x.toNat = 0 ∨ x.toNat = 1 := by omega
            rcases h3 with h3 | h3
            · exact h0 (UInt8.toNat.inj h3)
            · exact h1 (UInt8.toNat.inj h3)
      | x :: y :: r =>
        right
        refine ⟨fun hw => ?_, by simp⟩
        have hn : numOk (x :: y :: r) 1 := by unfold numOk; simp; omega
        have h2 := hw.2.2.2.2
        unfold numL at h2
        rw [if_pos hn] at h2
        simp at h2
  · right
    exact ⟨fun hw => h hw.1, by unfold parse; rw [textA_no h]; simp⟩
theorem parse_cell {c s : List UInt8} {t : Bool} (h : parse c = some (s, t)) : c = cellL s t ∧ s ≠ [] := by
  unfold parse at h
  split at h
  · cases h
  · rename_i hs
    split at h
    · rename_i hc; cases h; exact ⟨hc, hs⟩
    · split at h
      · rename_i hc; cases h; exact ⟨hc, hs⟩
      · cases h
theorem parse_of {s : List UInt8} {t : Bool} (h1 : s ≠ []) (h2 : s.length ≤ 1000) : parse (cellL s t) = some (s, t) := by
  have hb : beN ((cellL s t).take 4) = s.length := by
    rw [cellL, List.append_assoc, take_put, beN_put]
    exact Nat.mod_eq_of_lt (by omega)
  have hok : textOk (cellL s t) 1000 := by
    refine ⟨by decide, ?_, ?_, ?_⟩
    · rw [cellL_length]; omega
    · rw [hb]; omega
    · rw [hb, cellL_length]; omega
  have ha : textA (cellL s t) 1000 = s := by
    unfold textA
    rw [if_pos hok, hb, cellL, List.append_assoc, drop_put, List.take_left]
  unfold parse
  rw [ha, if_neg h1]
  cases t
  · simp
  · have hne : cellL s true ≠ cellL s false := fun h => by
      unfold cellL at h
      have := List.append_cancel_left h
      simp at this
    simp [hne]
/-- May it be an account? -/
def rightS (a : List UInt8) : Bool := decide (a ≠ [] ∧ a.length ≤ 1000)
def E (n : Int) : Value := .int .i64 n
/-- What is told of an account that is looked at. -/
def lookV (c a : List UInt8) : Value :=
  if rightS a = false then .tuple #[.bool false, .bool false, S [], E 2] else
  if c = [] then .tuple #[.bool false, .bool false, S (cellL a false), E 0] else
  match parse c with
  | none => .tuple #[.bool false, .bool false, S [], E 4]
  | some (was, t) => .tuple #[.bool (decide (was ≠ a)), .bool (t && decide (was = a)), S (cellL a (t && decide (was = a))), E 0]
def trustV (c a : List UInt8) : Value :=
  if rightS a = false then .tuple #[S [], E 2] else
  if c = [] then .tuple #[S [], E 5] else
  match parse c with
  | none => .tuple #[S [], E 4]
  | some (was, _) => if was ≠ a then .tuple #[S [], E 8] else .tuple #[S (cellL a true), E 0]
end Go.Proofs.Ytcndgbaldjcdfaa
