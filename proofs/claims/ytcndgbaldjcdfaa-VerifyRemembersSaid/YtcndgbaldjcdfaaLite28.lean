/- Lite, part 28: ways that meet again. -/
import Derived.Test.YtcndgbaldjcdfaaLite27
namespace Go.Lite
open Go
set_option linter.unusedSimpArgs false
set_option linter.unusedVariables false

section
variable {P : Program}
/-- The region with which a piece of code begins. -/
def headR : Code → Option Nat
  | .region id _ _ => some id
  | .seq a _ => headR a
  | .block _ b => headR b
  | .scope b => headR b
  | .loop b => headR b
  | _ => none
def midQ (M : Frame → Hp → Prop) (Q : AX → Frame → Hp → Prop) : AX → Frame → Hp → Prop
  | .normal, fr, H => M fr H
  | x, fr, H => Q x fr H
theorem TC.seqM {x y : Code} {fr : Frame} {H : Hp} {Q : AX → Frame → Hp → Prop} (k : Nat) (_ : headR y = some k) (M : Frame → Hp → Prop) (h : TC P x fr H (midQ M Q)) (h2 : ∀ fr H, M fr H → TC P y fr H Q) : TC P (.seq x y) fr H Q :=
  TC.seq (h.mono fun a fr H h => by
    cases a with
    | normal => exact h2 fr H h
    | exit id => exact h
    | ret => exact h)
/-- What a call leaves stands as it must. -/
theorem CF.wfR {f : FuncId} {args : List Value} {H : Hp} {R : Value → Hp → Prop} (h : CF P f args H R) : CF P f args H fun v H' => R v H' ∧ H'.wf :=
  fun E μ w args' hR hl => (h E μ w args' hR hl).mono fun e w' ⟨v, v', H', μ', h1, h2, h3, h4, h5⟩ => ⟨v, v', H', μ', h1, ⟨h2, h5.wf⟩, h3, h4, h5⟩
/-- Parts that are all of a row's, each of one cell. -/
def fullL : Nat → List (Nat × Value) → Option (List Value)
  | _, [] => some []
  | i, (j, v) :: r => if (Nat.beq j i && isOne v) = true then (match fullL (i + 1) r with | some l => some (v :: l) | none => none) else none
theorem fullL_len : ∀ (l : List (Nat × Value)) (i : Nat) (vs : List Value), fullL i l = some vs → vs.length = l.length
  | [], i, vs, h => by simp [fullL] at h; subst h; rfl
  | (j, v) :: r, i, vs, h => by
    simp only [fullL] at h
    split at h
    · split at h
      · rename_i l hl
        cases h
        simp [fullL_len r (i + 1) l hl]
      · cases h
    · cases h
theorem lfill_full : ∀ (l : List (Nat × Value)) (i : Nat) (pre suf vs : List Value), fullL i l = some vs → pre.length = i → suf.length = vs.length → lfill (fun i => some (i * 1, 1)) (pre ++ suf) l = some (pre ++ vs)
  | [], i, pre, suf, vs, h, hp, hs => by
    simp [fullL] at h; subst h
    have : suf = [] := List.eq_nil_of_length_eq_zero (by simpa using hs)
    subst this
    rfl
  | (j, v) :: r, i, pre, suf, vs, h, hp, hs => by
    simp only [fullL] at h
    split at h
    · rename_i hc
      simp only [Bool.and_eq_true] at hc
      have hj := Nat.eq_of_beq_eq_true hc.1
      split at h
      · rename_i l hl
        cases h
        match suf, hs with
        | s :: suf, hs =>
          have hv : cellsOf v = [v] := by cases v <;> first | rfl | (simp [isOne] at hc)
          have ih := lfill_full r (i + 1) (pre ++ [v]) suf l hl (by simp [hp]) (by simpa using hs)
          have h1 : ((cellsOf v).length = 1 ∧ j * 1 + 1 ≤ (pre ++ s :: suf).length) := ⟨by rw [hv]; rfl, by simp [hp, hj]⟩
          rw [lfill]
          simp only [Option.bind_some]
          rw [if_pos h1, hv, Nat.mul_one, hj, ← hp]
          have h2 : (pre ++ s :: suf).take pre.length = pre := List.take_left
          have h3 : (pre ++ s :: suf).drop (pre.length + 1) = suf := by
            rw [List.drop_append]
            simp
          rw [h2, h3, ih]
          simp
      · cases h
    · cases h
theorem lzeros_length (z : List Value) : ∀ n : Nat, (lzeros z n).length = n * z.length
  | 0 => by simp [lzeros]
  | n + 1 => by rw [lzeros, List.length_append, lzeros_length z n, Nat.succ_mul, Nat.add_comm]
/-- A slice type whose elements are one cell: is it of whole numbers? -/
def oneT (P : Program) (t : TypeId) : Option (Option IntKind) := match P.underlying t with
  | some (.slice e) => match szT P e, lzero P e with
    | some 1, some z => if (cellsOf z).length = 1 then some (intT P e) else none
    | _, _ => none
  | _ => none
theorem oneT_spec {t : TypeId} {o : Option IntKind} (h : oneT P t = some o) : ∃ e z, P.underlying t = some (.slice e) ∧ szT P e = some 1 ∧ lzero P e = some z ∧ (cellsOf z).length = 1 ∧ intT P e = o := by
  unfold oneT at h
  split at h
  · rename_i e he
    split at h
    · rename_i z h1 h2
      split at h
      · rename_i h3; cases h; exact ⟨e, z, he, h1, h2, h3, rfl⟩
      · cases h
    · cases h
  · cases h
theorem lbuildSlice_S {H : Hp} {t : TypeId} {n : Nat} {l : List (Nat × Value)} {vs : List Value} (ht : oneT P t = some none) (hl : fullL 0 l = some vs) (hn : Nat.beq vs.length n = true) (hm : Nat.ble n 16777216 = true) :
    lbuildSlice P t n l H = some (.val (.slice (some ⟨H.n, 0, none⟩) n n) (H.new (.cells true 1 vs))) := by
  obtain ⟨e, z, h1, h2, h3, h4, h5⟩ := oneT_spec ht
  have hn := Nat.eq_of_beq_eq_true hn
  have hm := Nat.le_of_ble_eq_true hm
  have hf := lfill_full l 0 [] (lzeros (cellsOf z) n) vs hl rfl (by rw [lzeros_length, h4, Nat.mul_one, hn])
  simp only [List.nil_append] at hf
  have hc : (n * 1 ≤ 16777216 ∧ (cellsOf z).length = 1) := ⟨by omega, h4⟩
  simp only [lbuildSlice, h1, h2, h3, Option.bind_some, if_pos hc, hf, mkRow, h5, lnew]
def intsOf (k : IntKind) : List Value → Option (List Int)
  | [] => some []
  | .int k' n :: r => match intsOf k r with
    | some l => if k' = k then some (n :: l) else none
    | none => none
  | _ :: _ => none
theorem intsOf_eq {k : IntKind} : ∀ {vs : List Value} {xs : List Int}, intsOf k vs = some xs → toInts k vs = some xs
  | [], xs, h => h
  | v :: r, xs, h => by
    cases v <;> simp only [intsOf] at h <;> try (cases h; done)
    split at h
    · rename_i l hl
      split at h
      · rename_i hk
        cases h
        simp [toInts, hk, intsOf_eq hl]
      · cases h
    · cases h
theorem lbuildSlice_I {H : Hp} {t : TypeId} {n : Nat} {k : IntKind} {l : List (Nat × Value)} {vs : List Value} {xs : List Int} (ht : oneT P t = some (some k)) (hl : fullL 0 l = some vs) (hx0 : intsOf k vs = some xs) (hn : Nat.beq vs.length n = true) (hm : Nat.ble n 16777216 = true) :
    lbuildSlice P t n l H = some (.val (.slice (some ⟨H.n, 0, none⟩) n n) (H.new (.ints true k xs))) := by
  obtain ⟨e, z, h1, h2, h3, h4, h5⟩ := oneT_spec ht
  have hx := intsOf_eq hx0
  have hn := Nat.eq_of_beq_eq_true hn
  have hm := Nat.le_of_ble_eq_true hm
  have hf := lfill_full l 0 [] (lzeros (cellsOf z) n) vs hl rfl (by rw [lzeros_length, h4, Nat.mul_one, hn])
  simp only [List.nil_append] at hf
  have hc : (n * 1 ≤ 16777216 ∧ (cellsOf z).length = 1) := ⟨by omega, h4⟩
  simp only [lbuildSlice, h1, h2, h3, Option.bind_some, if_pos hc, hf, mkRow, h5, hx, lnew]
theorem lbuiltin_minI3 {H : Hp} {ts : List TypeId} {k k' k'' : IntKind} {x y z : Int} : lbuiltin P .min ts [.int k x, .int k' y, .int k'' z] H = some (.val (.int k (min (min x y) z)) H) := by
  have h : ∀ a b : Int, (if b < a then b else a) = min a b := fun a b => by rw [Int.min_def]; split <;> split <;> omega
  simp [lbuiltin, lmin, scal, lfold, lmin2, h]
end
end Go.Lite
