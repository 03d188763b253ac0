/- Whatever a cell says, and whatever account is looked at, or trusted, the answers are what the document says: 'VerifyCellsSaid', for every input, with no condition. -/
import Derived.Test.YtcndgbaldjcdfaaVerF
import Derived.Test.YtcndgbaldjcdfaaRow
namespace Go.Proofs.Ytcndgbaldjcdfaa
set_option maxHeartbeats 8000000
set_option maxRecDepth 100000
open Go Go.Lite Go.ChangeShapes Go.WideShapes Go.ChangeAt Go.RowKit
set_option linter.unusedSimpArgs false
set_option linter.unusedVariables false

theorem verifyCells_sh {Hh : Hp} {a b : Value} (h0 : Sh Try.prog Hh 9 a) (h1 : Sh Try.prog Hh 9 b) : CF Try.prog 3 [a, b] Hh fun v H' => v = .bool true := by
  obtain ⟨s, rfl, ls⟩ := h0.inv_str Try.underlying9
  obtain ⟨t, rfl, lt⟩ := h1.inv_str Try.underlying9
  exact verifyCells_CF ls lt

theorem verifyCells_calls {W : World} (hC : HasCells W) {H : Type} {enc : TypeId × Value → H} {args : List Value} {ds : List (DataW H)} {p : List MemPlace} (hval : ∀ (j : Nat) t v, ([9, 9] : List TypeId)[j]? = some t → args[j]? = some v → ∃ b, Value.okWide Try.prog W .any b t v)
    (hA : DataW.TrodAll enc Try.prog W 0 (fun _ => true) true [9, 9] args ds p) : Calls Try.prog 3 args.toArray W fun e w' => e = .returned (.bool true) ∧ Below W.heap.size W w' := by
  have hT : ∀ t ∈ ([9, 9] : List TypeId), (∃ k l, leafs Try.prog k t = some l) ∧ (leafB Try.prog t = true ∨ aggB Try.prog t = true) := by
    intro t ht
    simp only [List.mem_cons, List.not_mem_nil, or_false] at ht
    rcases ht with rfl | rfl
    · exact ⟨⟨8, _, rfl⟩, .inl rfl⟩
    · exact ⟨⟨8, _, rfl⟩, .inl rfl⟩
  obtain ⟨μ, Hh, vs, _, hR, _, hL, hI⟩ := argsIn hC hT (fun j t v a b => .inr (hval j t v a b)) hA [] _ (Rel.start Try.prog W)
  obtain ⟨v0, vs, rfl, s0, hI⟩ := hI.inv1 rfl
  obtain ⟨v1, vs, rfl, s1, hI⟩ := hI.inv1 rfl
  cases hI.inv0
  refine (verifyCells_sh s0 s1 _ _ _ _ hR hL).mono fun e w' ⟨v, v', H', μ', h1, h2, h3, h4, h5⟩ => ?_
  subst h2
  exact ⟨by rw [h1, h4.scal_eq rfl], below_of_rel h5⟩

set_option maxRecDepth 100000 in
theorem verifyCells_lifted (os : Os) (started : os.Started) (H : Type) (enc : TypeId × Value → H) :
    ReturnsInHanded {} Try.checked os 3 .any (Rows.verifyCellsSpec.pre6 enc Try.prog Try.f3 Rows.verifyCellsRow.domain false) (Rows.verifyCellsSpec.post enc Try.prog Try.f3 false true false false) := by
  refine returnsInHanded_of_change_shaped (C := Try.checked) own started (by kernel_rfl) Try.func3
    (ChangeSpec.witness6 (enc := enc) (C := Try.checked) false ⟨#[], #[.string ⟨#[]⟩, .string ⟨#[]⟩], []⟩ 8 (by kernel_rfl) (by kernel_rfl) (by kernel_rfl) (by kernel_rfl)) ?_
  intro W base args ds gs before hval0 hW hcnd _ hsh _
  have hW' := hW
  obtain ⟨p, q, hA0, hV, rfl, hfz, hnd⟩ := hW
  have hA : DataW.TrodAll enc Try.prog W 0 (fun _ => true) true Try.f3.params.toList args.toList ds p := hA0
  have hval : ∀ (j : Nat) t v, Try.f3.params[j]? = some t → args[j]? = some v → Value.okWide Try.prog W .any base t v := hval0
  rw [Try.params3] at hA hval
  have hw := verifyCells_calls (hasCells hsh) (args := args.toList) (fun j t v a b => ⟨base, hval j t v (by simpa using a) (by simpa using b)⟩) hA
  obtain ⟨v0, vs0, d0, ds0, p0, q0, hargs, rfl, rfl, h0, r0⟩ := trodAll_cons hA
  obtain ⟨v1, vs1, d1, ds1, p1, q1, rfl, rfl, rfl, h1, r1⟩ := trodAll_cons r0
  obtain ⟨rfl, rfl, rfl⟩ := trodAll_nil r1
  obtain rfl : args = #[v0, v1] := by cases args; simp_all
  obtain ⟨rfl, rfl⟩ := trodVars_none hV
  have k0 := h0
  have lt0 : ∀ x ∈ p0, x.block < W.heap.size := by obtain ⟨m, hm⟩ := k0; exact DataW.trod_lt m _ _ _ hm
  have k1 := h1
  have lt1 : ∀ x ∈ p1, x.block < W.heap.size := by obtain ⟨m, hm⟩ := k1; exact DataW.trod_lt m _ _ _ hm
  clear hA0 hval0
  refine Calls.mono hw fun e W' ⟨he, bel⟩ => ?_
  subst he
  exact ⟨_, rfl, _, _, _, [], _, [], hW', trodAll_mk1 (shut_bool Try.underlying4 _), (trodAll_cons_mk (Below.trod laidOut (by kernel_rfl) (of_decide_eq_true (by kernel_rfl)) k0 bel lt0) (trodAll_cons_mk (Below.trod laidOut (by kernel_rfl) (of_decide_eq_true (by kernel_rfl)) k1 bel lt1) trodAll_mk0)), rfl, bel.frame _, fun h => by cases h⟩

theorem verifyCells_over : Rows.verifyCellsRow.holds Try.pinned (OpenSpec.ofChange Rows.verifyCellsSpec) :=
  OpenClaim.holds_of_wide 3 Try.f3 rfl rfl rfl rfl rfl rfl rfl ⟨rfl, rfl, rfl, rfl, rfl⟩ rfl rfl rfl rfl rfl (by kernel_rfl) Try.func3 (by kernel_rfl)
    (of_decide_eq_true (by kernel_rfl)) (by unfold Func.isWrapper; first | (rw [if_pos (by decide +kernel)]; kernel_rfl) | (rw [if_neg (by decide +kernel)]; exact ⟨rfl, rfl⟩))
    (fun os started H enc _ => verifyCells_lifted os started H enc)

/-- The statement. -/
theorem verifyCells_proved : Rows.VerifyCellsSaid := verifyCells_over
#print axioms verifyCells_proved
end Go.Proofs.Ytcndgbaldjcdfaa
