/- Whatever accounts are looked at, and trusted, in whatever order: trusted is just what was trusted behind the last change, and each change is told: 'VerifyRemembersSaid', for every input, with no condition. -/
import Derived.Test.YtcndgbaldjcdfaaVerF
import Derived.Test.YtcndgbaldjcdfaaRow
namespace Go.Proofs.Ytcndgbaldjcdfaa
set_option maxHeartbeats 8000000
set_option maxRecDepth 100000
open Go Go.Lite Go.ChangeShapes Go.WideShapes Go.ChangeAt Go.RowKit
set_option linter.unusedSimpArgs false
set_option linter.unusedVariables false

theorem bytes8_of {Hh : Hp} {v : Value} (h : Sh Try.prog Hh 29 v) : ∃ n T, n ≤ 9223372036854775807 ∧ Bytes8 Hh v n T := by
  rcases h.inv_slice (ls := [5]) (k := 8) Try.underlying29 rfl with rfl | ⟨bl, n, c, vs, rfl, hn, hlen, hf, hs⟩
  · exact ⟨0, fun _ => 0, by omega, none, 0, rfl, .inl rfl⟩
  · have hn : n ≤ 9223372036854775807 := hn
    simp only [List.length_cons, List.length_nil, Nat.zero_add, Nat.mul_one] at hlen hs
    have key : ∀ i, ∃ x : Nat, i < n → vs[i]? = some (.int .u8 x) ∧ x < 256 := by
      intro i
      by_cases hi : i < n
      · obtain ⟨z, hz, wz⟩ := (hs i 0 5 _ hi rfl (List.getElem?_eq_getElem (by omega))).inv_int Try.underlying5
        have wz := int_wf wz rfl
        refine ⟨z.toNat, fun _ => ⟨?_, by omega⟩⟩
        rw [List.getElem?_eq_getElem (by omega), show ((z.toNat : Nat) : Int) = z by omega]
        exact congrArg some hz
      · exact ⟨0, fun h => absurd h hi⟩
    refine ⟨n, fun i => (key i).choose, hn, _, c, rfl, .inr ⟨bl, vs, rfl, hf, fun i hi => ?_⟩⟩
    have := (key i).choose_spec hi
    simp only [Blk.cell, Nat.zero_add]
    exact this

theorem verifyRemembers_sh {Hh : Hp} {a : Value} (h0 : Sh Try.prog Hh 29 a) : CF Try.prog 4 [a] Hh fun v H' => v = .bool true := by
  obtain ⟨n, T, hn, hT⟩ := bytes8_of h0
  exact verifyRemembers_CF hn hT

theorem verifyRemembers_calls {W : World} (hC : HasCells W) {H : Type} {enc : TypeId × Value → H} {args : List Value} {ds : List (DataW H)} {p : List MemPlace} (hval : ∀ (j : Nat) t v, ([29] : List TypeId)[j]? = some t → args[j]? = some v → ∃ b, Value.okWide Try.prog W .any b t v)
    (hA : DataW.TrodAll enc Try.prog W 0 (fun _ => true) true [29] args ds p) : Calls Try.prog 4 args.toArray W fun e w' => e = .returned (.bool true) ∧ Below W.heap.size W w' := by
  have hT : ∀ t ∈ ([29] : List TypeId), (∃ k l, leafs Try.prog k t = some l) ∧ (leafB Try.prog t = true ∨ aggB Try.prog t = true) := by
    intro t ht
    simp only [List.mem_cons, List.not_mem_nil, or_false] at ht
    subst ht
    · exact ⟨⟨8, _, rfl⟩, .inl rfl⟩
  obtain ⟨μ, Hh, vs, _, hR, _, hL, hI⟩ := argsIn hC hT (fun j t v a b => .inr (hval j t v a b)) hA [] _ (Rel.start Try.prog W)
  obtain ⟨v0, vs, rfl, s0, hI⟩ := hI.inv1 rfl
  cases hI.inv0
  refine (verifyRemembers_sh s0 _ _ _ _ hR hL).mono fun e w' ⟨v, v', H', μ', h1, h2, h3, h4, h5⟩ => ?_
  subst h2
  exact ⟨by rw [h1, h4.scal_eq rfl], below_of_rel h5⟩

set_option maxRecDepth 100000 in
theorem verifyRemembers_lifted (os : Os) (started : os.Started) (H : Type) (enc : TypeId × Value → H) :
    ReturnsInHanded {} Try.checked os 4 .any (Rows.verifyRemembersSpec.pre6 enc Try.prog Try.f4 Rows.verifyRemembersRow.domain false) (Rows.verifyRemembersSpec.post enc Try.prog Try.f4 false true false false) := by
  refine returnsInHanded_of_change_shaped (C := Try.checked) own started (by kernel_rfl) Try.func4
    (ChangeSpec.witness6 (enc := enc) (C := Try.checked) false ⟨#[], #[.slice none 0 0], []⟩ 8 (by kernel_rfl) (by kernel_rfl) (by kernel_rfl) (by kernel_rfl)) ?_
  intro W base args ds gs before hval0 hW hcnd _ hsh _
  have hW' := hW
  obtain ⟨p, q, hA0, hV, rfl, hfz, hnd⟩ := hW
  have hA : DataW.TrodAll enc Try.prog W 0 (fun _ => true) true Try.f4.params.toList args.toList ds p := hA0
  have hval : ∀ (j : Nat) t v, Try.f4.params[j]? = some t → args[j]? = some v → Value.okWide Try.prog W .any base t v := hval0
  rw [Try.params4] at hA hval
  have hw := verifyRemembers_calls (hasCells hsh) (args := args.toList) (fun j t v a b => ⟨base, hval j t v (by simpa using a) (by simpa using b)⟩) hA
  obtain ⟨v0, vs0, d0, ds0, p0, q0, hargs, rfl, rfl, h0, r0⟩ := trodAll_cons hA
  obtain ⟨rfl, rfl, rfl⟩ := trodAll_nil r0
  obtain rfl : args = #[v0] := by cases args; simp_all
  obtain ⟨rfl, rfl⟩ := trodVars_none hV
  have k0 := h0
  have lt0 : ∀ x ∈ p0, x.block < W.heap.size := by obtain ⟨m, hm⟩ := k0; exact DataW.trod_lt m _ _ _ hm
  clear hA0 hval0
  refine Calls.mono hw fun e W' ⟨he, bel⟩ => ?_
  subst he
  exact ⟨_, rfl, _, _, _, [], _, [], hW', trodAll_mk1 (shut_bool Try.underlying4 _), (trodAll_cons_mk (Below.trod laidOut (by kernel_rfl) (of_decide_eq_true (by kernel_rfl)) k0 bel lt0) trodAll_mk0), rfl, bel.frame _, fun h => by cases h⟩

theorem verifyRemembers_over : Rows.verifyRemembersRow.holds Try.pinned (OpenSpec.ofChange Rows.verifyRemembersSpec) :=
  OpenClaim.holds_of_wide 4 Try.f4 rfl rfl rfl rfl rfl rfl rfl ⟨rfl, rfl, rfl, rfl, rfl⟩ rfl rfl rfl rfl rfl (by kernel_rfl) Try.func4 (by kernel_rfl)
    (of_decide_eq_true (by kernel_rfl)) (by unfold Func.isWrapper; first | (rw [if_pos (by decide +kernel)]; kernel_rfl) | (rw [if_neg (by decide +kernel)]; exact ⟨rfl, rfl⟩))
    (fun os started H enc _ => verifyRemembers_lifted os started H enc)

/-- The statement. -/
theorem verifyRemembers_proved : Rows.VerifyRemembersSaid := verifyRemembers_over
#print axioms verifyRemembers_proved
end Go.Proofs.Ytcndgbaldjcdfaa
