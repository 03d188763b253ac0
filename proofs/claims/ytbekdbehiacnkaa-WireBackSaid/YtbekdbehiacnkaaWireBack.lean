/- Whatever numbers and texts are put one behind the other are read back just so: 'WireBackSaid', for every input, with no condition. -/
import Derived.Test.YtbekdbehiacnkaaWireBk
import Derived.Test.YtbekdbehiacnkaaRow
namespace Go.Proofs.Ytbekdbehiacnkaa
open Go Go.Lite Go.ChangeShapes Go.WideShapes Go.ChangeAt Go.RowKit
set_option linter.unusedSimpArgs false
set_option linter.unusedVariables false

theorem things_of {Hh : Hp} {v : Value} (h : Sh Try.prog Hh 37 v) : ∃ n T, n ≤ 9223372036854775807 ∧ Things Hh v n T := by
  rcases h.inv_slice (ls := [5, 29, 9]) (k := 8) Try.underlying37 rfl with rfl | ⟨bl, n, c, vs, rfl, hn, hlen, hf, hs⟩
  · exact ⟨0, fun _ => (0, 0, []), by omega, none, 0, rfl, .inl rfl⟩
  · have hn : n ≤ 9223372036854775807 := hn
    have key : ∀ i, ∃ x : Nat × Nat × List UInt8, i < n → vs[i * 3]? = some (.int .u8 x.1) ∧ vs[i * 3 + 1]? = some (.int .u64 x.2.1) ∧ vs[i * 3 + 2]? = some (S x.2.2) ∧ x.1 < 256 ∧ x.2.1 < 18446744073709551616 ∧ x.2.2.length ≤ 9223372036854775807 := by
      intro i
      by_cases hi : i < n
      · simp only [List.length_cons, List.length_nil] at hlen hs
        have h0 : i * 3 < vs.length := by omega
        have h1 : i * 3 + 1 < vs.length := by omega
        have h2 : i * 3 + 2 < vs.length := by omega
        obtain ⟨x, hx, wx⟩ := (hs i 0 5 _ hi rfl (List.getElem?_eq_getElem h0)).inv_int Try.underlying5
        obtain ⟨y, hy, wy⟩ := (hs i 1 29 _ hi rfl (List.getElem?_eq_getElem h1)).inv_int Try.underlying29
        obtain ⟨z, hz, wz⟩ := (hs i 2 9 _ hi rfl (List.getElem?_eq_getElem h2)).inv_str Try.underlying9
        have wx := int_wf wx rfl
        have wy := int_wf wy rfl
        refine ⟨(x.toNat, y.toNat, z), fun _ => ⟨?_, ?_, ?_, ?_, ?_, wz⟩⟩
        · rw [List.getElem?_eq_getElem h0, show vs[i * 3] = _ from hx, show ((x.toNat : Nat) : Int) = x by omega]
        · rw [List.getElem?_eq_getElem h1, hy, show ((y.toNat : Nat) : Int) = y by omega]
        · rw [List.getElem?_eq_getElem h2, hz]
        · show x.toNat < 256; omega
        · show y.toNat < 18446744073709551616; omega
      · exact ⟨(0, 0, []), fun h => absurd h hi⟩
    refine ⟨n, fun i => (key i).choose, hn, _, c, rfl, .inr ⟨bl, vs, rfl, hf, fun i hi => ?_⟩⟩
    have := (key i).choose_spec hi
    simp only [Blk.cell, Nat.zero_add, Nat.add_zero]
    exact this

theorem wireBack_sh {Hh : Hp} {a b : Value} (h0 : Sh Try.prog Hh 37 a) (h1 : Sh Try.prog Hh 9 b) : CF Try.prog 4 [a, b] Hh fun v H' => v = .bool true := by
  obtain ⟨n, T, hn, hT⟩ := things_of h0
  obtain ⟨l, rfl, hl⟩ := h1.inv_str Try.underlying9
  exact wireBack_CF hn hT hl

theorem wireBack_calls {W : World} (hC : HasCells W) {H : Type} {enc : TypeId × Value → H} {args : List Value} {ds : List (DataW H)} {p : List MemPlace} (hval : ∀ (j : Nat) t v, ([37, 9] : List TypeId)[j]? = some t → args[j]? = some v → ∃ b, Value.okWide Try.prog W .any b t v)
    (hA : DataW.TrodAll enc Try.prog W 0 (fun _ => true) true [37, 9] args ds p) : Calls Try.prog 4 args.toArray W fun e w' => e = .returned (.bool true) ∧ Below W.heap.size W w' := by
  have hT : ∀ t ∈ ([37, 9] : List TypeId), (∃ k l, leafs Try.prog k t = some l) ∧ (leafB Try.prog t = true ∨ aggB Try.prog t = true) := by
    intro t ht
    simp only [List.mem_cons, List.not_mem_nil, or_false] at ht
    rcases ht with rfl | rfl
    · exact ⟨⟨8, _, rfl⟩, .inl rfl⟩
    · exact ⟨⟨8, _, rfl⟩, .inl rfl⟩
  obtain ⟨μ, Hh, vs, _, hR, _, hL, hI⟩ := argsIn hC hT (fun j t v a b => .inr (hval j t v a b)) hA [] _ (Rel.start Try.prog W)
  obtain ⟨v0, vs, rfl, s0, hI⟩ := hI.inv1 rfl
  obtain ⟨v1, vs, rfl, s1, hI⟩ := hI.inv1 rfl
  cases hI.inv0
  refine (wireBack_sh s0 s1 _ _ _ _ hR hL).mono fun e w' ⟨v, v', H', μ', h1, h2, h3, h4, h5⟩ => ?_
  subst h2
  exact ⟨by rw [h1, h4.scal_eq rfl], below_of_rel h5⟩

set_option maxRecDepth 100000 in
theorem wireBack_lifted (os : Os) (started : os.Started) (H : Type) (enc : TypeId × Value → H) :
    ReturnsInHanded {} Try.checked os 4 .any (Rows.wireBackSpec.pre6 enc Try.prog Try.f4 Rows.wireBackRow.domain false) (Rows.wireBackSpec.post enc Try.prog Try.f4 false true false false) := by
  refine returnsInHanded_of_change_shaped (C := Try.checked) own started (by kernel_rfl) Try.func4
    (ChangeSpec.witness6 (enc := enc) (C := Try.checked) false ⟨#[], #[.slice none 0 0, .string ⟨#[]⟩], []⟩ 8 (by kernel_rfl) (by kernel_rfl) (by kernel_rfl) (by kernel_rfl)) ?_
  intro W base args ds gs before hval0 hW hcnd _ hsh _
  have hW' := hW
  obtain ⟨p, q, hA0, hV, rfl, hfz, hnd⟩ := hW
  have hA : DataW.TrodAll enc Try.prog W 0 (fun _ => true) true Try.f4.params.toList args.toList ds p := hA0
  have hval : ∀ (j : Nat) t v, Try.f4.params[j]? = some t → args[j]? = some v → Value.okWide Try.prog W .any base t v := hval0
  rw [Try.params4] at hA hval
  have hw := wireBack_calls (hasCells hsh) (args := args.toList) (fun j t v a b => ⟨base, hval j t v (by simpa using a) (by simpa using b)⟩) hA
  obtain ⟨v0, vs0, d0, ds0, p0, q0, hargs, rfl, rfl, h0, r0⟩ := trodAll_cons hA
  obtain ⟨v1, vs1, d1, ds1, p1, q1, rfl, rfl, rfl, h1, r1⟩ := trodAll_cons r0
  obtain ⟨rfl, rfl, rfl⟩ := trodAll_nil r1
  obtain rfl : args = #[v0, v1] := by cases args; simp_all
  obtain ⟨rfl, rfl⟩ := trodVars_none hV
  have k0 := h0
  have lt0 : ∀ x ∈ p0, x.block < W.heap.size := by obtain ⟨m, hm⟩ := k0; exact DataW.trod_lt m _ _ _ hm
  have k1 := h1
  have lt1 : ∀ x ∈ p1, x.block < W.heap.size := by obtain ⟨m, hm⟩ := k1; exact DataW.trod_lt m _ _ _ hm
  clear hA0 hval0
  refine Calls.mono hw fun e W' ⟨he, bel⟩ => ?_
  subst he
  exact ⟨_, rfl, _, _, _, [], _, [], hW', trodAll_mk1 (shut_bool Try.underlying4 _), (trodAll_cons_mk (Below.trod laidOut (by kernel_rfl) (of_decide_eq_true (by kernel_rfl)) k0 bel lt0) (trodAll_cons_mk (Below.trod laidOut (by kernel_rfl) (of_decide_eq_true (by kernel_rfl)) k1 bel lt1) trodAll_mk0)), rfl, bel.frame _, fun h => by cases h⟩

theorem wireBack_over : Rows.wireBackRow.holds Try.pinned (OpenSpec.ofChange Rows.wireBackSpec) :=
  OpenClaim.holds_of_wide 4 Try.f4 rfl rfl rfl rfl rfl rfl rfl ⟨rfl, rfl, rfl, rfl, rfl⟩ rfl rfl rfl rfl rfl (by kernel_rfl) Try.func4 (by kernel_rfl)
    (of_decide_eq_true (by kernel_rfl)) (by unfold Func.isWrapper; first | (rw [if_pos (by decide +kernel)]; kernel_rfl) | (rw [if_neg (by decide +kernel)]; exact ⟨rfl, rfl⟩))
    (fun os started H enc _ => wireBack_lifted os started H enc)

/-- The statement. -/
theorem wireBack_proved : Rows.WireBackSaid := wireBack_over
#print axioms wireBack_proved
end Go.Proofs.Ytbekdbehiacnkaa
