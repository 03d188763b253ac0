/- Numbers and texts are laid behind bytes, and told as digits, as the document's answer says: 'WireLaysSaid', for every input, with no condition. -/
import Derived.Test.YtbekdbehiacnkaaWireV
import Derived.Test.YtbekdbehiacnkaaRow
namespace Go.Proofs.Ytbekdbehiacnkaa
open Go Go.Lite Go.ChangeShapes Go.WideShapes Go.ChangeAt Go.RowKit
set_option linter.unusedSimpArgs false
set_option linter.unusedVariables false

theorem wireLays_sh {Hh : Hp} {a b : Value} {c : List Value} (h0 : Sh Try.prog Hh 9 a) (h1 : Sh Try.prog Hh 3 b) (hl : c.length = 3) (hs : ∀ (j : Nat) u v, ([5, 29, 9] : List TypeId)[j]? = some u → c[j]? = some v → Sh Try.prog Hh u v) :
    CF Try.prog 5 [a, b, .agg c.toArray] Hh fun v H' => v = .bool true := by
  obtain ⟨s, rfl, ls⟩ := h0.inv_str Try.underlying9
  obtain ⟨n, rfl, wn⟩ := h1.inv_int Try.underlying3
  match c, hl with
  | [x, y, z], _ =>
    obtain ⟨x, rfl, wx⟩ := (hs 0 5 x rfl rfl).inv_int Try.underlying5
    obtain ⟨y, rfl, wy⟩ := (hs 1 29 y rfl rfl).inv_int Try.underlying29
    obtain ⟨z, rfl, wz⟩ := (hs 2 9 z rfl rfl).inv_str Try.underlying9
    have wx := int_wf wx rfl
    have wy := int_wf wy rfl
    have ex : ((x.toNat : Nat) : Int) = x := by omega
    have ey : ((y.toNat : Nat) : Int) = y := by omega
    have := wireLays_CF (H := Hh) (b := s) (s := z) (n := n) (x := x.toNat) (v := y.toNat) (by omega) (by omega) ls wz
    rw [ex, ey] at this
    exact this

theorem wireLays_calls {W : World} (hC : HasCells W) {H : Type} {enc : TypeId × Value → H} {args : List Value} {ds : List (DataW H)} {p : List MemPlace} (hval : ∀ (j : Nat) t v, ([9, 3, 39] : List TypeId)[j]? = some t → args[j]? = some v → ∃ b, Value.okWide Try.prog W .any b t v)
    (hA : DataW.TrodAll enc Try.prog W 0 (fun _ => true) true [9, 3, 39] args ds p) : Calls Try.prog 5 args.toArray W fun e w' => e = .returned (.bool true) ∧ Below W.heap.size W w' := by
  have hT : ∀ t ∈ ([9, 3, 39] : List TypeId), (∃ k l, leafs Try.prog k t = some l) ∧ (leafB Try.prog t = true ∨ aggB Try.prog t = true) := by
    intro t ht
    simp only [List.mem_cons, List.not_mem_nil, or_false] at ht
    rcases ht with rfl | rfl | rfl
    · exact ⟨⟨8, _, rfl⟩, .inl rfl⟩
    · exact ⟨⟨8, _, rfl⟩, .inl rfl⟩
    · exact ⟨⟨8, _, rfl⟩, .inr rfl⟩
  obtain ⟨μ, Hh, vs, _, hR, _, hL, hI⟩ := argsIn hC hT (fun j t v a b => .inr (hval j t v a b)) hA [] _ (Rel.start Try.prog W)
  obtain ⟨v0, vs, rfl, s0, hI⟩ := hI.inv1 rfl
  obtain ⟨v1, vs, rfl, s1, hI⟩ := hI.inv1 rfl
  obtain ⟨c2, vs, rfl, l2, s2, hI⟩ := hI.invA rfl (k := 8) rfl
  cases hI.inv0
  refine (wireLays_sh s0 s1 l2 s2 _ _ _ _ hR hL).mono fun e w' ⟨v, v', H', μ', h1, h2, h3, h4, h5⟩ => ?_
  subst h2
  exact ⟨by rw [h1, h4.scal_eq rfl], below_of_rel h5⟩

set_option maxRecDepth 100000 in
theorem wireLays_lifted (os : Os) (started : os.Started) (H : Type) (enc : TypeId × Value → H) :
    ReturnsInHanded {} Try.checked os 5 .any (Rows.wireLaysSpec.pre6 enc Try.prog Try.f5 Rows.wireLaysRow.domain false) (Rows.wireLaysSpec.post enc Try.prog Try.f5 false true false false) := by
  refine returnsInHanded_of_change_shaped (C := Try.checked) own started (by kernel_rfl) Try.func5
    (ChangeSpec.witness6 (enc := enc) (C := Try.checked) false ⟨#[], #[.string ⟨#[]⟩, .int .i64 0, .agg #[.int .u8 0, .int .u64 0, .string ⟨#[]⟩]], []⟩ 8 (by kernel_rfl) (by kernel_rfl) (by kernel_rfl) (by kernel_rfl)) ?_
  intro W base args ds gs before hval0 hW hcnd _ hsh _
  have hW' := hW
  obtain ⟨p, q, hA0, hV, rfl, hfz, hnd⟩ := hW
  have hA : DataW.TrodAll enc Try.prog W 0 (fun _ => true) true Try.f5.params.toList args.toList ds p := hA0
  have hval : ∀ (j : Nat) t v, Try.f5.params[j]? = some t → args[j]? = some v → Value.okWide Try.prog W .any base t v := hval0
  rw [Try.params5] at hA hval
  have hw := wireLays_calls (hasCells hsh) (args := args.toList) (fun j t v a b => ⟨base, hval j t v (by simpa using a) (by simpa using b)⟩) hA
  obtain ⟨v0, vs0, d0, ds0, p0, q0, hargs, rfl, rfl, h0, r0⟩ := trodAll_cons hA
  obtain ⟨v1, vs1, d1, ds1, p1, q1, rfl, rfl, rfl, h1, r1⟩ := trodAll_cons r0
  obtain ⟨v2, vs2, d2, ds2, p2, q2, rfl, rfl, rfl, h2, r2⟩ := trodAll_cons r1
  obtain ⟨rfl, rfl, rfl⟩ := trodAll_nil r2
  obtain rfl : args = #[v0, v1, v2] := by cases args; simp_all
  obtain ⟨rfl, rfl⟩ := trodVars_none hV
  have k0 := h0
  have lt0 : ∀ x ∈ p0, x.block < W.heap.size := by obtain ⟨m, hm⟩ := k0; exact DataW.trod_lt m _ _ _ hm
  have k1 := h1
  have lt1 : ∀ x ∈ p1, x.block < W.heap.size := by obtain ⟨m, hm⟩ := k1; exact DataW.trod_lt m _ _ _ hm
  have k2 := h2
  have lt2 : ∀ x ∈ p2, x.block < W.heap.size := by obtain ⟨m, hm⟩ := k2; exact DataW.trod_lt m _ _ _ hm
  clear hA0 hval0
  refine Calls.mono hw fun e W' ⟨he, bel⟩ => ?_
  subst he
  exact ⟨_, rfl, _, _, _, [], _, [], hW', trodAll_mk1 (shut_bool Try.underlying4 _), (trodAll_cons_mk (Below.trod laidOut (by kernel_rfl) (of_decide_eq_true (by kernel_rfl)) k0 bel lt0) (trodAll_cons_mk (Below.trod laidOut (by kernel_rfl) (of_decide_eq_true (by kernel_rfl)) k1 bel lt1) (trodAll_cons_mk (Below.trod laidOut (by kernel_rfl) (of_decide_eq_true (by kernel_rfl)) k2 bel lt2) trodAll_mk0))), rfl, bel.frame _, fun h => by cases h⟩

theorem wireLays_over : Rows.wireLaysRow.holds Try.pinned (OpenSpec.ofChange Rows.wireLaysSpec) :=
  OpenClaim.holds_of_wide 5 Try.f5 rfl rfl rfl rfl rfl rfl rfl ⟨rfl, rfl, rfl, rfl, rfl⟩ rfl rfl rfl rfl rfl (by kernel_rfl) Try.func5 (by kernel_rfl)
    (of_decide_eq_true (by kernel_rfl)) (by unfold Func.isWrapper; first | (rw [if_pos (by decide +kernel)]; kernel_rfl) | (rw [if_neg (by decide +kernel)]; exact ⟨rfl, rfl⟩))
    (fun os started H enc _ => wireLays_lifted os started H enc)

/-- The statement. -/
theorem wireLays_proved : Rows.WireLaysSaid := wireLays_over
#print axioms wireLays_proved
end Go.Proofs.Ytbekdbehiacnkaa
