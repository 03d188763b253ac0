/- Whatever is asked of a reader of any bytes, it answers what the document's answer says: 'WireReadsSaid', for every input, with no condition. -/
import Derived.Test.YtbekdbehiacnkaaWireR
import Derived.Test.YtbekdbehiacnkaaLite23
import Derived.Test.YtbekdbehiacnkaaRows
namespace Go.Proofs.Ytbekdbehiacnkaa
open Go Go.Lite Go.ChangeShapes Go.WideShapes Go.ChangeAt Go.RowKit
set_option linter.unusedSimpArgs false
set_option linter.unusedVariables false

theorem own : ownKnob Try.prog.godebug = none := by kernel_rfl
theorem laidOut : laidOutB Try.prog = true := by kernel_rfl

theorem pairs_of {Hh : Hp} {v : Value} {t e : TypeId} (hu : Try.prog.underlying t = some (.slice e)) {a b : TypeId} (hl : leafs Try.prog 4 e = some [a, b]) (ha : Try.prog.underlying a = some (.int .i64)) (hb : Try.prog.underlying b = some (.int .i64))
    (h : Sh Try.prog Hh t v) : ∃ n, n ≤ 9223372036854775807 ∧ Pairs Hh v n := by
  rcases h.inv_slice hu hl with rfl | ⟨bl, n, c, vs, rfl, hn, hlen, hf, hs⟩
  · exact ⟨0, by omega, none, 0, rfl, .inl rfl⟩
  · have hn : n ≤ 9223372036854775807 := hn
    refine ⟨n, hn, _, c, rfl, .inr ⟨bl, vs, rfl, hf, fun i hi => ?_⟩⟩
    simp only [List.length_cons, List.length_nil] at hlen hs
    have h0 : i * 2 < vs.length := by omega
    have h1 : i * 2 + 1 < vs.length := by omega
    obtain ⟨x, hx, wx⟩ := (hs i 0 a _ hi rfl (List.getElem?_eq_getElem h0)).inv_int ha
    obtain ⟨y, hy, wy⟩ := (hs i 1 b _ hi rfl (List.getElem?_eq_getElem h1)).inv_int hb
    refine ⟨x, y, ?_, int_wf wx rfl, int_wf wy rfl⟩
    simp only [Blk.sub, Nat.zero_add]
    rw [if_pos (by omega)]
    rw [List.drop_eq_getElem_cons h0, List.drop_eq_getElem_cons h1]
    simp only [List.take_succ_cons, List.take_zero]
    rw [show vs[i * 2] = _ from hx, show vs[i * 2 + 1] = _ from hy]

theorem hasCells {W : World} (h : W.ShapedOpen Try.prog) : HasCells W := by
  obtain ⟨h1, _⟩ := h
  have hz : ((((begin Try.prog (fun _ _ => 0) default).world.heap[0]?).bind Obj.row?).isSome) = true := by kernel_rfl
  obtain ⟨⟨z, t⟩, hz⟩ := Option.isSome_iff_exists.1 hz
  have hg : (Nat.blt 0 Try.prog.globals.size) = true := by kernel_rfl
  obtain ⟨cs, h2, _⟩ := h1 0 z t (Nat.le_of_ble_eq_true hg) hz
  exact ⟨0, cs, t, _, h2⟩

theorem walk {W : World} (hC : HasCells W) {H : Type} {enc : TypeId × Value → H} {args : List Value} {ds : List (DataW H)} {p : List MemPlace} (hval : ∀ (j : Nat) t v, ([9, 22] : List TypeId)[j]? = some t → args[j]? = some v → ∃ b, Value.okWide Try.prog W .any b t v)
    (hA : DataW.TrodAll enc Try.prog W 0 (fun _ => true) true [9, 22] args ds p) : Calls Try.prog 3 args.toArray W fun e w' => e = .returned (.bool true) ∧ Below W.heap.size W w' := by
  have hT : ∀ t ∈ ([9, 22] : List TypeId), (∃ k l, leafs Try.prog k t = some l) ∧ (leafB Try.prog t = true ∨ aggB Try.prog t = true) := by
    intro t ht
    simp at ht
    rcases ht with rfl | rfl
    · exact ⟨⟨4, _, rfl⟩, .inl rfl⟩
    · exact ⟨⟨4, _, rfl⟩, .inl rfl⟩
  obtain ⟨μ, Hh, vs, _, hR, _, hL, hI⟩ := argsIn hC hT (fun j t v a b => .inr (hval j t v a b)) hA [] _ (Rel.start Try.prog W)
  cases hI with
  | agg z => exact absurd z (by decide)
  | one h1 hI =>
    cases hI with
    | agg z => exact absurd z (by decide)
    | one h2 hI =>
      cases hI
      obtain ⟨l, rfl, hl⟩ := h1.inv_str Try.underlying9
      obtain ⟨n, hn, hp⟩ := pairs_of Try.underlying22 (a := 3) (b := 3) rfl Try.underlying3 Try.underlying3 h2
      refine (wireReads_CF hl hn hp _ _ _ _ hR hL).mono fun e w' ⟨v, v', H', μ', h1, h2, h3, h4, h5⟩ => ?_
      subst h2
      exact ⟨by rw [h1, h4.scal_eq rfl], below_of_rel h5⟩

set_option maxRecDepth 100000 in
theorem lifted (os : Os) (started : os.Started) (H : Type) (enc : TypeId × Value → H) :
    ReturnsInHanded {} Try.checked os 3 .any (Rows.wireReadsSpec.pre6 enc Try.prog Try.f3 Rows.wireReadsRow.domain false) (Rows.wireReadsSpec.post enc Try.prog Try.f3 false true false false) := by
  refine returnsInHanded_of_change_shaped (C := Try.checked) own started (by kernel_rfl) Try.func3
    (ChangeSpec.witness6 (enc := enc) (C := Try.checked) false ⟨#[], #[.string ⟨#[]⟩, .slice none 0 0], []⟩ 8 (by kernel_rfl) (by kernel_rfl) (by kernel_rfl) (by kernel_rfl)) ?_
  intro W base args ds gs before hval0 hW hcnd _ hsh _
  have hW' := hW
  obtain ⟨p, q, hA0, hV, rfl, hfz, hnd⟩ := hW
  have hA : DataW.TrodAll enc Try.prog W 0 (fun _ => true) true Try.f3.params.toList args.toList ds p := hA0
  have hval : ∀ (j : Nat) t v, Try.f3.params[j]? = some t → args[j]? = some v → Value.okWide Try.prog W .any base t v := hval0
  rw [Try.params3] at hA hval
  have hw := walk (hasCells hsh) (args := args.toList) (fun j t v a b => ⟨base, hval j t v (by simpa using a) (by simpa using b)⟩) hA
  obtain ⟨v0, vs0, d0, ds0, p0, q0, hargs, rfl, rfl, h0, r0⟩ := trodAll_cons hA
  obtain ⟨v1, vs1, d1, ds1, p1, q1, rfl, rfl, rfl, h1, r1⟩ := trodAll_cons r0
  obtain ⟨rfl, rfl, rfl⟩ := trodAll_nil r1
  obtain rfl : args = #[v0, v1] := by cases args; simp_all
  obtain ⟨rfl, rfl⟩ := trodVars_none hV
  have k0 := h0
  have lt0 : ∀ x ∈ p0, x.block < W.heap.size := by obtain ⟨m, hm⟩ := k0; exact DataW.trod_lt m _ _ _ hm
  have k1 := h1
  have lt1 : ∀ x ∈ p1, x.block < W.heap.size := by obtain ⟨m, hm⟩ := k1; exact DataW.trod_lt m _ _ _ hm
  clear hA0 hval0
  refine Calls.mono hw fun e W' ⟨he, bel⟩ => ?_
  subst he
  exact ⟨_, rfl, _, _, _, [], _, [], hW', trodAll_mk1 (shut_bool Try.underlying4 _), (trodAll_cons_mk (Below.trod laidOut (by kernel_rfl) (of_decide_eq_true (by kernel_rfl)) k0 bel lt0) (trodAll_cons_mk (Below.trod laidOut (by kernel_rfl) (of_decide_eq_true (by kernel_rfl)) k1 bel lt1) trodAll_mk0)), rfl, bel.frame _, fun h => by cases h⟩

theorem over : Rows.wireReadsRow.holds Try.pinned (OpenSpec.ofChange Rows.wireReadsSpec) :=
  OpenClaim.holds_of_wide 3 Try.f3 rfl rfl rfl rfl rfl rfl rfl ⟨rfl, rfl, rfl, rfl, rfl⟩ rfl rfl rfl rfl rfl (by kernel_rfl) Try.func3 (by kernel_rfl)
    (of_decide_eq_true (by kernel_rfl)) (by unfold Func.isWrapper; first | (rw [if_pos (by decide +kernel)]; kernel_rfl) | (rw [if_neg (by decide +kernel)]; exact ⟨rfl, rfl⟩))
    (fun os started H enc _ => lifted os started H enc)

/-- The statement. -/
theorem wireReads_proved : Rows.WireReadsSaid := over
#print axioms wireReads_proved
end Go.Proofs.Ytbekdbehiacnkaa
