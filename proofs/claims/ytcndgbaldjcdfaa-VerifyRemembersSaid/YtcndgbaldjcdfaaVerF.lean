/- Cells: the statements' walks. -/
import Derived.Test.YtcndgbaldjcdfaaVerE
import Derived.Test.YtcndgbaldjcdfaaRows
namespace Go.Proofs.Ytcndgbaldjcdfaa
set_option maxHeartbeats 8000000
set_option maxRecDepth 100000
open Go Go.Lite
set_option linter.unusedSimpArgs false
set_option linter.unusedVariables false

theorem lookE1 {a : List UInt8} (h : rightS a = true) : lookV [] a = .tuple #[.bool false, .bool false, S (cellL a false), .int .i64 0] := by unfold lookV; rw [h]; simp [E]
theorem lookE2 {a : List UInt8} {t : Bool} (h : rightS a = true) : lookV (cellL a t) a = .tuple #[.bool false, .bool t, S (cellL a t), .int .i64 0] := by
  have ha := rightS_true h
  have hc : cellL a t ≠ [] := fun e => by have := congrArg List.length e; rw [cellL_length] at this; simp at this
  unfold lookV
  rw [h, parse_of ha.1 ha.2]
  simp [E, hc]
theorem lookE3 {s a : List UInt8} {t : Bool} (h : rightS a = true) (hs : rightS s = true) (hne : s ≠ a) : lookV (cellL s t) a = .tuple #[.bool true, .bool false, S (cellL a false), .int .i64 0] := by
  have ha := rightS_true hs
  have hc : cellL s t ≠ [] := fun e => by have := congrArg List.length e; rw [cellL_length] at this; simp at this
  unfold lookV
  rw [h, parse_of ha.1 ha.2]
  simp [E, hc, hne]
theorem trustE1 {a : List UInt8} (h : rightS a = true) : trustV [] a = .tuple #[S [], .int .i64 5] := by unfold trustV; rw [h]; simp [E]
theorem trustE2 {a : List UInt8} {t : Bool} (h : rightS a = true) : trustV (cellL a t) a = .tuple #[S (cellL a true), .int .i64 0] := by
  have ha := rightS_true h
  have hc : cellL a t ≠ [] := fun e => by have := congrArg List.length e; rw [cellL_length] at this; simp at this
  unfold trustV
  rw [h, parse_of ha.1 ha.2]
  simp [E, hc]
theorem trustE3 {s a : List UInt8} {t : Bool} (h : rightS a = true) (hs : rightS s = true) (hne : s ≠ a) : trustV (cellL s t) a = .tuple #[S [], .int .i64 8] := by
  have ha := rightS_true hs
  have hc : cellL s t ≠ [] := fun e => by have := congrArg List.length e; rw [cellL_length] at this; simp at this
  unfold trustV
  rw [h, parse_of ha.1 ha.2]
  simp [E, hc, hne]
theorem look_form (c a : List UInt8) : ∃ (x y : Bool) (z : List UInt8) (e : Int), lookV c a = .tuple #[.bool x, .bool y, S z, .int .i64 e] := by
  unfold lookV
  split
  · exact ⟨_, _, _, _, rfl⟩
  · split
    · exact ⟨_, _, _, _, rfl⟩
    · split
      · exact ⟨_, _, _, _, rfl⟩
      · exact ⟨_, _, _, _, rfl⟩
theorem trust_form (c a : List UInt8) : ∃ (z : List UInt8) (e : Int), trustV c a = .tuple #[S z, .int .i64 e] := by
  unfold trustV
  split
  · exact ⟨_, _, rfl⟩
  · split
    · exact ⟨_, _, rfl⟩
    · split
      · exact ⟨_, _, rfl⟩
      · split
        · exact ⟨_, _, rfl⟩
        · exact ⟨_, _, rfl⟩

theorem vworks_CF {H : Hp} : CF Try.prog 12 [] H fun v H' => v = .bool true ∧ H' = H := by
  have r : rightS [97] = true := rfl
  have h1 := fun (H : Hp) => look_CF (H := H) (c := []) (a := [97]) (by simp)
  have h2 := fun (H : Hp) => trust_CF (H := H) (c := cellL [97] false) (a := [97]) (by simp [cellL_length])
  have h3 := fun (H : Hp) => look_CF (H := H) (c := cellL [97] true) (a := [97]) (by simp [cellL_length])
  rw [lookE1 r] at h1
  rw [trustE2 r] at h2
  rw [lookE2 r] at h3
  refine CF.go _ Try.func12 rfl ⟨Nat.le_of_ble_eq_true rfl, rfl⟩ fun base hb0 hn => ?_
  subst hb0
  refine TC.seq ?_
  refine TC.region (id := 0) ?_
  refine TO.w hn (.assign _) rfl (guard0 rfl) (lop_assign (agree hn) rfl) rfl ?_
  refine TO.nil ?_
  refine TC.seq ?_
  refine TC.region (id := 1) ?_
  (refine TO.wc hn (.call _) rfl (guard0 rfl) (lop_func (agree hn) rfl rfl rfl) rfl (CF.co noOwn rfl rfl (h1 _)) (fun v H2 hR => ?_); (obtain ⟨rfl, e2⟩ := hR; cases e2.symm))
  refine TO.w hn (.move _) rfl (guard0 rfl) (lop_move (agree hn) rfl) rfl ?_
  refine TO.w hn (.extract _ _) rfl (guard0 rfl) (lop_ex (agree hn) rfl rfl) rfl ?_
  refine TO.w hn (.extract _ _) rfl (guard0 rfl) (lop_ex (agree hn) rfl rfl) rfl ?_
  refine TO.w hn (.extract _ _) rfl (guard0 rfl) (lop_ex (agree hn) rfl rfl) rfl ?_
  refine TO.w hn (.extract _ _) rfl (guard0 rfl) (lop_ex (agree hn) rfl rfl) rfl ?_
  refine TO.w hn (.assign _) rfl (guard0 rfl) (lop_assign (agree hn) rfl) rfl ?_
  refine TO.w hn (.assign _) rfl (guard0 rfl) (lop_assign (agree hn) rfl) rfl ?_
  refine TO.w hn (.assign _) rfl (guard0 rfl) (lop_assign (agree hn) rfl) rfl ?_
  refine TO.w hn (.assign _) rfl (guard0 rfl) (lop_assign (agree hn) rfl) rfl ?_
  refine TO.nil ?_
  refine TC.seq ?_
  refine TC.region (id := 2) ?_
  refine TO.w hn (.move _) rfl (guard0 rfl) (lop_move (agree hn) rfl) rfl ?_
  (refine TO.wc hn (.call _) rfl (guard0 rfl) (lop_func (agree hn) rfl rfl rfl) rfl (CF.co noOwn rfl rfl (h2 _)) (fun v H2 hR => ?_); (obtain ⟨rfl, e2⟩ := hR; cases e2.symm))
  refine TO.w hn (.move _) rfl (guard0 rfl) (lop_move (agree hn) rfl) rfl ?_
  refine TO.w hn (.extract _ _) rfl (guard0 rfl) (lop_ex (agree hn) rfl rfl) rfl ?_
  refine TO.w hn (.extract _ _) rfl (guard0 rfl) (lop_ex (agree hn) rfl rfl) rfl ?_
  refine TO.w hn (.assign _) rfl (guard0 rfl) (lop_assign (agree hn) rfl) rfl ?_
  refine TO.w hn (.assign _) rfl (guard0 rfl) (lop_assign (agree hn) rfl) rfl ?_
  refine TO.nil ?_
  refine TC.seq ?_
  refine TC.region (id := 3) ?_
  refine TO.w hn (.move _) rfl (guard0 rfl) (lop_move (agree hn) rfl) rfl ?_
  (refine TO.wc hn (.call _) rfl (guard0 rfl) (lop_func (agree hn) rfl rfl rfl) rfl (CF.co noOwn rfl rfl (h3 _)) (fun v H2 hR => ?_); (obtain ⟨rfl, e2⟩ := hR; cases e2.symm))
  refine TO.w hn (.move _) rfl (guard0 rfl) (lop_move (agree hn) rfl) rfl ?_
  refine TO.w hn (.extract _ _) rfl (guard0 rfl) (lop_ex (agree hn) rfl rfl) rfl ?_
  refine TO.w hn (.extract _ _) rfl (guard0 rfl) (lop_ex (agree hn) rfl rfl) rfl ?_
  refine TO.w hn (.extract _ _) rfl (guard0 rfl) (lop_ex (agree hn) rfl rfl) rfl ?_
  refine TO.w hn (.extract _ _) rfl (guard0 rfl) (lop_ex (agree hn) rfl rfl) rfl ?_
  refine TO.w hn (.assign _) rfl (guard0 rfl) (lop_assign (agree hn) rfl) rfl ?_
  refine TO.w hn (.assign _) rfl (guard0 rfl) (lop_assign (agree hn) rfl) rfl ?_
  refine TO.w hn (.assign _) rfl (guard0 rfl) (lop_assign (agree hn) rfl) rfl ?_
  refine TO.w hn (.assign _) rfl (guard0 rfl) (lop_assign (agree hn) rfl) rfl ?_
  refine TO.nil ?_
  refine TC.seq ?_
  refine TC.region (id := 4) ?_
  refine TO.w hn (.move _) rfl (guard0 rfl) (lop_move (agree hn) rfl) rfl ?_
  refine TO.w hn (.binOp _ _ _ _ _) rfl (guard0 rfl) (lop_binT (agree hn) rfl rfl rfl (by assumption)) rfl ?_
  refine TO.w hn (.move _) rfl (guard0 rfl) (lop_move (agree hn) rfl) rfl ?_
  refine TO.w hn (.move _) rfl (guardOn (agree hn) rfl rfl rfl rfl) (lop_move (agree hn) rfl) rfl ?_
  refine TO.w hn (.binOp _ _ _ _ _) rfl (guardOn (agree hn) rfl rfl rfl rfl) (lop_eqST (agree hn) rfl rfl (by rfl)) rfl ?_
  refine TO.w hn (.pick _ _ _) rfl (guard0 rfl) (lop_pickT (agree hn) rfl rfl rfl) rfl ?_
  refine TO.w hn (.move _) rfl (guard0 rfl) (lop_move (agree hn) rfl) rfl ?_
  refine TO.w hn (.move _) rfl (guardOn (agree hn) rfl rfl rfl rfl) (lop_move (agree hn) rfl) rfl ?_
  refine TO.w hn (.binOp _ _ _ _ _) rfl (guardOn (agree hn) rfl rfl rfl rfl) (lop_binT (agree hn) rfl rfl rfl (by assumption)) rfl ?_
  refine TO.w hn (.pick _ _ _) rfl (guard0 rfl) (lop_pickT (agree hn) rfl rfl rfl) rfl ?_
  refine TO.w hn (.move _) rfl (guard0 rfl) (lop_move (agree hn) rfl) rfl ?_
  refine TO.w hn (.move _) rfl (guardOn (agree hn) rfl rfl rfl rfl) (lop_move (agree hn) rfl) rfl ?_
  refine TO.w hn (.binOp _ _ _ _ _) rfl (guardOn (agree hn) rfl rfl rfl rfl) (lop_eqST (agree hn) rfl rfl (by rfl)) rfl ?_
  refine TO.w hn (.pick _ _ _) rfl (guard0 rfl) (lop_pickT (agree hn) rfl rfl rfl) rfl ?_
  refine TO.w hn (.move _) rfl (guard0 rfl) (lop_move (agree hn) rfl) rfl ?_
  refine TO.w hn (.move _) rfl (guardOn (agree hn) rfl rfl rfl rfl) (lop_move (agree hn) rfl) rfl ?_
  refine TO.w hn (.binOp _ _ _ _ _) rfl (guardOn (agree hn) rfl rfl rfl rfl) (lop_binT (agree hn) rfl rfl rfl (by assumption)) rfl ?_
  refine TO.w hn (.pick _ _ _) rfl (guard0 rfl) (lop_pickT (agree hn) rfl rfl rfl) rfl ?_
  refine TO.w hn (.move _) rfl (guard0 rfl) (lop_move (agree hn) rfl) rfl ?_
  refine TO.w hn (.move _) rfl (guardOn (agree hn) rfl rfl rfl rfl) (lop_move (agree hn) rfl) rfl ?_
  refine TO.w hn (.unOp _ _ _) rfl (guardOn (agree hn) rfl rfl rfl rfl) (lop_not0 (agree hn) rfl) rfl ?_
  refine TO.w hn (.pick _ _ _) rfl (guard0 rfl) (lop_pickT (agree hn) rfl rfl rfl) rfl ?_
  refine TO.w hn (.move _) rfl (guard0 rfl) (lop_move (agree hn) rfl) rfl ?_
  refine TO.w hn (.move _) rfl (guardOn (agree hn) rfl rfl rfl rfl) (lop_move (agree hn) rfl) rfl ?_
  refine TO.w hn (.pick _ _ _) rfl (guard0 rfl) (lop_pickT (agree hn) rfl rfl rfl) rfl ?_
  refine TO.w hn (.move _) rfl (guard0 rfl) (lop_move (agree hn) rfl) rfl ?_
  refine TO.w hn (.move _) rfl (guardOn (agree hn) rfl rfl rfl rfl) (lop_move (agree hn) rfl) rfl ?_
  refine TO.w hn (.move _) rfl (guardOn (agree hn) rfl rfl rfl rfl) (lop_move (agree hn) rfl) rfl ?_
  refine TO.w hn (.binOp _ _ _ _ _) rfl (guardOn (agree hn) rfl rfl rfl rfl) (lop_eqST (agree hn) rfl rfl (by rfl)) rfl ?_
  refine TO.w hn (.pick _ _ _) rfl (guard0 rfl) (lop_pickT (agree hn) rfl rfl rfl) rfl ?_
  refine TO.w hn (.assign _) rfl (guard0 rfl) (lop_assign (agree hn) rfl) rfl ?_
  refine TO.nil ?_
  refine TC.ret ?_
  exact ⟨trivial, _, lres1 (agree hn) rfl, rfl, rfl⟩

theorem verifyCells_CF {H : Hp} {c a : List UInt8} (hc : c.length ≤ 9223372036854775807) (ha : a.length ≤ 9223372036854775807) : CF Try.prog 3 [S c, S a] H fun v H' => v = .bool true := by
  refine CF.go _ Try.func3 rfl ⟨Nat.le_of_ble_eq_true rfl, rfl⟩ fun base hb0 hn => ?_
  subst hb0
  have eb : ∀ l : List UInt8, l.length ≤ 9223372036854775807 → (List.take (min (l.length : Int) (1100 : Int)).toNat l).length ≤ 1100 := fun l h => by rw [List.length_take]; omega
  have ec := eb c hc
  obtain ⟨x, y, z, e, h1⟩ := look_form (List.take (min (c.length : Int) (1100 : Int)).toNat c) (List.take (min (a.length : Int) (1100 : Int)).toNat a)
  obtain ⟨z2, e2, h2⟩ := trust_form (List.take (min (c.length : Int) (1100 : Int)).toNat c) (List.take (min (a.length : Int) (1100 : Int)).toNat a)
  have k1 := fun (H : Hp) => CF.co noOwn rfl rfl (look_CF (H := H) (c := List.take (min (c.length : Int) (1100 : Int)).toNat c) (a := List.take (min (a.length : Int) (1100 : Int)).toNat a) (by omega))
  have k2 := fun (H : Hp) => CF.co noOwn rfl rfl (lookR_CF (H := H) (c := List.take (min (c.length : Int) (1100 : Int)).toNat c) (a := List.take (min (a.length : Int) (1100 : Int)).toNat a) (by omega))
  have k3 := fun (H : Hp) => CF.co noOwn rfl rfl (trust_CF (H := H) (c := List.take (min (c.length : Int) (1100 : Int)).toNat c) (a := List.take (min (a.length : Int) (1100 : Int)).toNat a) (by omega))
  have k4 := fun (H : Hp) => CF.co noOwn rfl rfl (trustR_CF (H := H) (c := List.take (min (c.length : Int) (1100 : Int)).toNat c) (a := List.take (min (a.length : Int) (1100 : Int)).toNat a) (by omega))
  rw [h1] at k1 k2
  rw [h2] at k3 k4
  refine TC.seq ?_
  refine TC.region (id := 0) ?_
  refine TO.w hn (.assign _) rfl (guard0 rfl) (lop_assign (agree hn) rfl) rfl ?_
  refine TO.nil ?_
  refine TC.seq ?_
  refine TC.region (id := 1) ?_
  refine TO.w hn (.move _) rfl (guard0 rfl) (lop_move (agree hn) rfl) rfl ?_
  refine TO.w hn (.move _) rfl (guard0 rfl) (lop_move (agree hn) rfl) rfl ?_
  refine TO.w hn (.call _) rfl (guard0 rfl) (lop_built (agree hn) rfl rfl (lbuiltin_lenS rfl)) rfl ?_
  refine TO.w hn (.call _) rfl (guard0 rfl) (lop_built (agree hn) rfl rfl lbuiltin_minI) rfl ?_
  refine TO.w hn (.slice _ _ _ _ _) rfl (guard0 rfl) (lop_slice (agree hn) rfl rfl rfl rfl (lsliceS_hi rfl (by exact lboundI (by omega) (by omega)))) rfl ?_
  refine TO.w hn (.assign _) rfl (guard0 rfl) (lop_assign (agree hn) rfl) rfl ?_
  refine TO.nil ?_
  refine TC.seq ?_
  refine TC.region (id := 2) ?_
  refine TO.w hn (.move _) rfl (guard0 rfl) (lop_move (agree hn) rfl) rfl ?_
  refine TO.w hn (.move _) rfl (guard0 rfl) (lop_move (agree hn) rfl) rfl ?_
  refine TO.w hn (.call _) rfl (guard0 rfl) (lop_built (agree hn) rfl rfl (lbuiltin_lenS rfl)) rfl ?_
  refine TO.w hn (.call _) rfl (guard0 rfl) (lop_built (agree hn) rfl rfl lbuiltin_minI) rfl ?_
  refine TO.w hn (.slice _ _ _ _ _) rfl (guard0 rfl) (lop_slice (agree hn) rfl rfl rfl rfl (lsliceS_hi rfl (by exact lboundI (by omega) (by omega)))) rfl ?_
  refine TO.w hn (.assign _) rfl (guard0 rfl) (lop_assign (agree hn) rfl) rfl ?_
  refine TO.nil ?_
  refine TC.seq ?_
  refine TC.region (id := 3) ?_
  refine TO.w hn (.move _) rfl (guard0 rfl) (lop_move (agree hn) rfl) rfl ?_
  refine TO.w hn (.move _) rfl (guard0 rfl) (lop_move (agree hn) rfl) rfl ?_
  (refine TO.wc hn (.call _) rfl (guard0 rfl) (lop_func (agree hn) rfl rfl rfl) rfl (k1 _) (fun v H2 hR => ?_); (obtain ⟨rfl, e2⟩ := hR; cases e2.symm))
  refine TO.w hn (.move _) rfl (guard0 rfl) (lop_move (agree hn) rfl) rfl ?_
  refine TO.w hn (.extract _ _) rfl (guard0 rfl) (lop_ex (agree hn) rfl rfl) rfl ?_
  refine TO.w hn (.extract _ _) rfl (guard0 rfl) (lop_ex (agree hn) rfl rfl) rfl ?_
  refine TO.w hn (.extract _ _) rfl (guard0 rfl) (lop_ex (agree hn) rfl rfl) rfl ?_
  refine TO.w hn (.extract _ _) rfl (guard0 rfl) (lop_ex (agree hn) rfl rfl) rfl ?_
  refine TO.w hn (.assign _) rfl (guard0 rfl) (lop_assign (agree hn) rfl) rfl ?_
  refine TO.w hn (.assign _) rfl (guard0 rfl) (lop_assign (agree hn) rfl) rfl ?_
  refine TO.w hn (.assign _) rfl (guard0 rfl) (lop_assign (agree hn) rfl) rfl ?_
  refine TO.w hn (.assign _) rfl (guard0 rfl) (lop_assign (agree hn) rfl) rfl ?_
  refine TO.nil ?_
  refine TC.seq ?_
  refine TC.region (id := 4) ?_
  refine TO.w hn (.move _) rfl (guard0 rfl) (lop_move (agree hn) rfl) rfl ?_
  refine TO.w hn (.move _) rfl (guard0 rfl) (lop_move (agree hn) rfl) rfl ?_
  (refine TO.wc hn (.call _) rfl (guard0 rfl) (lop_func (agree hn) rfl rfl rfl) rfl (k2 _) (fun v H2 hR => ?_); (obtain ⟨rfl, e2⟩ := hR; cases e2.symm))
  refine TO.w hn (.move _) rfl (guard0 rfl) (lop_move (agree hn) rfl) rfl ?_
  refine TO.w hn (.extract _ _) rfl (guard0 rfl) (lop_ex (agree hn) rfl rfl) rfl ?_
  refine TO.w hn (.extract _ _) rfl (guard0 rfl) (lop_ex (agree hn) rfl rfl) rfl ?_
  refine TO.w hn (.extract _ _) rfl (guard0 rfl) (lop_ex (agree hn) rfl rfl) rfl ?_
  refine TO.w hn (.extract _ _) rfl (guard0 rfl) (lop_ex (agree hn) rfl rfl) rfl ?_
  refine TO.w hn (.assign _) rfl (guard0 rfl) (lop_assign (agree hn) rfl) rfl ?_
  refine TO.w hn (.assign _) rfl (guard0 rfl) (lop_assign (agree hn) rfl) rfl ?_
  refine TO.w hn (.assign _) rfl (guard0 rfl) (lop_assign (agree hn) rfl) rfl ?_
  refine TO.w hn (.assign _) rfl (guard0 rfl) (lop_assign (agree hn) rfl) rfl ?_
  refine TO.nil ?_
  refine TC.seq ?_
  refine TC.region (id := 5) ?_
  refine TO.w hn (.move _) rfl (guard0 rfl) (lop_move (agree hn) rfl) rfl ?_
  refine TO.w hn (.move _) rfl (guard0 rfl) (lop_move (agree hn) rfl) rfl ?_
  (refine TO.wc hn (.call _) rfl (guard0 rfl) (lop_func (agree hn) rfl rfl rfl) rfl (k3 _) (fun v H2 hR => ?_); (obtain ⟨rfl, e2⟩ := hR; cases e2.symm))
  refine TO.w hn (.move _) rfl (guard0 rfl) (lop_move (agree hn) rfl) rfl ?_
  refine TO.w hn (.extract _ _) rfl (guard0 rfl) (lop_ex (agree hn) rfl rfl) rfl ?_
  refine TO.w hn (.extract _ _) rfl (guard0 rfl) (lop_ex (agree hn) rfl rfl) rfl ?_
  refine TO.w hn (.assign _) rfl (guard0 rfl) (lop_assign (agree hn) rfl) rfl ?_
  refine TO.w hn (.assign _) rfl (guard0 rfl) (lop_assign (agree hn) rfl) rfl ?_
  refine TO.nil ?_
  refine TC.seq ?_
  refine TC.region (id := 6) ?_
  refine TO.w hn (.move _) rfl (guard0 rfl) (lop_move (agree hn) rfl) rfl ?_
  refine TO.w hn (.move _) rfl (guard0 rfl) (lop_move (agree hn) rfl) rfl ?_
  (refine TO.wc hn (.call _) rfl (guard0 rfl) (lop_func (agree hn) rfl rfl rfl) rfl (k4 _) (fun v H2 hR => ?_); (obtain ⟨rfl, e2⟩ := hR; cases e2.symm))
  refine TO.w hn (.move _) rfl (guard0 rfl) (lop_move (agree hn) rfl) rfl ?_
  refine TO.w hn (.extract _ _) rfl (guard0 rfl) (lop_ex (agree hn) rfl rfl) rfl ?_
  refine TO.w hn (.extract _ _) rfl (guard0 rfl) (lop_ex (agree hn) rfl rfl) rfl ?_
  refine TO.w hn (.assign _) rfl (guard0 rfl) (lop_assign (agree hn) rfl) rfl ?_
  refine TO.w hn (.assign _) rfl (guard0 rfl) (lop_assign (agree hn) rfl) rfl ?_
  refine TO.nil ?_
  refine TC.seq ?_
  refine TC.region (id := 7) ?_
  refine TO.w hn (.move _) rfl (guard0 rfl) (lop_move (agree hn) rfl) rfl ?_
  refine TO.w hn (.move _) rfl (guard0 rfl) (lop_move (agree hn) rfl) rfl ?_
  refine TO.w hn (.binOp _ _ _ _ _) rfl (guard0 rfl) (lop_eqBB (agree hn) rfl rfl rfl (by with_reducible rfl)) rfl ?_
  refine TO.w hn (.move _) rfl (guard0 rfl) (lop_move (agree hn) rfl) rfl ?_
  refine TO.w hn (.move _) rfl (guardOn (agree hn) rfl rfl rfl rfl) (lop_move (agree hn) rfl) rfl ?_
  refine TO.w hn (.move _) rfl (guardOn (agree hn) rfl rfl rfl rfl) (lop_move (agree hn) rfl) rfl ?_
  refine TO.w hn (.binOp _ _ _ _ _) rfl (guardOn (agree hn) rfl rfl rfl rfl) (lop_eqBB (agree hn) rfl rfl rfl (by with_reducible rfl)) rfl ?_
  refine TO.w hn (.pick _ _ _) rfl (guard0 rfl) (lop_pickT (agree hn) rfl rfl rfl) rfl ?_
  refine TO.w hn (.move _) rfl (guard0 rfl) (lop_move (agree hn) rfl) rfl ?_
  refine TO.w hn (.move _) rfl (guardOn (agree hn) rfl rfl rfl rfl) (lop_move (agree hn) rfl) rfl ?_
  refine TO.w hn (.move _) rfl (guardOn (agree hn) rfl rfl rfl rfl) (lop_move (agree hn) rfl) rfl ?_
  refine TO.w hn (.binOp _ _ _ _ _) rfl (guardOn (agree hn) rfl rfl rfl rfl) (lop_eqST (agree hn) rfl rfl (by rfl)) rfl ?_
  refine TO.w hn (.pick _ _ _) rfl (guard0 rfl) (lop_pickT (agree hn) rfl rfl rfl) rfl ?_
  refine TO.w hn (.move _) rfl (guard0 rfl) (lop_move (agree hn) rfl) rfl ?_
  refine TO.w hn (.move _) rfl (guardOn (agree hn) rfl rfl rfl rfl) (lop_move (agree hn) rfl) rfl ?_
  refine TO.w hn (.move _) rfl (guardOn (agree hn) rfl rfl rfl rfl) (lop_move (agree hn) rfl) rfl ?_
  refine TO.w hn (.binOp _ _ _ _ _) rfl (guardOn (agree hn) rfl rfl rfl rfl) (lop_binT (agree hn) rfl rfl rfl (by exact beq_self_eq_true _)) rfl ?_
  refine TO.w hn (.pick _ _ _) rfl (guard0 rfl) (lop_pickT (agree hn) rfl rfl rfl) rfl ?_
  refine TO.w hn (.move _) rfl (guard0 rfl) (lop_move (agree hn) rfl) rfl ?_
  refine TO.w hn (.move _) rfl (guardOn (agree hn) rfl rfl rfl rfl) (lop_move (agree hn) rfl) rfl ?_
  refine TO.w hn (.move _) rfl (guardOn (agree hn) rfl rfl rfl rfl) (lop_move (agree hn) rfl) rfl ?_
  refine TO.w hn (.binOp _ _ _ _ _) rfl (guardOn (agree hn) rfl rfl rfl rfl) (lop_eqST (agree hn) rfl rfl (by rfl)) rfl ?_
  refine TO.w hn (.pick _ _ _) rfl (guard0 rfl) (lop_pickT (agree hn) rfl rfl rfl) rfl ?_
  refine TO.w hn (.move _) rfl (guard0 rfl) (lop_move (agree hn) rfl) rfl ?_
  refine TO.w hn (.move _) rfl (guardOn (agree hn) rfl rfl rfl rfl) (lop_move (agree hn) rfl) rfl ?_
  refine TO.w hn (.move _) rfl (guardOn (agree hn) rfl rfl rfl rfl) (lop_move (agree hn) rfl) rfl ?_
  refine TO.w hn (.binOp _ _ _ _ _) rfl (guardOn (agree hn) rfl rfl rfl rfl) (lop_binT (agree hn) rfl rfl rfl (by exact beq_self_eq_true _)) rfl ?_
  refine TO.w hn (.pick _ _ _) rfl (guard0 rfl) (lop_pickT (agree hn) rfl rfl rfl) rfl ?_
  refine TO.w hn (.move _) rfl (guard0 rfl) (lop_move (agree hn) rfl) rfl ?_
  (refine TO.wc hn (.call _) rfl (guardOn (agree hn) rfl rfl rfl rfl) (lop_func (agree hn) rfl rfl rfl) rfl (CF.co noOwn rfl rfl vworks_CF) (fun v H2 hR => ?_); (obtain ⟨rfl, e2⟩ := hR; cases e2.symm))
  refine TO.w hn (.pick _ _ _) rfl (guard0 rfl) (lop_pickT (agree hn) rfl rfl rfl) rfl ?_
  refine TO.w hn (.assign _) rfl (guard0 rfl) (lop_assign (agree hn) rfl) rfl ?_
  refine TO.nil ?_
  refine TC.ret ?_
  exact ⟨trivial, _, lres1 (agree hn) rfl, rfl⟩

/-- An account of a number. -/
def nameL (c : Nat) : List UInt8 := [97, 99, 99, 111, 117, 110, 116, 32] ++ [UInt8.ofNat (48 + c % 3)]
theorem nameL_right (c : Nat) : rightS (nameL c) = true := by simp [rightS, nameL]
theorem name_CF {H : Hp} {c : Nat} (hc : c < 256) : CF Try.prog 13 [.int .u8 c] H fun v H' => v = S (nameL c) ∧ H' = H := by
  refine CF.forget ((?_ : CF _ _ _ _ fun u H' => u = S (nameL c) ∧ H.le H').mono fun u H' h => ⟨⟨h.1, by rw [h.1]; rfl⟩, h.2⟩)
  refine CF.wf fun hw => ?_
  refine CF.go _ Try.func13 rfl ⟨Nat.le_of_ble_eq_true rfl, rfl⟩ fun base hb0 hn => ?_
  subst hb0
  have hx : (48 : Int) + (c : Int) % 3 = ((UInt8.ofNat (48 + c % 3)).toNat : Int) := by
    have : (UInt8.ofNat (48 + c % 3)).toNat = 48 + c % 3 := by simp; omega
    omega
  have hbl : (H.new (.ints true .u8 [(48 : Int) + (c : Int) % 3])).f H.n = some (.ints true .u8 ([UInt8.ofNat (48 + c % 3)].map fun c => (c.toNat : Int))) := by
    rw [hx]
    exact new_self _ _
  refine TC.seq ?_
  refine TC.region (id := 0) ?_
  refine TO.w hn (.assign _) rfl (guard0 rfl) (lop_assign (agree hn) rfl) rfl ?_
  refine TO.nil ?_
  refine TC.seq ?_
  refine TC.region (id := 1) ?_
  refine TO.w hn (.move _) rfl (guard0 rfl) (lop_move (agree hn) rfl) rfl ?_
  refine TO.w hn (.binOp _ _ _ _ _) rfl (guard0 rfl) (lop_remP (agree hn) rfl rfl (by omega) (by omega)) rfl ?_
  refine TO.w hn (.binOp _ _ _ _ _) rfl (guard0 rfl) (lop_binI (agree hn) rfl rfl rfl rfl (by omega) (by omega)) rfl ?_
  refine TO.w hn (.buildSlice _ _ _) rfl (guard0 rfl) (lop_bslice (agree hn) rfl (lbuildSlice_1 rfl)) rfl ?_
  refine TO.w hn (.convert _ _ _) rfl (guard0 rfl) (lop_convBS (agree hn) rfl rfl rfl rfl (by assumption) (by (simp only [List.length_append, List.length_take, List.length_drop, List.length_map, List.length_cons, List.length_nil, List.length_singleton, List.length_replicate]; omega))) rfl ?_
  refine TO.w hn (.binOp _ _ _ _ _) rfl (guard0 rfl) (lop_cat (agree hn) rfl rfl (by (simp only [List.length_append, List.length_take, List.length_drop, List.length_map, List.length_cons, List.length_nil, List.length_singleton, List.length_replicate]; omega))) rfl ?_
  refine TO.w hn (.assign _) rfl (guard0 rfl) (lop_assign (agree hn) rfl) rfl ?_
  refine TO.nil ?_
  refine TC.ret ?_
  exact ⟨trivial, _, lres1 (agree hn) rfl, rfl, Hp.le.new _ hw⟩

/-- Slices of bytes. -/
def Bytes8 (H : Hp) (v : Value) (n : Nat) (T : Nat → Nat) : Prop :=
  ∃ (a : Option Addr) (c : Nat), v = .slice a n c ∧ (n = 0 ∨ ∃ b vs, a = some ⟨b, 0, none⟩ ∧ H.f b = some (.cells false 1 vs) ∧ ∀ i, i < n → (Blk.cells false 1 vs).cell (0 + i) = some (.int .u8 (T i)) ∧ T i < 256)
/-- What a cell holds between two steps. -/
def Held (c l : List UInt8) (g : Bool) : Prop := (c = [] ∧ l = [] ∧ g = false) ∨ (rightS l = true ∧ c = cellL l g)
theorem verifyRemembers_CF {H : Hp} {lv : Value} {n : Nat} {T : Nat → Nat} (hn0 : n ≤ 9223372036854775807) (hl : Bytes8 H lv n T) : CF Try.prog 4 [lv] H fun v H' => v = .bool true := by
  obtain ⟨la, lc, rfl, hl⟩ := hl
  refine CF.go _ Try.func4 rfl ⟨Nat.le_of_ble_eq_true rfl, rfl⟩ fun base hb0 hn => ?_
  subst hb0
  refine TC.seq ?_
  refine TC.region (id := 0) ?_
  refine TO.w hn (.assign _) rfl (guard0 rfl) (lop_assign (agree hn) rfl) rfl ?_
  refine TO.nil ?_
  refine TC.seq ?_
  refine TC.region (id := 1) ?_
  refine TO.w hn (.assign _) rfl (guard0 rfl) (lop_assign (agree hn) rfl) rfl ?_
  refine TO.nil ?_
  refine TC.seq ?_
  refine TC.region (id := 2) ?_
  refine TO.w hn (.assign _) rfl (guard0 rfl) (lop_assign (agree hn) rfl) rfl ?_
  refine TO.nil ?_
  refine TC.seq ?_
  refine TC.region (id := 3) ?_
  refine TO.w hn (.assign _) rfl (guard0 rfl) (lop_assign (agree hn) rfl) rfl ?_
  refine TO.nil ?_
  refine TC.seq ?_
  refine TC.seq ?_
  refine TC.region (id := 4) ?_
  refine TO.w hn (.assign _) rfl (guard0 rfl) (lop_assign (agree hn) rfl) rfl ?_
  refine TO.nil ?_
  refine TC.block ?_
  refine TC.loopI (fun m fr H' => ∃ (i : Nat) (c l : List UInt8) (g : Bool), m + i = n ∧ Held c l g ∧ fr.length = 89 ∧ Facts fr [(0, .slice la n lc), (3, S c), (4, S l), (5, .bool g), (6, .int .i64 (i : Nat))] ∧ H' = H) n
    ⟨0, [], [], false, by omega, .inl ⟨rfl, rfl, rfl⟩, (mkF_length _ _).trans hn, Facts.of (agree hn) ⟨rfl, rfl, rfl, rfl, rfl, trivial⟩, rfl⟩ ?_
  clear hn
  rintro m fr H' ⟨i, c, l, g, hi, hh, hn, hf, rfl⟩
  refine TC.facts _ hf ?_
  by_cases hin : i < n
  · by_cases hi40 : i < 40
    · rcases hl with h0 | ⟨b, vs, rfl, hb, hvs⟩
      · omega
      · obtain ⟨hx, hx256⟩ := hvs i hin
        have hr := nameL_right (T i)
        have hnm := fun (H : Hp) => CF.co noOwn rfl rfl (name_CF (H := H) hx256)
        generalize nameL (T i) = a at *
        have hane : a ≠ [] := (rightS_true hr).1
        by_cases hk : T i / 3 % 2 = 0
        · rcases hh with ⟨rfl, rfl, rfl⟩ | ⟨hrl, rfl⟩
          · have k1 := fun (H : Hp) => CF.co noOwn rfl rfl (look_CF (H := H) (c := []) (a := a) (by simp))
            rw [lookE1 hr] at k1
            have hne : ([] : List UInt8) ≠ a := fun e => hane e.symm
            refine TC.seq ?_
            refine TC.seq ?_
            refine TC.region (id := 5) ?_
            refine TO.w hn (.move _) rfl (guard0 rfl) (lop_move (agree hn) rfl) rfl ?_
            refine TO.w hn (.move _) rfl (guard0 rfl) (lop_move (agree hn) rfl) rfl ?_
            refine TO.w hn (.call _) rfl (guard0 rfl) (lop_built (agree hn) rfl rfl (lbuiltin_lenL rfl)) rfl ?_
            refine TO.w hn (.binOp _ _ _ _ _) rfl (guard0 rfl) (lop_binT (agree hn) rfl rfl rfl (by exact decide_eq_true (by omega))) rfl ?_
            refine TO.w hn (.move _) rfl (guard0 rfl) (lop_move (agree hn) rfl) rfl ?_
            refine TO.w hn (.move _) rfl (guardOn (agree hn) rfl rfl rfl rfl) (lop_move (agree hn) rfl) rfl ?_
            refine TO.w hn (.binOp _ _ _ _ _) rfl (guardOn (agree hn) rfl rfl rfl rfl) (lop_binT (agree hn) rfl rfl rfl (by exact decide_eq_true (by omega))) rfl ?_
            refine TO.w hn (.pick _ _ _) rfl (guard0 rfl) (lop_pickT (agree hn) rfl rfl rfl) rfl ?_
            refine TO.nil ?_
            refine TC.condT (agree hn) rfl rfl ?_
            refine TC.skip ?_
            refine TC.seq ?_
            refine TC.block ?_
            refine TC.seq ?_
            refine TC.region (id := 7) ?_
            refine TO.w hn (.move _) rfl (guard0 rfl) (lop_move (agree hn) rfl) rfl ?_
            refine TO.w hn (.move _) rfl (guard0 rfl) (lop_move (agree hn) rfl) rfl ?_
            refine TO.w hn (.indexAddr _ _ _) rfl (guard0 rfl) (lop_ia1 (agree hn) rfl rfl rfl rfl (by omega) (by omega)) rfl ?_
            refine TO.w hn (.load _ _) rfl (guard0 rfl) (lop_load (agree hn) rfl (by assumption) rfl (by assumption)) rfl ?_
            (refine TO.wc hn (.call _) rfl (guard0 rfl) (lop_func (agree hn) rfl rfl rfl) rfl (hnm _) (fun v H2 hR => ?_); (obtain ⟨rfl, e2⟩ := hR; cases e2.symm))
            refine TO.w hn (.assign _) rfl (guard0 rfl) (lop_assign (agree hn) rfl) rfl ?_
            refine TO.nil ?_
            refine TC.seq ?_
            refine TC.seq ?_
            refine TC.region (id := 8) ?_
            refine TO.w hn (.move _) rfl (guard0 rfl) (lop_move (agree hn) rfl) rfl ?_
            refine TO.w hn (.move _) rfl (guard0 rfl) (lop_move (agree hn) rfl) rfl ?_
            refine TO.w hn (.indexAddr _ _ _) rfl (guard0 rfl) (lop_ia1 (agree hn) rfl rfl rfl rfl (by omega) (by omega)) rfl ?_
            refine TO.w hn (.load _ _) rfl (guard0 rfl) (lop_load (agree hn) rfl (by assumption) rfl (by assumption)) rfl ?_
            refine TO.w hn (.binOp _ _ _ _ _) rfl (guard0 rfl) (lop_quoP (agree hn) rfl rfl (by omega) (by omega) rfl (by omega) (by omega)) rfl ?_
            refine TO.w hn (.binOp _ _ _ _ _) rfl (guard0 rfl) (lop_remP (agree hn) rfl rfl (by omega) (by omega)) rfl ?_
            refine TO.w hn (.binOp _ _ _ _ _) rfl (guard0 rfl) (lop_binT (agree hn) rfl rfl rfl (by exact decide_eq_true (by omega))) rfl ?_
            refine TO.nil ?_
            refine TC.condT (agree hn) rfl rfl ?_
            refine TC.seq ?_
            refine TC.region (id := 9) ?_
            refine TO.w hn (.move _) rfl (guard0 rfl) (lop_move (agree hn) rfl) rfl ?_
            refine TO.w hn (.move _) rfl (guard0 rfl) (lop_move (agree hn) rfl) rfl ?_
            (refine TO.wc hn (.call _) rfl (guard0 rfl) (lop_func (agree hn) rfl rfl rfl) rfl (k1 _) (fun v H2 hR => ?_); (obtain ⟨rfl, e2⟩ := hR; cases e2.symm))
            refine TO.w hn (.move _) rfl (guard0 rfl) (lop_move (agree hn) rfl) rfl ?_
            refine TO.w hn (.extract _ _) rfl (guard0 rfl) (lop_ex (agree hn) rfl rfl) rfl ?_
            refine TO.w hn (.extract _ _) rfl (guard0 rfl) (lop_ex (agree hn) rfl rfl) rfl ?_
            refine TO.w hn (.extract _ _) rfl (guard0 rfl) (lop_ex (agree hn) rfl rfl) rfl ?_
            refine TO.w hn (.extract _ _) rfl (guard0 rfl) (lop_ex (agree hn) rfl rfl) rfl ?_
            refine TO.w hn (.assign _) rfl (guard0 rfl) (lop_assign (agree hn) rfl) rfl ?_
            refine TO.w hn (.assign _) rfl (guard0 rfl) (lop_assign (agree hn) rfl) rfl ?_
            refine TO.w hn (.assign _) rfl (guard0 rfl) (lop_assign (agree hn) rfl) rfl ?_
            refine TO.w hn (.assign _) rfl (guard0 rfl) (lop_assign (agree hn) rfl) rfl ?_
            refine TO.nil ?_
            refine TC.seq ?_
            refine TC.seq ?_
            refine TC.region (id := 10) ?_
            refine TO.w hn (.move _) rfl (guard0 rfl) (lop_move (agree hn) rfl) rfl ?_
            refine TO.w hn (.binOp _ _ _ _ _) rfl (guard0 rfl) (lop_binF (agree hn) rfl rfl rfl (by exact bne_self_eq_false _)) rfl ?_
            refine TO.w hn (.move _) rfl (guard0 rfl) (lop_move (agree hn) rfl) rfl ?_
            refine TO.w hn (.move _) rfl (guardOn (agree hn) rfl rfl rfl rfl) (lop_move (agree hn) rfl) rfl ?_
            refine TO.w hn (.move _) rfl (guardOn (agree hn) rfl rfl rfl rfl) (lop_move (agree hn) rfl) rfl ?_
            refine TO.w hn (.binOp _ _ _ _ _) rfl (guardOn (agree hn) rfl rfl rfl rfl) (lop_neSF (agree hn) rfl rfl (by rfl)) rfl ?_
            refine TO.w hn (.move _) rfl (guardOn (agree hn) rfl rfl rfl rfl) (lop_move (agree hn) rfl) rfl ?_
            refine TO.woff hn (guardOff (agree hn) rfl rfl rfl rfl) rfl ?_
            refine TO.woff hn (guardOff (agree hn) rfl rfl rfl rfl) rfl ?_
            refine TO.woff hn (guardOff (agree hn) rfl rfl rfl rfl) rfl ?_
            refine TO.w hn (.pick _ _ _) rfl (guardOn (agree hn) rfl rfl rfl rfl) (lop_pickF (agree hn) rfl rfl rfl) rfl ?_
            refine TO.w hn (.binOp _ _ _ _ _) rfl (guardOn (agree hn) rfl rfl rfl rfl) (lop_neBB (agree hn) rfl rfl rfl (by with_reducible rfl)) rfl ?_
            refine TO.w hn (.pick _ _ _) rfl (guard0 rfl) (lop_pickF (agree hn) rfl rfl rfl) rfl ?_
            refine TO.w hn (.move _) rfl (guard0 rfl) (lop_move (agree hn) rfl) rfl ?_
            refine TO.w hn (.move _) rfl (guardOn (agree hn) rfl rfl rfl rfl) (lop_move (agree hn) rfl) rfl ?_
            refine TO.w hn (.move _) rfl (guardOn (agree hn) rfl rfl rfl rfl) (lop_move (agree hn) rfl) rfl ?_
            refine TO.w hn (.move _) rfl (guardOn (agree hn) rfl rfl rfl rfl) (lop_move (agree hn) rfl) rfl ?_
            refine TO.w hn (.binOp _ _ _ _ _) rfl (guardOn (agree hn) rfl rfl rfl rfl) (lop_eqSF (agree hn) rfl rfl (by assumption)) rfl ?_
            refine TO.w hn (.move _) rfl (guardOn (agree hn) rfl rfl rfl rfl) (lop_move (agree hn) rfl) rfl ?_
            refine TO.woff hn (guardOff (agree hn) rfl rfl rfl rfl) rfl ?_
            refine TO.w hn (.pick _ _ _) rfl (guardOn (agree hn) rfl rfl rfl rfl) (lop_pickF (agree hn) rfl rfl rfl) rfl ?_
            refine TO.w hn (.binOp _ _ _ _ _) rfl (guardOn (agree hn) rfl rfl rfl rfl) (lop_neBB (agree hn) rfl rfl rfl (by with_reducible rfl)) rfl ?_
            refine TO.w hn (.pick _ _ _) rfl (guard0 rfl) (lop_pickF (agree hn) rfl rfl rfl) rfl ?_
            refine TO.nil ?_
            refine TC.condF (agree hn) rfl rfl ?_
            refine TC.skip ?_
            refine TC.seq ?_
            refine TC.region (id := 12) ?_
            refine TO.w hn (.move _) rfl (guard0 rfl) (lop_move (agree hn) rfl) rfl ?_
            refine TO.w hn (.assign _) rfl (guard0 rfl) (lop_assign (agree hn) rfl) rfl ?_
            refine TO.nil ?_
            refine TC.seq ?_
            refine TC.region (id := 13) ?_
            refine TO.w hn (.move _) rfl (guard0 rfl) (lop_move (agree hn) rfl) rfl ?_
            refine TO.w hn (.assign _) rfl (guard0 rfl) (lop_assign (agree hn) rfl) rfl ?_
            refine TO.nil ?_
            refine TC.seq ?_
            refine TC.region (id := 14) ?_
            refine TO.w hn (.move _) rfl (guard0 rfl) (lop_move (agree hn) rfl) rfl ?_
            refine TO.w hn (.assign _) rfl (guard0 rfl) (lop_assign (agree hn) rfl) rfl ?_
            refine TO.nil ?_
            refine TC.exit ?_
            refine TC.region (id := 6) ?_
            refine TO.w hn (.move _) rfl (guard0 rfl) (lop_move (agree hn) rfl) rfl ?_
            refine TO.w hn (.binOp _ _ _ _ _) rfl (guard0 rfl) (lop_binI (agree hn) rfl rfl rfl rfl (by omega) (by omega)) rfl ?_
            refine TO.w hn (.assign _) rfl (guard0 rfl) (lop_assign (agree hn) rfl) rfl ?_
            refine TO.nil ?_
            exact ⟨m - 1, by omega, i + 1, cellL a false, a, false, by omega, .inr ⟨hr, rfl⟩, (mkF_length _ _).trans hn, Facts.of (agree hn) ⟨rfl, rfl, rfl, rfl, rfl, trivial⟩, rfl⟩
          · have hlne : l ≠ [] := (rightS_true hrl).1
            have hcl : (cellL l g).length ≤ 4611686018427387904 := by rw [cellL_length]; have := (rightS_true hrl).2; omega
            by_cases he : l = a
            · subst he
              have k1 := fun (H : Hp) => CF.co noOwn rfl rfl (look_CF (H := H) (c := cellL l g) (a := l) hcl)
              rw [lookE2 hr] at k1
              refine TC.seq ?_
              refine TC.seq ?_
              refine TC.region (id := 5) ?_
              refine TO.w hn (.move _) rfl (guard0 rfl) (lop_move (agree hn) rfl) rfl ?_
              refine TO.w hn (.move _) rfl (guard0 rfl) (lop_move (agree hn) rfl) rfl ?_
              refine TO.w hn (.call _) rfl (guard0 rfl) (lop_built (agree hn) rfl rfl (lbuiltin_lenL rfl)) rfl ?_
              refine TO.w hn (.binOp _ _ _ _ _) rfl (guard0 rfl) (lop_binT (agree hn) rfl rfl rfl (by exact decide_eq_true (by omega))) rfl ?_
              refine TO.w hn (.move _) rfl (guard0 rfl) (lop_move (agree hn) rfl) rfl ?_
              refine TO.w hn (.move _) rfl (guardOn (agree hn) rfl rfl rfl rfl) (lop_move (agree hn) rfl) rfl ?_
              refine TO.w hn (.binOp _ _ _ _ _) rfl (guardOn (agree hn) rfl rfl rfl rfl) (lop_binT (agree hn) rfl rfl rfl (by exact decide_eq_true (by omega))) rfl ?_
              refine TO.w hn (.pick _ _ _) rfl (guard0 rfl) (lop_pickT (agree hn) rfl rfl rfl) rfl ?_
              refine TO.nil ?_
              refine TC.condT (agree hn) rfl rfl ?_
              refine TC.skip ?_
              refine TC.seq ?_
              refine TC.block ?_
              refine TC.seq ?_
              refine TC.region (id := 7) ?_
              refine TO.w hn (.move _) rfl (guard0 rfl) (lop_move (agree hn) rfl) rfl ?_
              refine TO.w hn (.move _) rfl (guard0 rfl) (lop_move (agree hn) rfl) rfl ?_
              refine TO.w hn (.indexAddr _ _ _) rfl (guard0 rfl) (lop_ia1 (agree hn) rfl rfl rfl rfl (by omega) (by omega)) rfl ?_
              refine TO.w hn (.load _ _) rfl (guard0 rfl) (lop_load (agree hn) rfl (by assumption) rfl (by assumption)) rfl ?_
              (refine TO.wc hn (.call _) rfl (guard0 rfl) (lop_func (agree hn) rfl rfl rfl) rfl (hnm _) (fun v H2 hR => ?_); (obtain ⟨rfl, e2⟩ := hR; cases e2.symm))
              refine TO.w hn (.assign _) rfl (guard0 rfl) (lop_assign (agree hn) rfl) rfl ?_
              refine TO.nil ?_
              refine TC.seq ?_
              refine TC.seq ?_
              refine TC.region (id := 8) ?_
              refine TO.w hn (.move _) rfl (guard0 rfl) (lop_move (agree hn) rfl) rfl ?_
              refine TO.w hn (.move _) rfl (guard0 rfl) (lop_move (agree hn) rfl) rfl ?_
              refine TO.w hn (.indexAddr _ _ _) rfl (guard0 rfl) (lop_ia1 (agree hn) rfl rfl rfl rfl (by omega) (by omega)) rfl ?_
              refine TO.w hn (.load _ _) rfl (guard0 rfl) (lop_load (agree hn) rfl (by assumption) rfl (by assumption)) rfl ?_
              refine TO.w hn (.binOp _ _ _ _ _) rfl (guard0 rfl) (lop_quoP (agree hn) rfl rfl (by omega) (by omega) rfl (by omega) (by omega)) rfl ?_
              refine TO.w hn (.binOp _ _ _ _ _) rfl (guard0 rfl) (lop_remP (agree hn) rfl rfl (by omega) (by omega)) rfl ?_
              refine TO.w hn (.binOp _ _ _ _ _) rfl (guard0 rfl) (lop_binT (agree hn) rfl rfl rfl (by exact decide_eq_true (by omega))) rfl ?_
              refine TO.nil ?_
              refine TC.condT (agree hn) rfl rfl ?_
              refine TC.seq ?_
              refine TC.region (id := 9) ?_
              refine TO.w hn (.move _) rfl (guard0 rfl) (lop_move (agree hn) rfl) rfl ?_
              refine TO.w hn (.move _) rfl (guard0 rfl) (lop_move (agree hn) rfl) rfl ?_
              (refine TO.wc hn (.call _) rfl (guard0 rfl) (lop_func (agree hn) rfl rfl rfl) rfl (k1 _) (fun v H2 hR => ?_); (obtain ⟨rfl, e2⟩ := hR; cases e2.symm))
              refine TO.w hn (.move _) rfl (guard0 rfl) (lop_move (agree hn) rfl) rfl ?_
              refine TO.w hn (.extract _ _) rfl (guard0 rfl) (lop_ex (agree hn) rfl rfl) rfl ?_
              refine TO.w hn (.extract _ _) rfl (guard0 rfl) (lop_ex (agree hn) rfl rfl) rfl ?_
              refine TO.w hn (.extract _ _) rfl (guard0 rfl) (lop_ex (agree hn) rfl rfl) rfl ?_
              refine TO.w hn (.extract _ _) rfl (guard0 rfl) (lop_ex (agree hn) rfl rfl) rfl ?_
              refine TO.w hn (.assign _) rfl (guard0 rfl) (lop_assign (agree hn) rfl) rfl ?_
              refine TO.w hn (.assign _) rfl (guard0 rfl) (lop_assign (agree hn) rfl) rfl ?_
              refine TO.w hn (.assign _) rfl (guard0 rfl) (lop_assign (agree hn) rfl) rfl ?_
              refine TO.w hn (.assign _) rfl (guard0 rfl) (lop_assign (agree hn) rfl) rfl ?_
              refine TO.nil ?_
              refine TC.seq ?_
              refine TC.seq ?_
              refine TC.region (id := 10) ?_
              refine TO.w hn (.move _) rfl (guard0 rfl) (lop_move (agree hn) rfl) rfl ?_
              refine TO.w hn (.binOp _ _ _ _ _) rfl (guard0 rfl) (lop_binF (agree hn) rfl rfl rfl (by exact bne_self_eq_false _)) rfl ?_
              refine TO.w hn (.move _) rfl (guard0 rfl) (lop_move (agree hn) rfl) rfl ?_
              refine TO.w hn (.move _) rfl (guardOn (agree hn) rfl rfl rfl rfl) (lop_move (agree hn) rfl) rfl ?_
              refine TO.w hn (.move _) rfl (guardOn (agree hn) rfl rfl rfl rfl) (lop_move (agree hn) rfl) rfl ?_
              refine TO.w hn (.binOp _ _ _ _ _) rfl (guardOn (agree hn) rfl rfl rfl rfl) (lop_neST (agree hn) rfl rfl (by assumption)) rfl ?_
              refine TO.w hn (.move _) rfl (guardOn (agree hn) rfl rfl rfl rfl) (lop_move (agree hn) rfl) rfl ?_
              refine TO.w hn (.move _) rfl (guardOn (agree hn) rfl rfl rfl rfl) (lop_move (agree hn) rfl) rfl ?_
              refine TO.w hn (.move _) rfl (guardOn (agree hn) rfl rfl rfl rfl) (lop_move (agree hn) rfl) rfl ?_
              refine TO.w hn (.binOp _ _ _ _ _) rfl (guardOn (agree hn) rfl rfl rfl rfl) (lop_neSF (agree hn) rfl rfl (by rfl)) rfl ?_
              refine TO.w hn (.pick _ _ _) rfl (guardOn (agree hn) rfl rfl rfl rfl) (lop_pickT (agree hn) rfl rfl rfl) rfl ?_
              refine TO.w hn (.binOp _ _ _ _ _) rfl (guardOn (agree hn) rfl rfl rfl rfl) (lop_neBB (agree hn) rfl rfl rfl (by with_reducible rfl)) rfl ?_
              refine TO.w hn (.pick _ _ _) rfl (guard0 rfl) (lop_pickF (agree hn) rfl rfl rfl) rfl ?_
              refine TO.w hn (.move _) rfl (guard0 rfl) (lop_move (agree hn) rfl) rfl ?_
              refine TO.w hn (.move _) rfl (guardOn (agree hn) rfl rfl rfl rfl) (lop_move (agree hn) rfl) rfl ?_
              refine TO.w hn (.move _) rfl (guardOn (agree hn) rfl rfl rfl rfl) (lop_move (agree hn) rfl) rfl ?_
              refine TO.w hn (.move _) rfl (guardOn (agree hn) rfl rfl rfl rfl) (lop_move (agree hn) rfl) rfl ?_
              refine TO.w hn (.binOp _ _ _ _ _) rfl (guardOn (agree hn) rfl rfl rfl rfl) (lop_eqST (agree hn) rfl rfl (by rfl)) rfl ?_
              refine TO.w hn (.move _) rfl (guardOn (agree hn) rfl rfl rfl rfl) (lop_move (agree hn) rfl) rfl ?_
              refine TO.w hn (.move _) rfl (guardOn (agree hn) rfl rfl rfl rfl) (lop_move (agree hn) rfl) rfl ?_
              refine TO.w hn (.pick _ _ _) rfl (guardOn (agree hn) rfl rfl rfl rfl) (lop_pickT (agree hn) rfl rfl rfl) rfl ?_
              refine TO.w hn (.binOp _ _ _ _ _) rfl (guardOn (agree hn) rfl rfl rfl rfl) (lop_neBB (agree hn) rfl rfl rfl (by with_reducible rfl)) rfl ?_
              refine TO.w hn (.pick _ _ _) rfl (guard0 rfl) (lop_pickF (agree hn) rfl rfl rfl) rfl ?_
              refine TO.nil ?_
              refine TC.condF (agree hn) rfl rfl ?_
              refine TC.skip ?_
              refine TC.seq ?_
              refine TC.region (id := 12) ?_
              refine TO.w hn (.move _) rfl (guard0 rfl) (lop_move (agree hn) rfl) rfl ?_
              refine TO.w hn (.assign _) rfl (guard0 rfl) (lop_assign (agree hn) rfl) rfl ?_
              refine TO.nil ?_
              refine TC.seq ?_
              refine TC.region (id := 13) ?_
              refine TO.w hn (.move _) rfl (guard0 rfl) (lop_move (agree hn) rfl) rfl ?_
              refine TO.w hn (.assign _) rfl (guard0 rfl) (lop_assign (agree hn) rfl) rfl ?_
              refine TO.nil ?_
              refine TC.seq ?_
              refine TC.region (id := 14) ?_
              refine TO.w hn (.move _) rfl (guard0 rfl) (lop_move (agree hn) rfl) rfl ?_
              refine TO.w hn (.assign _) rfl (guard0 rfl) (lop_assign (agree hn) rfl) rfl ?_
              refine TO.nil ?_
              refine TC.exit ?_
              refine TC.region (id := 6) ?_
              refine TO.w hn (.move _) rfl (guard0 rfl) (lop_move (agree hn) rfl) rfl ?_
              refine TO.w hn (.binOp _ _ _ _ _) rfl (guard0 rfl) (lop_binI (agree hn) rfl rfl rfl rfl (by omega) (by omega)) rfl ?_
              refine TO.w hn (.assign _) rfl (guard0 rfl) (lop_assign (agree hn) rfl) rfl ?_
              refine TO.nil ?_
              exact ⟨m - 1, by omega, i + 1, cellL l g, l, g, by omega, .inr ⟨hr, rfl⟩, (mkF_length _ _).trans hn, Facts.of (agree hn) ⟨rfl, rfl, rfl, rfl, rfl, trivial⟩, rfl⟩
            · have k1 := fun (H : Hp) => CF.co noOwn rfl rfl (look_CF (H := H) (c := cellL l g) (a := a) hcl)
              rw [lookE3 hr hrl he] at k1
              refine TC.seq ?_
              refine TC.seq ?_
              refine TC.region (id := 5) ?_
              refine TO.w hn (.move _) rfl (guard0 rfl) (lop_move (agree hn) rfl) rfl ?_
              refine TO.w hn (.move _) rfl (guard0 rfl) (lop_move (agree hn) rfl) rfl ?_
              refine TO.w hn (.call _) rfl (guard0 rfl) (lop_built (agree hn) rfl rfl (lbuiltin_lenL rfl)) rfl ?_
              refine TO.w hn (.binOp _ _ _ _ _) rfl (guard0 rfl) (lop_binT (agree hn) rfl rfl rfl (by exact decide_eq_true (by omega))) rfl ?_
              refine TO.w hn (.move _) rfl (guard0 rfl) (lop_move (agree hn) rfl) rfl ?_
              refine TO.w hn (.move _) rfl (guardOn (agree hn) rfl rfl rfl rfl) (lop_move (agree hn) rfl) rfl ?_
              refine TO.w hn (.binOp _ _ _ _ _) rfl (guardOn (agree hn) rfl rfl rfl rfl) (lop_binT (agree hn) rfl rfl rfl (by exact decide_eq_true (by omega))) rfl ?_
              refine TO.w hn (.pick _ _ _) rfl (guard0 rfl) (lop_pickT (agree hn) rfl rfl rfl) rfl ?_
              refine TO.nil ?_
              refine TC.condT (agree hn) rfl rfl ?_
              refine TC.skip ?_
              refine TC.seq ?_
              refine TC.block ?_
              refine TC.seq ?_
              refine TC.region (id := 7) ?_
              refine TO.w hn (.move _) rfl (guard0 rfl) (lop_move (agree hn) rfl) rfl ?_
              refine TO.w hn (.move _) rfl (guard0 rfl) (lop_move (agree hn) rfl) rfl ?_
              refine TO.w hn (.indexAddr _ _ _) rfl (guard0 rfl) (lop_ia1 (agree hn) rfl rfl rfl rfl (by omega) (by omega)) rfl ?_
              refine TO.w hn (.load _ _) rfl (guard0 rfl) (lop_load (agree hn) rfl (by assumption) rfl (by assumption)) rfl ?_
              (refine TO.wc hn (.call _) rfl (guard0 rfl) (lop_func (agree hn) rfl rfl rfl) rfl (hnm _) (fun v H2 hR => ?_); (obtain ⟨rfl, e2⟩ := hR; cases e2.symm))
              refine TO.w hn (.assign _) rfl (guard0 rfl) (lop_assign (agree hn) rfl) rfl ?_
              refine TO.nil ?_
              refine TC.seq ?_
              refine TC.seq ?_
              refine TC.region (id := 8) ?_
              refine TO.w hn (.move _) rfl (guard0 rfl) (lop_move (agree hn) rfl) rfl ?_
              refine TO.w hn (.move _) rfl (guard0 rfl) (lop_move (agree hn) rfl) rfl ?_
              refine TO.w hn (.indexAddr _ _ _) rfl (guard0 rfl) (lop_ia1 (agree hn) rfl rfl rfl rfl (by omega) (by omega)) rfl ?_
              refine TO.w hn (.load _ _) rfl (guard0 rfl) (lop_load (agree hn) rfl (by assumption) rfl (by assumption)) rfl ?_
              refine TO.w hn (.binOp _ _ _ _ _) rfl (guard0 rfl) (lop_quoP (agree hn) rfl rfl (by omega) (by omega) rfl (by omega) (by omega)) rfl ?_
              refine TO.w hn (.binOp _ _ _ _ _) rfl (guard0 rfl) (lop_remP (agree hn) rfl rfl (by omega) (by omega)) rfl ?_
              refine TO.w hn (.binOp _ _ _ _ _) rfl (guard0 rfl) (lop_binT (agree hn) rfl rfl rfl (by exact decide_eq_true (by omega))) rfl ?_
              refine TO.nil ?_
              refine TC.condT (agree hn) rfl rfl ?_
              refine TC.seq ?_
              refine TC.region (id := 9) ?_
              refine TO.w hn (.move _) rfl (guard0 rfl) (lop_move (agree hn) rfl) rfl ?_
              refine TO.w hn (.move _) rfl (guard0 rfl) (lop_move (agree hn) rfl) rfl ?_
              (refine TO.wc hn (.call _) rfl (guard0 rfl) (lop_func (agree hn) rfl rfl rfl) rfl (k1 _) (fun v H2 hR => ?_); (obtain ⟨rfl, e2⟩ := hR; cases e2.symm))
              refine TO.w hn (.move _) rfl (guard0 rfl) (lop_move (agree hn) rfl) rfl ?_
              refine TO.w hn (.extract _ _) rfl (guard0 rfl) (lop_ex (agree hn) rfl rfl) rfl ?_
              refine TO.w hn (.extract _ _) rfl (guard0 rfl) (lop_ex (agree hn) rfl rfl) rfl ?_
              refine TO.w hn (.extract _ _) rfl (guard0 rfl) (lop_ex (agree hn) rfl rfl) rfl ?_
              refine TO.w hn (.extract _ _) rfl (guard0 rfl) (lop_ex (agree hn) rfl rfl) rfl ?_
              refine TO.w hn (.assign _) rfl (guard0 rfl) (lop_assign (agree hn) rfl) rfl ?_
              refine TO.w hn (.assign _) rfl (guard0 rfl) (lop_assign (agree hn) rfl) rfl ?_
              refine TO.w hn (.assign _) rfl (guard0 rfl) (lop_assign (agree hn) rfl) rfl ?_
              refine TO.w hn (.assign _) rfl (guard0 rfl) (lop_assign (agree hn) rfl) rfl ?_
              refine TO.nil ?_
              refine TC.seq ?_
              refine TC.seq ?_
              refine TC.region (id := 10) ?_
              refine TO.w hn (.move _) rfl (guard0 rfl) (lop_move (agree hn) rfl) rfl ?_
              refine TO.w hn (.binOp _ _ _ _ _) rfl (guard0 rfl) (lop_binF (agree hn) rfl rfl rfl (by exact bne_self_eq_false _)) rfl ?_
              refine TO.w hn (.move _) rfl (guard0 rfl) (lop_move (agree hn) rfl) rfl ?_
              refine TO.w hn (.move _) rfl (guardOn (agree hn) rfl rfl rfl rfl) (lop_move (agree hn) rfl) rfl ?_
              refine TO.w hn (.move _) rfl (guardOn (agree hn) rfl rfl rfl rfl) (lop_move (agree hn) rfl) rfl ?_
              refine TO.w hn (.binOp _ _ _ _ _) rfl (guardOn (agree hn) rfl rfl rfl rfl) (lop_neST (agree hn) rfl rfl (by assumption)) rfl ?_
              refine TO.w hn (.move _) rfl (guardOn (agree hn) rfl rfl rfl rfl) (lop_move (agree hn) rfl) rfl ?_
              refine TO.w hn (.move _) rfl (guardOn (agree hn) rfl rfl rfl rfl) (lop_move (agree hn) rfl) rfl ?_
              refine TO.w hn (.move _) rfl (guardOn (agree hn) rfl rfl rfl rfl) (lop_move (agree hn) rfl) rfl ?_
              refine TO.w hn (.binOp _ _ _ _ _) rfl (guardOn (agree hn) rfl rfl rfl rfl) (lop_neST (agree hn) rfl rfl (by assumption)) rfl ?_
              refine TO.w hn (.pick _ _ _) rfl (guardOn (agree hn) rfl rfl rfl rfl) (lop_pickT (agree hn) rfl rfl rfl) rfl ?_
              refine TO.w hn (.binOp _ _ _ _ _) rfl (guardOn (agree hn) rfl rfl rfl rfl) (lop_neBB (agree hn) rfl rfl rfl (by with_reducible rfl)) rfl ?_
              refine TO.w hn (.pick _ _ _) rfl (guard0 rfl) (lop_pickF (agree hn) rfl rfl rfl) rfl ?_
              refine TO.w hn (.move _) rfl (guard0 rfl) (lop_move (agree hn) rfl) rfl ?_
              refine TO.w hn (.move _) rfl (guardOn (agree hn) rfl rfl rfl rfl) (lop_move (agree hn) rfl) rfl ?_
              refine TO.w hn (.move _) rfl (guardOn (agree hn) rfl rfl rfl rfl) (lop_move (agree hn) rfl) rfl ?_
              refine TO.w hn (.move _) rfl (guardOn (agree hn) rfl rfl rfl rfl) (lop_move (agree hn) rfl) rfl ?_
              refine TO.w hn (.binOp _ _ _ _ _) rfl (guardOn (agree hn) rfl rfl rfl rfl) (lop_eqSF (agree hn) rfl rfl (by assumption)) rfl ?_
              refine TO.w hn (.move _) rfl (guardOn (agree hn) rfl rfl rfl rfl) (lop_move (agree hn) rfl) rfl ?_
              refine TO.woff hn (guardOff (agree hn) rfl rfl rfl rfl) rfl ?_
              refine TO.w hn (.pick _ _ _) rfl (guardOn (agree hn) rfl rfl rfl rfl) (lop_pickF (agree hn) rfl rfl rfl) rfl ?_
              refine TO.w hn (.binOp _ _ _ _ _) rfl (guardOn (agree hn) rfl rfl rfl rfl) (lop_neBB (agree hn) rfl rfl rfl (by with_reducible rfl)) rfl ?_
              refine TO.w hn (.pick _ _ _) rfl (guard0 rfl) (lop_pickF (agree hn) rfl rfl rfl) rfl ?_
              refine TO.nil ?_
              refine TC.condF (agree hn) rfl rfl ?_
              refine TC.skip ?_
              refine TC.seq ?_
              refine TC.region (id := 12) ?_
              refine TO.w hn (.move _) rfl (guard0 rfl) (lop_move (agree hn) rfl) rfl ?_
              refine TO.w hn (.assign _) rfl (guard0 rfl) (lop_assign (agree hn) rfl) rfl ?_
              refine TO.nil ?_
              refine TC.seq ?_
              refine TC.region (id := 13) ?_
              refine TO.w hn (.move _) rfl (guard0 rfl) (lop_move (agree hn) rfl) rfl ?_
              refine TO.w hn (.assign _) rfl (guard0 rfl) (lop_assign (agree hn) rfl) rfl ?_
              refine TO.nil ?_
              refine TC.seq ?_
              refine TC.region (id := 14) ?_
              refine TO.w hn (.move _) rfl (guard0 rfl) (lop_move (agree hn) rfl) rfl ?_
              refine TO.w hn (.assign _) rfl (guard0 rfl) (lop_assign (agree hn) rfl) rfl ?_
              refine TO.nil ?_
              refine TC.exit ?_
              refine TC.region (id := 6) ?_
              refine TO.w hn (.move _) rfl (guard0 rfl) (lop_move (agree hn) rfl) rfl ?_
              refine TO.w hn (.binOp _ _ _ _ _) rfl (guard0 rfl) (lop_binI (agree hn) rfl rfl rfl rfl (by omega) (by omega)) rfl ?_
              refine TO.w hn (.assign _) rfl (guard0 rfl) (lop_assign (agree hn) rfl) rfl ?_
              refine TO.nil ?_
              exact ⟨m - 1, by omega, i + 1, cellL a false, a, false, by omega, .inr ⟨hr, rfl⟩, (mkF_length _ _).trans hn, Facts.of (agree hn) ⟨rfl, rfl, rfl, rfl, rfl, trivial⟩, rfl⟩
        · rcases hh with ⟨rfl, rfl, rfl⟩ | ⟨hrl, rfl⟩
          · have k1 := fun (H : Hp) => CF.co noOwn rfl rfl (trust_CF (H := H) (c := []) (a := a) (by simp))
            rw [trustE1 hr] at k1
            refine TC.seq ?_
            refine TC.seq ?_
            refine TC.region (id := 5) ?_
            refine TO.w hn (.move _) rfl (guard0 rfl) (lop_move (agree hn) rfl) rfl ?_
            refine TO.w hn (.move _) rfl (guard0 rfl) (lop_move (agree hn) rfl) rfl ?_
            refine TO.w hn (.call _) rfl (guard0 rfl) (lop_built (agree hn) rfl rfl (lbuiltin_lenL rfl)) rfl ?_
            refine TO.w hn (.binOp _ _ _ _ _) rfl (guard0 rfl) (lop_binT (agree hn) rfl rfl rfl (by exact decide_eq_true (by omega))) rfl ?_
            refine TO.w hn (.move _) rfl (guard0 rfl) (lop_move (agree hn) rfl) rfl ?_
            refine TO.w hn (.move _) rfl (guardOn (agree hn) rfl rfl rfl rfl) (lop_move (agree hn) rfl) rfl ?_
            refine TO.w hn (.binOp _ _ _ _ _) rfl (guardOn (agree hn) rfl rfl rfl rfl) (lop_binT (agree hn) rfl rfl rfl (by exact decide_eq_true (by omega))) rfl ?_
            refine TO.w hn (.pick _ _ _) rfl (guard0 rfl) (lop_pickT (agree hn) rfl rfl rfl) rfl ?_
            refine TO.nil ?_
            refine TC.condT (agree hn) rfl rfl ?_
            refine TC.skip ?_
            refine TC.seq ?_
            refine TC.block ?_
            refine TC.seq ?_
            refine TC.region (id := 7) ?_
            refine TO.w hn (.move _) rfl (guard0 rfl) (lop_move (agree hn) rfl) rfl ?_
            refine TO.w hn (.move _) rfl (guard0 rfl) (lop_move (agree hn) rfl) rfl ?_
            refine TO.w hn (.indexAddr _ _ _) rfl (guard0 rfl) (lop_ia1 (agree hn) rfl rfl rfl rfl (by omega) (by omega)) rfl ?_
            refine TO.w hn (.load _ _) rfl (guard0 rfl) (lop_load (agree hn) rfl (by assumption) rfl (by assumption)) rfl ?_
            (refine TO.wc hn (.call _) rfl (guard0 rfl) (lop_func (agree hn) rfl rfl rfl) rfl (hnm _) (fun v H2 hR => ?_); (obtain ⟨rfl, e2⟩ := hR; cases e2.symm))
            refine TO.w hn (.assign _) rfl (guard0 rfl) (lop_assign (agree hn) rfl) rfl ?_
            refine TO.nil ?_
            refine TC.seq ?_
            refine TC.seq ?_
            refine TC.region (id := 8) ?_
            refine TO.w hn (.move _) rfl (guard0 rfl) (lop_move (agree hn) rfl) rfl ?_
            refine TO.w hn (.move _) rfl (guard0 rfl) (lop_move (agree hn) rfl) rfl ?_
            refine TO.w hn (.indexAddr _ _ _) rfl (guard0 rfl) (lop_ia1 (agree hn) rfl rfl rfl rfl (by omega) (by omega)) rfl ?_
            refine TO.w hn (.load _ _) rfl (guard0 rfl) (lop_load (agree hn) rfl (by assumption) rfl (by assumption)) rfl ?_
            refine TO.w hn (.binOp _ _ _ _ _) rfl (guard0 rfl) (lop_quoP (agree hn) rfl rfl (by omega) (by omega) rfl (by omega) (by omega)) rfl ?_
            refine TO.w hn (.binOp _ _ _ _ _) rfl (guard0 rfl) (lop_remP (agree hn) rfl rfl (by omega) (by omega)) rfl ?_
            refine TO.w hn (.binOp _ _ _ _ _) rfl (guard0 rfl) (lop_binF (agree hn) rfl rfl rfl (by exact decide_eq_false (by omega))) rfl ?_
            refine TO.nil ?_
            refine TC.condF (agree hn) rfl rfl ?_
            refine TC.skip ?_
            refine TC.seq ?_
            refine TC.region (id := 15) ?_
            refine TO.w hn (.move _) rfl (guard0 rfl) (lop_move (agree hn) rfl) rfl ?_
            refine TO.w hn (.move _) rfl (guard0 rfl) (lop_move (agree hn) rfl) rfl ?_
            (refine TO.wc hn (.call _) rfl (guard0 rfl) (lop_func (agree hn) rfl rfl rfl) rfl (k1 _) (fun v H2 hR => ?_); (obtain ⟨rfl, e2⟩ := hR; cases e2.symm))
            refine TO.w hn (.move _) rfl (guard0 rfl) (lop_move (agree hn) rfl) rfl ?_
            refine TO.w hn (.extract _ _) rfl (guard0 rfl) (lop_ex (agree hn) rfl rfl) rfl ?_
            refine TO.w hn (.extract _ _) rfl (guard0 rfl) (lop_ex (agree hn) rfl rfl) rfl ?_
            refine TO.w hn (.assign _) rfl (guard0 rfl) (lop_assign (agree hn) rfl) rfl ?_
            refine TO.w hn (.assign _) rfl (guard0 rfl) (lop_assign (agree hn) rfl) rfl ?_
            refine TO.nil ?_
            refine TC.seq ?_
            refine TC.region (id := 16) ?_
            refine TO.w hn (.assign _) rfl (guard0 rfl) (lop_assign (agree hn) rfl) rfl ?_
            refine TO.nil ?_
            refine TC.seq ?_
            refine TC.seq ?_
            refine TC.region (id := 17) ?_
            refine TO.w hn (.move _) rfl (guard0 rfl) (lop_move (agree hn) rfl) rfl ?_
            refine TO.w hn (.binOp _ _ _ _ _) rfl (guard0 rfl) (lop_eqST (agree hn) rfl rfl (by rfl)) rfl ?_
            refine TO.nil ?_
            refine TC.condT (agree hn) rfl rfl ?_
            refine TC.region (id := 18) ?_
            refine TO.w hn (.assign _) rfl (guard0 rfl) (lop_assign (agree hn) rfl) rfl ?_
            refine TO.nil ?_
            refine TC.seq ?_
            refine TC.seq ?_
            refine TC.region (id := 21) ?_
            refine TO.w hn (.move _) rfl (guard0 rfl) (lop_move (agree hn) rfl) rfl ?_
            refine TO.w hn (.move _) rfl (guard0 rfl) (lop_move (agree hn) rfl) rfl ?_
            refine TO.w hn (.binOp _ _ _ _ _) rfl (guard0 rfl) (lop_binF (agree hn) rfl rfl rfl (by exact bne_self_eq_false _)) rfl ?_
            refine TO.nil ?_
            refine TC.condF (agree hn) rfl rfl ?_
            refine TC.skip ?_
            refine TC.seq ?_
            refine TC.region (id := 23) ?_
            refine TO.w hn (.move _) rfl (guard0 rfl) (lop_move (agree hn) rfl) rfl ?_
            refine TO.w hn (.binOp _ _ _ _ _) rfl (guard0 rfl) (lop_binF (agree hn) rfl rfl rfl (by exact decide_eq_false (by omega))) rfl ?_
            refine TO.nil ?_
            refine TC.condF (agree hn) rfl rfl ?_
            refine TC.skip ?_
            refine TC.region (id := 6) ?_
            refine TO.w hn (.move _) rfl (guard0 rfl) (lop_move (agree hn) rfl) rfl ?_
            refine TO.w hn (.binOp _ _ _ _ _) rfl (guard0 rfl) (lop_binI (agree hn) rfl rfl rfl rfl (by omega) (by omega)) rfl ?_
            refine TO.w hn (.assign _) rfl (guard0 rfl) (lop_assign (agree hn) rfl) rfl ?_
            refine TO.nil ?_
            exact ⟨m - 1, by omega, i + 1, [], [], false, by omega, .inl ⟨rfl, rfl, rfl⟩, (mkF_length _ _).trans hn, Facts.of (agree hn) ⟨rfl, rfl, rfl, rfl, rfl, trivial⟩, rfl⟩
          · have hlne : l ≠ [] := (rightS_true hrl).1
            have hcl : (cellL l g).length ≤ 4611686018427387904 := by rw [cellL_length]; have := (rightS_true hrl).2; omega
            by_cases he : l = a
            · subst he
              have k1 := fun (H : Hp) => CF.co noOwn rfl rfl (trust_CF (H := H) (c := cellL l g) (a := l) hcl)
              rw [trustE2 hr] at k1
              refine TC.seq ?_
              refine TC.seq ?_
              refine TC.region (id := 5) ?_
              refine TO.w hn (.move _) rfl (guard0 rfl) (lop_move (agree hn) rfl) rfl ?_
              refine TO.w hn (.move _) rfl (guard0 rfl) (lop_move (agree hn) rfl) rfl ?_
              refine TO.w hn (.call _) rfl (guard0 rfl) (lop_built (agree hn) rfl rfl (lbuiltin_lenL rfl)) rfl ?_
              refine TO.w hn (.binOp _ _ _ _ _) rfl (guard0 rfl) (lop_binT (agree hn) rfl rfl rfl (by exact decide_eq_true (by omega))) rfl ?_
              refine TO.w hn (.move _) rfl (guard0 rfl) (lop_move (agree hn) rfl) rfl ?_
              refine TO.w hn (.move _) rfl (guardOn (agree hn) rfl rfl rfl rfl) (lop_move (agree hn) rfl) rfl ?_
              refine TO.w hn (.binOp _ _ _ _ _) rfl (guardOn (agree hn) rfl rfl rfl rfl) (lop_binT (agree hn) rfl rfl rfl (by exact decide_eq_true (by omega))) rfl ?_
              refine TO.w hn (.pick _ _ _) rfl (guard0 rfl) (lop_pickT (agree hn) rfl rfl rfl) rfl ?_
              refine TO.nil ?_
              refine TC.condT (agree hn) rfl rfl ?_
              refine TC.skip ?_
              refine TC.seq ?_
              refine TC.block ?_
              refine TC.seq ?_
              refine TC.region (id := 7) ?_
              refine TO.w hn (.move _) rfl (guard0 rfl) (lop_move (agree hn) rfl) rfl ?_
              refine TO.w hn (.move _) rfl (guard0 rfl) (lop_move (agree hn) rfl) rfl ?_
              refine TO.w hn (.indexAddr _ _ _) rfl (guard0 rfl) (lop_ia1 (agree hn) rfl rfl rfl rfl (by omega) (by omega)) rfl ?_
              refine TO.w hn (.load _ _) rfl (guard0 rfl) (lop_load (agree hn) rfl (by assumption) rfl (by assumption)) rfl ?_
              (refine TO.wc hn (.call _) rfl (guard0 rfl) (lop_func (agree hn) rfl rfl rfl) rfl (hnm _) (fun v H2 hR => ?_); (obtain ⟨rfl, e2⟩ := hR; cases e2.symm))
              refine TO.w hn (.assign _) rfl (guard0 rfl) (lop_assign (agree hn) rfl) rfl ?_
              refine TO.nil ?_
              refine TC.seq ?_
              refine TC.seq ?_
              refine TC.region (id := 8) ?_
              refine TO.w hn (.move _) rfl (guard0 rfl) (lop_move (agree hn) rfl) rfl ?_
              refine TO.w hn (.move _) rfl (guard0 rfl) (lop_move (agree hn) rfl) rfl ?_
              refine TO.w hn (.indexAddr _ _ _) rfl (guard0 rfl) (lop_ia1 (agree hn) rfl rfl rfl rfl (by omega) (by omega)) rfl ?_
              refine TO.w hn (.load _ _) rfl (guard0 rfl) (lop_load (agree hn) rfl (by assumption) rfl (by assumption)) rfl ?_
              refine TO.w hn (.binOp _ _ _ _ _) rfl (guard0 rfl) (lop_quoP (agree hn) rfl rfl (by omega) (by omega) rfl (by omega) (by omega)) rfl ?_
              refine TO.w hn (.binOp _ _ _ _ _) rfl (guard0 rfl) (lop_remP (agree hn) rfl rfl (by omega) (by omega)) rfl ?_
              refine TO.w hn (.binOp _ _ _ _ _) rfl (guard0 rfl) (lop_binF (agree hn) rfl rfl rfl (by exact decide_eq_false (by omega))) rfl ?_
              refine TO.nil ?_
              refine TC.condF (agree hn) rfl rfl ?_
              refine TC.skip ?_
              refine TC.seq ?_
              refine TC.region (id := 15) ?_
              refine TO.w hn (.move _) rfl (guard0 rfl) (lop_move (agree hn) rfl) rfl ?_
              refine TO.w hn (.move _) rfl (guard0 rfl) (lop_move (agree hn) rfl) rfl ?_
              (refine TO.wc hn (.call _) rfl (guard0 rfl) (lop_func (agree hn) rfl rfl rfl) rfl (k1 _) (fun v H2 hR => ?_); (obtain ⟨rfl, e2⟩ := hR; cases e2.symm))
              refine TO.w hn (.move _) rfl (guard0 rfl) (lop_move (agree hn) rfl) rfl ?_
              refine TO.w hn (.extract _ _) rfl (guard0 rfl) (lop_ex (agree hn) rfl rfl) rfl ?_
              refine TO.w hn (.extract _ _) rfl (guard0 rfl) (lop_ex (agree hn) rfl rfl) rfl ?_
              refine TO.w hn (.assign _) rfl (guard0 rfl) (lop_assign (agree hn) rfl) rfl ?_
              refine TO.w hn (.assign _) rfl (guard0 rfl) (lop_assign (agree hn) rfl) rfl ?_
              refine TO.nil ?_
              refine TC.seq ?_
              refine TC.region (id := 16) ?_
              refine TO.w hn (.assign _) rfl (guard0 rfl) (lop_assign (agree hn) rfl) rfl ?_
              refine TO.nil ?_
              refine TC.seq ?_
              refine TC.seq ?_
              refine TC.region (id := 17) ?_
              refine TO.w hn (.move _) rfl (guard0 rfl) (lop_move (agree hn) rfl) rfl ?_
              refine TO.w hn (.binOp _ _ _ _ _) rfl (guard0 rfl) (lop_eqSF (agree hn) rfl rfl (by assumption)) rfl ?_
              refine TO.nil ?_
              refine TC.condF (agree hn) rfl rfl ?_
              refine TC.seq ?_
              refine TC.region (id := 19) ?_
              refine TO.w hn (.move _) rfl (guard0 rfl) (lop_move (agree hn) rfl) rfl ?_
              refine TO.w hn (.move _) rfl (guard0 rfl) (lop_move (agree hn) rfl) rfl ?_
              refine TO.w hn (.binOp _ _ _ _ _) rfl (guard0 rfl) (lop_neSF (agree hn) rfl rfl (by rfl)) rfl ?_
              refine TO.nil ?_
              refine TC.condF (agree hn) rfl rfl ?_
              refine TC.skip ?_
              refine TC.seq ?_
              refine TC.seq ?_
              refine TC.region (id := 21) ?_
              refine TO.w hn (.move _) rfl (guard0 rfl) (lop_move (agree hn) rfl) rfl ?_
              refine TO.w hn (.move _) rfl (guard0 rfl) (lop_move (agree hn) rfl) rfl ?_
              refine TO.w hn (.binOp _ _ _ _ _) rfl (guard0 rfl) (lop_binF (agree hn) rfl rfl rfl (by exact bne_self_eq_false _)) rfl ?_
              refine TO.nil ?_
              refine TC.condF (agree hn) rfl rfl ?_
              refine TC.skip ?_
              refine TC.seq ?_
              refine TC.region (id := 23) ?_
              refine TO.w hn (.move _) rfl (guard0 rfl) (lop_move (agree hn) rfl) rfl ?_
              refine TO.w hn (.binOp _ _ _ _ _) rfl (guard0 rfl) (lop_binT (agree hn) rfl rfl rfl (by exact beq_self_eq_true _)) rfl ?_
              refine TO.nil ?_
              refine TC.condT (agree hn) rfl rfl ?_
              refine TC.seq ?_
              refine TC.region (id := 24) ?_
              refine TO.w hn (.assign _) rfl (guard0 rfl) (lop_assign (agree hn) rfl) rfl ?_
              refine TO.nil ?_
              refine TC.region (id := 25) ?_
              refine TO.w hn (.move _) rfl (guard0 rfl) (lop_move (agree hn) rfl) rfl ?_
              refine TO.w hn (.assign _) rfl (guard0 rfl) (lop_assign (agree hn) rfl) rfl ?_
              refine TO.nil ?_
              refine TC.region (id := 6) ?_
              refine TO.w hn (.move _) rfl (guard0 rfl) (lop_move (agree hn) rfl) rfl ?_
              refine TO.w hn (.binOp _ _ _ _ _) rfl (guard0 rfl) (lop_binI (agree hn) rfl rfl rfl rfl (by omega) (by omega)) rfl ?_
              refine TO.w hn (.assign _) rfl (guard0 rfl) (lop_assign (agree hn) rfl) rfl ?_
              refine TO.nil ?_
              exact ⟨m - 1, by omega, i + 1, cellL l true, l, true, by omega, .inr ⟨hr, rfl⟩, (mkF_length _ _).trans hn, Facts.of (agree hn) ⟨rfl, rfl, rfl, rfl, rfl, trivial⟩, rfl⟩
            · have k1 := fun (H : Hp) => CF.co noOwn rfl rfl (trust_CF (H := H) (c := cellL l g) (a := a) hcl)
              rw [trustE3 hr hrl he] at k1
              refine TC.seq ?_
              refine TC.seq ?_
              refine TC.region (id := 5) ?_
              refine TO.w hn (.move _) rfl (guard0 rfl) (lop_move (agree hn) rfl) rfl ?_
              refine TO.w hn (.move _) rfl (guard0 rfl) (lop_move (agree hn) rfl) rfl ?_
              refine TO.w hn (.call _) rfl (guard0 rfl) (lop_built (agree hn) rfl rfl (lbuiltin_lenL rfl)) rfl ?_
              refine TO.w hn (.binOp _ _ _ _ _) rfl (guard0 rfl) (lop_binT (agree hn) rfl rfl rfl (by exact decide_eq_true (by omega))) rfl ?_
              refine TO.w hn (.move _) rfl (guard0 rfl) (lop_move (agree hn) rfl) rfl ?_
              refine TO.w hn (.move _) rfl (guardOn (agree hn) rfl rfl rfl rfl) (lop_move (agree hn) rfl) rfl ?_
              refine TO.w hn (.binOp _ _ _ _ _) rfl (guardOn (agree hn) rfl rfl rfl rfl) (lop_binT (agree hn) rfl rfl rfl (by exact decide_eq_true (by omega))) rfl ?_
              refine TO.w hn (.pick _ _ _) rfl (guard0 rfl) (lop_pickT (agree hn) rfl rfl rfl) rfl ?_
              refine TO.nil ?_
              refine TC.condT (agree hn) rfl rfl ?_
              refine TC.skip ?_
              refine TC.seq ?_
              refine TC.block ?_
              refine TC.seq ?_
              refine TC.region (id := 7) ?_
              refine TO.w hn (.move _) rfl (guard0 rfl) (lop_move (agree hn) rfl) rfl ?_
              refine TO.w hn (.move _) rfl (guard0 rfl) (lop_move (agree hn) rfl) rfl ?_
              refine TO.w hn (.indexAddr _ _ _) rfl (guard0 rfl) (lop_ia1 (agree hn) rfl rfl rfl rfl (by omega) (by omega)) rfl ?_
              refine TO.w hn (.load _ _) rfl (guard0 rfl) (lop_load (agree hn) rfl (by assumption) rfl (by assumption)) rfl ?_
              (refine TO.wc hn (.call _) rfl (guard0 rfl) (lop_func (agree hn) rfl rfl rfl) rfl (hnm _) (fun v H2 hR => ?_); (obtain ⟨rfl, e2⟩ := hR; cases e2.symm))
              refine TO.w hn (.assign _) rfl (guard0 rfl) (lop_assign (agree hn) rfl) rfl ?_
              refine TO.nil ?_
              refine TC.seq ?_
              refine TC.seq ?_
              refine TC.region (id := 8) ?_
              refine TO.w hn (.move _) rfl (guard0 rfl) (lop_move (agree hn) rfl) rfl ?_
              refine TO.w hn (.move _) rfl (guard0 rfl) (lop_move (agree hn) rfl) rfl ?_
              refine TO.w hn (.indexAddr _ _ _) rfl (guard0 rfl) (lop_ia1 (agree hn) rfl rfl rfl rfl (by omega) (by omega)) rfl ?_
              refine TO.w hn (.load _ _) rfl (guard0 rfl) (lop_load (agree hn) rfl (by assumption) rfl (by assumption)) rfl ?_
              refine TO.w hn (.binOp _ _ _ _ _) rfl (guard0 rfl) (lop_quoP (agree hn) rfl rfl (by omega) (by omega) rfl (by omega) (by omega)) rfl ?_
              refine TO.w hn (.binOp _ _ _ _ _) rfl (guard0 rfl) (lop_remP (agree hn) rfl rfl (by omega) (by omega)) rfl ?_
              refine TO.w hn (.binOp _ _ _ _ _) rfl (guard0 rfl) (lop_binF (agree hn) rfl rfl rfl (by exact decide_eq_false (by omega))) rfl ?_
              refine TO.nil ?_
              refine TC.condF (agree hn) rfl rfl ?_
              refine TC.skip ?_
              refine TC.seq ?_
              refine TC.region (id := 15) ?_
              refine TO.w hn (.move _) rfl (guard0 rfl) (lop_move (agree hn) rfl) rfl ?_
              refine TO.w hn (.move _) rfl (guard0 rfl) (lop_move (agree hn) rfl) rfl ?_
              (refine TO.wc hn (.call _) rfl (guard0 rfl) (lop_func (agree hn) rfl rfl rfl) rfl (k1 _) (fun v H2 hR => ?_); (obtain ⟨rfl, e2⟩ := hR; cases e2.symm))
              refine TO.w hn (.move _) rfl (guard0 rfl) (lop_move (agree hn) rfl) rfl ?_
              refine TO.w hn (.extract _ _) rfl (guard0 rfl) (lop_ex (agree hn) rfl rfl) rfl ?_
              refine TO.w hn (.extract _ _) rfl (guard0 rfl) (lop_ex (agree hn) rfl rfl) rfl ?_
              refine TO.w hn (.assign _) rfl (guard0 rfl) (lop_assign (agree hn) rfl) rfl ?_
              refine TO.w hn (.assign _) rfl (guard0 rfl) (lop_assign (agree hn) rfl) rfl ?_
              refine TO.nil ?_
              refine TC.seq ?_
              refine TC.region (id := 16) ?_
              refine TO.w hn (.assign _) rfl (guard0 rfl) (lop_assign (agree hn) rfl) rfl ?_
              refine TO.nil ?_
              refine TC.seq ?_
              refine TC.seq ?_
              refine TC.region (id := 17) ?_
              refine TO.w hn (.move _) rfl (guard0 rfl) (lop_move (agree hn) rfl) rfl ?_
              refine TO.w hn (.binOp _ _ _ _ _) rfl (guard0 rfl) (lop_eqSF (agree hn) rfl rfl (by assumption)) rfl ?_
              refine TO.nil ?_
              refine TC.condF (agree hn) rfl rfl ?_
              refine TC.seq ?_
              refine TC.region (id := 19) ?_
              refine TO.w hn (.move _) rfl (guard0 rfl) (lop_move (agree hn) rfl) rfl ?_
              refine TO.w hn (.move _) rfl (guard0 rfl) (lop_move (agree hn) rfl) rfl ?_
              refine TO.w hn (.binOp _ _ _ _ _) rfl (guard0 rfl) (lop_neST (agree hn) rfl rfl (by assumption)) rfl ?_
              refine TO.nil ?_
              refine TC.condT (agree hn) rfl rfl ?_
              refine TC.region (id := 20) ?_
              refine TO.w hn (.assign _) rfl (guard0 rfl) (lop_assign (agree hn) rfl) rfl ?_
              refine TO.nil ?_
              refine TC.seq ?_
              refine TC.seq ?_
              refine TC.region (id := 21) ?_
              refine TO.w hn (.move _) rfl (guard0 rfl) (lop_move (agree hn) rfl) rfl ?_
              refine TO.w hn (.move _) rfl (guard0 rfl) (lop_move (agree hn) rfl) rfl ?_
              refine TO.w hn (.binOp _ _ _ _ _) rfl (guard0 rfl) (lop_binF (agree hn) rfl rfl rfl (by exact bne_self_eq_false _)) rfl ?_
              refine TO.nil ?_
              refine TC.condF (agree hn) rfl rfl ?_
              refine TC.skip ?_
              refine TC.seq ?_
              refine TC.region (id := 23) ?_
              refine TO.w hn (.move _) rfl (guard0 rfl) (lop_move (agree hn) rfl) rfl ?_
              refine TO.w hn (.binOp _ _ _ _ _) rfl (guard0 rfl) (lop_binF (agree hn) rfl rfl rfl (by exact decide_eq_false (by omega))) rfl ?_
              refine TO.nil ?_
              refine TC.condF (agree hn) rfl rfl ?_
              refine TC.skip ?_
              refine TC.region (id := 6) ?_
              refine TO.w hn (.move _) rfl (guard0 rfl) (lop_move (agree hn) rfl) rfl ?_
              refine TO.w hn (.binOp _ _ _ _ _) rfl (guard0 rfl) (lop_binI (agree hn) rfl rfl rfl rfl (by omega) (by omega)) rfl ?_
              refine TO.w hn (.assign _) rfl (guard0 rfl) (lop_assign (agree hn) rfl) rfl ?_
              refine TO.nil ?_
              exact ⟨m - 1, by omega, i + 1, cellL l g, l, g, by omega, .inr ⟨hrl, rfl⟩, (mkF_length _ _).trans hn, Facts.of (agree hn) ⟨rfl, rfl, rfl, rfl, rfl, trivial⟩, rfl⟩
    ·
      refine TC.seq ?_
      refine TC.seq ?_
      refine TC.region (id := 5) ?_
      refine TO.w hn (.move _) rfl (guard0 rfl) (lop_move (agree hn) rfl) rfl ?_
      refine TO.w hn (.move _) rfl (guard0 rfl) (lop_move (agree hn) rfl) rfl ?_
      refine TO.w hn (.call _) rfl (guard0 rfl) (lop_built (agree hn) rfl rfl (lbuiltin_lenL rfl)) rfl ?_
      refine TO.w hn (.binOp _ _ _ _ _) rfl (guard0 rfl) (lop_binT (agree hn) rfl rfl rfl (by exact decide_eq_true (by omega))) rfl ?_
      refine TO.w hn (.move _) rfl (guard0 rfl) (lop_move (agree hn) rfl) rfl ?_
      refine TO.w hn (.move _) rfl (guardOn (agree hn) rfl rfl rfl rfl) (lop_move (agree hn) rfl) rfl ?_
      refine TO.w hn (.binOp _ _ _ _ _) rfl (guardOn (agree hn) rfl rfl rfl rfl) (lop_binF (agree hn) rfl rfl rfl (by exact decide_eq_false (by omega))) rfl ?_
      refine TO.w hn (.pick _ _ _) rfl (guard0 rfl) (lop_pickT (agree hn) rfl rfl rfl) rfl ?_
      refine TO.nil ?_
      refine TC.condF (agree hn) rfl rfl ?_
      refine TC.exit ?_
      refine TC.seq ?_
      refine TC.region (id := 26) ?_
      (refine TO.wc hn (.call _) rfl (guard0 rfl) (lop_func (agree hn) rfl rfl rfl) rfl (CF.co noOwn rfl rfl vworks_CF) (fun v H2 hR => ?_); (obtain ⟨rfl, e2⟩ := hR; cases e2.symm))
      refine TO.w hn (.assign _) rfl (guard0 rfl) (lop_assign (agree hn) rfl) rfl ?_
      refine TO.nil ?_
      refine TC.ret ?_
      exact ⟨trivial, _, lres1 (agree hn) rfl, rfl⟩
  ·
    refine TC.seq ?_
    refine TC.seq ?_
    refine TC.region (id := 5) ?_
    refine TO.w hn (.move _) rfl (guard0 rfl) (lop_move (agree hn) rfl) rfl ?_
    refine TO.w hn (.move _) rfl (guard0 rfl) (lop_move (agree hn) rfl) rfl ?_
    refine TO.w hn (.call _) rfl (guard0 rfl) (lop_built (agree hn) rfl rfl (lbuiltin_lenL rfl)) rfl ?_
    refine TO.w hn (.binOp _ _ _ _ _) rfl (guard0 rfl) (lop_binF (agree hn) rfl rfl rfl (by exact decide_eq_false (by omega))) rfl ?_
    refine TO.w hn (.move _) rfl (guard0 rfl) (lop_move (agree hn) rfl) rfl ?_
    refine TO.woff hn (guardOff (agree hn) rfl rfl rfl rfl) rfl ?_
    refine TO.woff hn (guardOff (agree hn) rfl rfl rfl rfl) rfl ?_
    refine TO.w hn (.pick _ _ _) rfl (guard0 rfl) (lop_pickF (agree hn) rfl rfl rfl) rfl ?_
    refine TO.nil ?_
    refine TC.condF (agree hn) rfl rfl ?_
    refine TC.exit ?_
    refine TC.seq ?_
    refine TC.region (id := 26) ?_
    (refine TO.wc hn (.call _) rfl (guard0 rfl) (lop_func (agree hn) rfl rfl rfl) rfl (CF.co noOwn rfl rfl vworks_CF) (fun v H2 hR => ?_); (obtain ⟨rfl, e2⟩ := hR; cases e2.symm))
    refine TO.w hn (.assign _) rfl (guard0 rfl) (lop_assign (agree hn) rfl) rfl ?_
    refine TO.nil ?_
    refine TC.ret ?_
    exact ⟨trivial, _, lres1 (agree hn) rfl, rfl⟩
end Go.Proofs.Ytcndgbaldjcdfaa
