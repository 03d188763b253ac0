/- Digits as bytes; the document's numbers and texts. -/
import Derived.Test.YtbekdbehiacnkaaWireH
namespace Go.Proofs.Ytbekdbehiacnkaa
open Go Go.Lite
set_option linter.unusedSimpArgs false
set_option linter.unusedVariables false
set_option maxHeartbeats 4000000

theorem first_digit : ∀ n : Nat, n < 256 → firstIdx ⟨digitsL.toArray⟩ (UInt8.ofNat n) = if halfN n < 16 then (halfN n : Int) else -1 := by decide +kernel
theorem first_digit' (c : UInt8) : firstIdx ⟨digitsL.toArray⟩ c = if halfN c.toNat < 16 then (halfN c.toNat : Int) else -1 := by
  have := first_digit c.toNat c.toNat_lt
  rwa [UInt8.ofNat_toNat] at this
theorem halfN_le (c : Nat) : halfN c ≤ 16 := by unfold halfN; split <;> (try split) <;> omega

theorem idx1_CO {H : Hp} {l : List UInt8} {c : UInt8} : CO Try.prog 31 [S l, .int .u8 c.toNat] H fun v H' => v = .int .i64 (firstIdx ⟨l.toArray⟩ c) ∧ H' = H :=
  CO.indexByte Try.func31 rfl rfl rfl rfl l c
theorem idx2_CF {H : Hp} {l : List UInt8} {c : UInt8} : CF Try.prog 30 [S l, .int .u8 c.toNat] H fun v H' => v = .int .i64 (firstIdx ⟨l.toArray⟩ c) ∧ H' = H := by
  refine CF.go _ Try.func30 rfl ⟨Nat.le_of_ble_eq_true rfl, rfl⟩ fun base hb0 hn => ?_
  subst hb0
  refine TC.seq ?_
  refine TC.region (id := 0) ?_
  refine TO.w hn (.assign _) rfl (guard0 rfl) (lop_assign (agree hn) rfl) rfl ?_
  refine TO.nil ?_
  refine TC.seq ?_
  refine TC.region (id := 1) ?_
  refine TO.w hn (.move _) rfl (guard0 rfl) (lop_move (agree hn) rfl) rfl ?_
  refine TO.w hn (.move _) rfl (guard0 rfl) (lop_move (agree hn) rfl) rfl ?_
  (refine TO.wc hn (.call _) rfl (guard0 rfl) (lop_func (agree hn) rfl rfl rfl) rfl (idx1_CO) (fun v H2 hR => ?_); (obtain ⟨rfl, e2⟩ := hR; cases e2.symm))
  refine TO.w hn (.assign _) rfl (guard0 rfl) (lop_assign (agree hn) rfl) rfl ?_
  refine TO.nil ?_
  refine TC.ret ?_
  exact ⟨trivial, _, lres1 (agree hn) rfl, rfl, rfl⟩
theorem idx_CF {H : Hp} {l : List UInt8} {c : UInt8} : CF Try.prog 28 [S l, .int .u8 c.toNat] H fun v H' => v = .int .i64 (firstIdx ⟨l.toArray⟩ c) ∧ H' = H := by
  refine CF.go _ Try.func28 rfl ⟨Nat.le_of_ble_eq_true rfl, rfl⟩ fun base hb0 hn => ?_
  subst hb0
  refine TC.seq ?_
  refine TC.region (id := 0) ?_
  refine TO.w hn (.assign _) rfl (guard0 rfl) (lop_assign (agree hn) rfl) rfl ?_
  refine TO.nil ?_
  refine TC.seq ?_
  refine TC.region (id := 1) ?_
  refine TO.w hn (.move _) rfl (guard0 rfl) (lop_move (agree hn) rfl) rfl ?_
  refine TO.w hn (.move _) rfl (guard0 rfl) (lop_move (agree hn) rfl) rfl ?_
  (refine TO.wc hn (.call _) rfl (guard0 rfl) (lop_func (agree hn) rfl rfl rfl) rfl (CF.co noOwn rfl rfl idx2_CF) (fun v H2 hR => ?_); (obtain ⟨rfl, e2⟩ := hR; cases e2.symm))
  refine TO.w hn (.assign _) rfl (guard0 rfl) (lop_assign (agree hn) rfl) rfl ?_
  refine TO.nil ?_
  refine TC.ret ?_
  exact ⟨trivial, _, lres1 (agree hn) rfl, rfl, rfl⟩
theorem idxD_CO {H : Hp} {c : UInt8} : CO Try.prog 28 [S digitsL, .int .u8 c.toNat] H fun v H' => v = .int .i64 (if halfN c.toNat < 16 then (halfN c.toNat : Int) else -1) ∧ H' = H := by
  have := CF.co noOwn (P := Try.prog) (H := H) Try.func28 rfl (idx_CF (l := digitsL) (c := c))
  rw [first_digit' c] at this
  exact this

/-- The bytes of digits. -/
def unhexL : List UInt8 → Option (List UInt8)
  | [] => some []
  | [_] => none
  | a :: b :: r => if halfN a.toNat < 16 ∧ halfN b.toNat < 16 then (unhexL r).map (UInt8.ofNat (halfN a.toNat * 16 + halfN b.toNat) :: ·) else none
theorem unhexL_odd : ∀ l : List UInt8, l.length % 2 = 1 → unhexL l = none
  | [], h => by simp at h
  | [_], _ => rfl
  | a :: b :: r, h => by
    have := unhexL_odd r (by simp only [List.length_cons] at h; omega)
    simp [unhexL, this]
theorem drop_two {l : List UInt8} {i : Nat} {a b : UInt8} (ha : l[i]? = some a) (hb : l[i + 1]? = some b) : l.drop i = a :: b :: l.drop (i + 2) := by
  have h0 : i + 1 < l.length := (List.getElem?_eq_some_iff.1 hb).1
  rw [List.drop_eq_getElem_cons (by omega), List.drop_eq_getElem_cons h0]
  rw [List.getElem?_eq_getElem (by omega)] at ha hb
  cases ha; cases hb
  rfl
def unhexV (l : List UInt8) : Value := .tuple #[S ((unhexL l).getD []), .bool (unhexL l).isSome]

theorem unhex_CF {H : Hp} {l : List UInt8} (hl : l.length ≤ 35184372088832) : CF Try.prog 21 [S l] H fun v H' => v = unhexV l ∧ H' = H := by
  refine CF.forget ((?_ : CF _ _ _ _ fun u H' => u = unhexV l ∧ H.le H').mono fun u H' h => ⟨⟨h.1, by rw [h.1]; rfl⟩, h.2⟩)
  refine CF.wf fun hw => ?_
  refine CF.go _ Try.func21 rfl ⟨Nat.le_of_ble_eq_true rfl, rfl⟩ fun base hb0 hn => ?_
  subst hb0
  by_cases hodd : l.length % 2 = 1
  ·
    refine TC.seq ?_
    refine TC.region (id := 0) ?_
    refine TO.w hn (.assign _) rfl (guard0 rfl) (lop_assign (agree hn) rfl) rfl ?_
    refine TO.w hn (.assign _) rfl (guard0 rfl) (lop_assign (agree hn) rfl) rfl ?_
    refine TO.nil ?_
    refine TC.seq ?_
    refine TC.seq ?_
    refine TC.region (id := 1) ?_
    refine TO.w hn (.move _) rfl (guard0 rfl) (lop_move (agree hn) rfl) rfl ?_
    refine TO.w hn (.call _) rfl (guard0 rfl) (lop_built (agree hn) rfl rfl (lbuiltin_lenS rfl)) rfl ?_
    refine TO.w hn (.binOp _ _ _ _ _) rfl (guard0 rfl) (lop_remP (agree hn) rfl rfl (by omega) (by omega)) rfl ?_
    refine TO.w hn (.binOp _ _ _ _ _) rfl (guard0 rfl) (lop_binT (agree hn) rfl rfl rfl (by exact bne_iff_ne.2 (by omega))) rfl ?_
    refine TO.nil ?_
    refine TC.condT (agree hn) rfl rfl ?_
    refine TC.seq ?_
    refine TC.region (id := 2) ?_
    refine TO.w hn (.assign _) rfl (guard0 rfl) (lop_assign (agree hn) rfl) rfl ?_
    refine TO.w hn (.assign _) rfl (guard0 rfl) (lop_assign (agree hn) rfl) rfl ?_
    refine TO.nil ?_
    refine TC.ret ?_
    refine ⟨trivial, _, lresT (agree hn) rfl rfl, ?_, Hp.le.refl H⟩
    rw [unhexV, unhexL_odd l hodd]; rfl
  refine TC.seq ?_
  refine TC.region (id := 0) ?_
  refine TO.w hn (.assign _) rfl (guard0 rfl) (lop_assign (agree hn) rfl) rfl ?_
  refine TO.w hn (.assign _) rfl (guard0 rfl) (lop_assign (agree hn) rfl) rfl ?_
  refine TO.nil ?_
  refine TC.seq ?_
  refine TC.seq ?_
  refine TC.region (id := 1) ?_
  refine TO.w hn (.move _) rfl (guard0 rfl) (lop_move (agree hn) rfl) rfl ?_
  refine TO.w hn (.call _) rfl (guard0 rfl) (lop_built (agree hn) rfl rfl (lbuiltin_lenS rfl)) rfl ?_
  refine TO.w hn (.binOp _ _ _ _ _) rfl (guard0 rfl) (lop_remP (agree hn) rfl rfl (by omega) (by omega)) rfl ?_
  refine TO.w hn (.binOp _ _ _ _ _) rfl (guard0 rfl) (lop_binF (agree hn) rfl rfl rfl (by exact bne_eq_false_iff_eq.2 (by omega))) rfl ?_
  refine TO.nil ?_
  refine TC.condF (agree hn) rfl rfl ?_
  refine TC.skip ?_
  refine TC.seq ?_
  refine TC.region (id := 3) ?_
  refine TO.w hn (.move _) rfl (guard0 rfl) (lop_move (agree hn) rfl) rfl ?_
  refine TO.w hn (.call _) rfl (guard0 rfl) (lop_built (agree hn) rfl rfl (lbuiltin_lenS rfl)) rfl ?_
  refine TO.w hn (.binOp _ _ _ _ _) rfl (guard0 rfl) (lop_quoP (agree hn) rfl rfl (by omega) (by omega) rfl (by omega) (by omega)) rfl ?_
  refine TO.w hn (.makeSlice _ _ _) rfl (guard0 rfl) (lop_mkB (agree hn) rfl rfl rfl (by omega) (by omega) (by omega)) rfl ?_
  refine TO.w hn (.assign _) rfl (guard0 rfl) (lop_assign (agree hn) rfl) rfl ?_
  refine TO.nil ?_
  refine TC.seq ?_
  refine TC.seq ?_
  refine TC.region (id := 4) ?_
  refine TO.w hn (.assign _) rfl (guard0 rfl) (lop_assign (agree hn) rfl) rfl ?_
  refine TO.nil ?_
  refine TC.block ?_
  refine TC.loopI (fun m fr H' => ∃ (i ob c : Nat) (xs : List UInt8), m + i = l.length ∧ i % 2 = 0 ∧ unhexL l = (unhexL (l.drop i)).map (xs ++ ·) ∧ xs.length ≤ i ∧ fr.length = 47 ∧ Facts fr [(0, S l), (4, .slice (some ⟨ob, 0, none⟩) xs.length c), (5, .int .i64 (i : Nat))] ∧ H'.f ob = some (.ints true .u8 (xs.map fun c => (c.toNat : Int))) ∧ H.le H' ∧ H.n ≤ ob) l.length
    ⟨0, H.n, _, [], by omega, rfl, by simp, by simp, (mkF_length _ _).trans hn, Facts.of (agree hn) ⟨rfl, rfl, rfl, trivial⟩, new_self _ _, Hp.le.new _ hw, Nat.le_refl _⟩ ?_
  clear hn
  rintro m fr H' ⟨i, ob, c, xs, hi, hi2, hu, hxl, hn, hf, hob, hle, hge⟩
  refine TC.wf fun hw' => ?_
  have hlt := hw' _ _ hob
  refine TC.facts _ hf ?_
  by_cases h : i < l.length
  · obtain ⟨x, hc⟩ : ∃ x, l[i]? = some x := ⟨l[i], List.getElem?_eq_getElem h⟩
    obtain ⟨y, hd⟩ : ∃ y, l[i + 1]? = some y := ⟨l[i + 1], List.getElem?_eq_getElem (by omega)⟩
    have hd' : l[((i : Int) + 1).toNat]? = some y := hd
    rw [drop_two hc hd, unhexL] at hu
    have hx16 := halfN_le x.toNat
    have hy16 := halfN_le y.toNat
    by_cases hx : halfN x.toNat < 16
    · by_cases hy : halfN y.toNat < 16
      · rw [if_pos ⟨hx, hy⟩, Option.map_map] at hu
        have hix : ∀ H, CO Try.prog 28 [S digitsL, .int .u8 x.toNat] H fun v H' => v = .int .i64 (halfN x.toNat : Int) ∧ H' = H := fun H => by
          have := idxD_CO (H := H) (c := x)
          rwa [if_pos hx] at this
        have hiy : ∀ H, CO Try.prog 28 [S digitsL, .int .u8 y.toNat] H fun v H' => v = .int .i64 (halfN y.toNat : Int) ∧ H' = H := fun H => by
          have := idxD_CO (H := H) (c := y)
          rwa [if_pos hy] at this
        generalize halfN x.toNat = p at *
        generalize halfN y.toNat = q at *
        have hor : IntKind.u8.wrap (IntKind.i64.wrap ((BitVec.ofInt IntKind.i64.bits ((p : Int) * 16) ||| BitVec.ofInt IntKind.i64.bits (q : Int)).toNat)) = ((UInt8.ofNat (p * 16 + q)).toNat : Int) := by
          have e : ∀ a : Nat, a < 16 → ∀ b : Nat, b < 16 → IntKind.u8.wrap (IntKind.i64.wrap ((BitVec.ofInt IntKind.i64.bits ((a : Int) * 16) ||| BitVec.ofInt IntKind.i64.bits (b : Int)).toNat)) = ((UInt8.ofNat (a * 16 + b)).toNat : Int) := by decide +kernel
          exact e p hx q hy
        refine TC.seq ?_
        refine TC.seq ?_
        refine TC.region (id := 5) ?_
        refine TO.w hn (.move _) rfl (guard0 rfl) (lop_move (agree hn) rfl) rfl ?_
        refine TO.w hn (.move _) rfl (guard0 rfl) (lop_move (agree hn) rfl) rfl ?_
        refine TO.w hn (.call _) rfl (guard0 rfl) (lop_built (agree hn) rfl rfl (lbuiltin_lenS rfl)) rfl ?_
        refine TO.w hn (.binOp _ _ _ _ _) rfl (guard0 rfl) (lop_binT (agree hn) rfl rfl rfl (by exact decide_eq_true (by omega))) rfl ?_
        refine TO.nil ?_
        refine TC.condT (agree hn) rfl rfl ?_
        refine TC.skip ?_
        refine TC.seq ?_
        refine TC.block ?_
        refine TC.seq ?_
        refine TC.drawnSeq (id := 7) [(0, false), (1, false), (2, false), (3, true), (4, false), (5, false), (6, false), (7, false), (8, true), (9, false), (10, false)] rfl (by kernel_rfl) ?_
        refine AS.w hn rfl (.move _) rfl (guard0 rfl) (lop_move (agree hn) rfl) rfl ?_
        refine AS.w hn rfl (.move _) rfl (guard0 rfl) (lop_move (agree hn) rfl) rfl ?_
        refine AS.w hn rfl (.index _ _ _) rfl (guard0 rfl) (lop_ixS (agree hn) rfl rfl rfl (by omega) (by assumption)) rfl ?_
        refine AS.wp hn rfl (.call _) rfl (guard0 rfl) (lop_func (agree hn) rfl rfl rfl) rfl (hix _) ?_
        refine AS.w hn rfl (.move _) rfl (guard0 rfl) (lop_move (agree hn) rfl) rfl ?_
        refine AS.w hn rfl (.move _) rfl (guard0 rfl) (lop_move (agree hn) rfl) rfl ?_
        refine AS.w hn rfl (.binOp _ _ _ _ _) rfl (guard0 rfl) (lop_binI (agree hn) rfl rfl rfl rfl (by omega) (by omega)) rfl ?_
        refine AS.w hn rfl (.index _ _ _) rfl (guard0 rfl) (lop_ixS (agree hn) rfl rfl rfl (by omega) (by assumption)) rfl ?_
        refine AS.wp hn rfl (.call _) rfl (guard0 rfl) (lop_func (agree hn) rfl rfl rfl) rfl (hiy _) ?_
        refine AS.w hn rfl (.assign _) rfl (guard0 rfl) (lop_assign (agree hn) rfl) rfl ?_
        refine AS.w hn rfl (.assign _) rfl (guard0 rfl) (lop_assign (agree hn) rfl) rfl ?_
        refine AS.nil ?_
        refine TC.seq ?_
        refine TC.seq ?_
        refine TC.region (id := 8) ?_
        refine TO.w hn (.move _) rfl (guard0 rfl) (lop_move (agree hn) rfl) rfl ?_
        refine TO.w hn (.binOp _ _ _ _ _) rfl (guard0 rfl) (lop_binF (agree hn) rfl rfl rfl (by exact decide_eq_false (by omega))) rfl ?_
        refine TO.w hn (.move _) rfl (guard0 rfl) (lop_move (agree hn) rfl) rfl ?_
        refine TO.w hn (.move _) rfl (guardOn (agree hn) rfl rfl rfl rfl) (lop_move (agree hn) rfl) rfl ?_
        refine TO.w hn (.binOp _ _ _ _ _) rfl (guardOn (agree hn) rfl rfl rfl rfl) (lop_binF (agree hn) rfl rfl rfl (by exact decide_eq_false (by omega))) rfl ?_
        refine TO.w hn (.pick _ _ _) rfl (guard0 rfl) (lop_pickF (agree hn) rfl rfl rfl) rfl ?_
        refine TO.nil ?_
        refine TC.condF (agree hn) rfl rfl ?_
        refine TC.skip ?_
        refine TC.region (id := 10) ?_
        refine TO.w hn (.move _) rfl (guard0 rfl) (lop_move (agree hn) rfl) rfl ?_
        refine TO.w hn (.move _) rfl (guard0 rfl) (lop_move (agree hn) rfl) rfl ?_
        refine TO.w hn (.binOp _ _ _ _ _) rfl (guard0 rfl) (lop_shlP (agree hn) rfl rfl rfl (by omega) rfl (by omega) (by omega)) rfl ?_
        refine TO.w hn (.move _) rfl (guard0 rfl) (lop_move (agree hn) rfl) rfl ?_
        refine TO.w hn (.binOp _ _ _ _ _) rfl (guard0 rfl) (lop_bin (agree hn) rfl rfl rfl) rfl ?_
        refine TO.w hn (.convert _ _ _) rfl (guard0 rfl) (lop_conv (agree hn) rfl rfl) rfl ?_
        refine TO.w hn (.buildSlice _ _ _) rfl (guard0 rfl) (lop_bslice (agree hn) rfl (lbuildSlice_1 rfl)) rfl ?_
        refine TO.w hn (.call _) rfl (guard0 rfl) (lop_built (agree hn) rfl rfl (lappend_bytes rfl rfl (by (repeat (first | exact new_self _ _ | exact set_self _ _ _ | exact move_self _ _ _ | assumption | refine (set_other _ (by first | assumption | omega | (simp only [new_n, set_n, move_n] at *; omega))).trans ?_ | refine (new_other _ (by first | assumption | omega | (simp only [new_n, set_n, move_n] at *; omega))).trans ?_ | refine (move_other _ (by first | assumption | omega | (simp only [new_n, set_n, move_n] at *; omega)) (by first | assumption | omega | (simp only [new_n, set_n, move_n] at *; omega))).trans ?_ | refine Hp.le.fe (by assumption) ?_ rfl))) (by (simp only [List.length_append, List.length_take, List.length_drop, List.length_map, List.length_cons, List.length_nil, List.length_singleton, List.length_replicate, hexL_length] <;> fail)) (by exact new_self _ _) (by (simp only [List.length_append, List.length_take, List.length_drop, List.length_map, List.length_cons, List.length_nil, List.length_singleton, List.length_replicate, hexL_length]; omega)) (by omega))) rfl ?_
        refine TO.w hn (.assign _) rfl (guard0 rfl) (lop_assign (agree hn) rfl) rfl ?_
        refine TO.nil ?_
        refine TC.region (id := 6) ?_
        refine TO.w hn (.move _) rfl (guard0 rfl) (lop_move (agree hn) rfl) rfl ?_
        refine TO.w hn (.binOp _ _ _ _ _) rfl (guard0 rfl) (lop_binI (agree hn) rfl rfl rfl rfl (by omega) (by omega)) rfl ?_
        refine TO.w hn (.assign _) rfl (guard0 rfl) (lop_assign (agree hn) rfl) rfl ?_
        refine TO.nil ?_
        refine ⟨m - 2, by omega, i + 2, H'.n + 1, xs.length + 1, xs ++ [UInt8.ofNat (p * 16 + q)], by omega, by omega, ?_, ?_, (mkF_length _ _).trans hn, Facts.of (agree hn) ⟨rfl, ?_, rfl, trivial⟩, ?_, (hle.new' hw _).move' hw hge _, ?_⟩
        · rw [hu]; congr 1; funext z; simp
        · rw [List.length_append, List.length_singleton]; omega
        · rw [List.length_append]; rfl
        · refine (move_self _ _ _).trans ?_
          rw [List.map_append, List.map_singleton, ← hor]
          rfl
        · have := hle.n
          omega
      · rw [if_neg (fun h => hy h.2)] at hu
        have hix : ∀ H, CO Try.prog 28 [S digitsL, .int .u8 x.toNat] H fun v H' => v = .int .i64 (halfN x.toNat : Int) ∧ H' = H := fun H => by
          have := idxD_CO (H := H) (c := x)
          rwa [if_pos hx] at this
        have hiy : ∀ H, CO Try.prog 28 [S digitsL, .int .u8 y.toNat] H fun v H' => v = .int .i64 (-1) ∧ H' = H := fun H => by
          have := idxD_CO (H := H) (c := y)
          rwa [if_neg hy] at this
        refine TC.seq ?_
        refine TC.seq ?_
        refine TC.region (id := 5) ?_
        refine TO.w hn (.move _) rfl (guard0 rfl) (lop_move (agree hn) rfl) rfl ?_
        refine TO.w hn (.move _) rfl (guard0 rfl) (lop_move (agree hn) rfl) rfl ?_
        refine TO.w hn (.call _) rfl (guard0 rfl) (lop_built (agree hn) rfl rfl (lbuiltin_lenS rfl)) rfl ?_
        refine TO.w hn (.binOp _ _ _ _ _) rfl (guard0 rfl) (lop_binT (agree hn) rfl rfl rfl (by exact decide_eq_true (by omega))) rfl ?_
        refine TO.nil ?_
        refine TC.condT (agree hn) rfl rfl ?_
        refine TC.skip ?_
        refine TC.seq ?_
        refine TC.block ?_
        refine TC.seq ?_
        refine TC.drawnSeq (id := 7) [(0, false), (1, false), (2, false), (3, true), (4, false), (5, false), (6, false), (7, false), (8, true), (9, false), (10, false)] rfl (by kernel_rfl) ?_
        refine AS.w hn rfl (.move _) rfl (guard0 rfl) (lop_move (agree hn) rfl) rfl ?_
        refine AS.w hn rfl (.move _) rfl (guard0 rfl) (lop_move (agree hn) rfl) rfl ?_
        refine AS.w hn rfl (.index _ _ _) rfl (guard0 rfl) (lop_ixS (agree hn) rfl rfl rfl (by omega) (by assumption)) rfl ?_
        refine AS.wp hn rfl (.call _) rfl (guard0 rfl) (lop_func (agree hn) rfl rfl rfl) rfl (hix _) ?_
        refine AS.w hn rfl (.move _) rfl (guard0 rfl) (lop_move (agree hn) rfl) rfl ?_
        refine AS.w hn rfl (.move _) rfl (guard0 rfl) (lop_move (agree hn) rfl) rfl ?_
        refine AS.w hn rfl (.binOp _ _ _ _ _) rfl (guard0 rfl) (lop_binI (agree hn) rfl rfl rfl rfl (by omega) (by omega)) rfl ?_
        refine AS.w hn rfl (.index _ _ _) rfl (guard0 rfl) (lop_ixS (agree hn) rfl rfl rfl (by omega) (by assumption)) rfl ?_
        refine AS.wp hn rfl (.call _) rfl (guard0 rfl) (lop_func (agree hn) rfl rfl rfl) rfl (hiy _) ?_
        refine AS.w hn rfl (.assign _) rfl (guard0 rfl) (lop_assign (agree hn) rfl) rfl ?_
        refine AS.w hn rfl (.assign _) rfl (guard0 rfl) (lop_assign (agree hn) rfl) rfl ?_
        refine AS.nil ?_
        refine TC.seq ?_
        refine TC.seq ?_
        refine TC.region (id := 8) ?_
        refine TO.w hn (.move _) rfl (guard0 rfl) (lop_move (agree hn) rfl) rfl ?_
        refine TO.w hn (.binOp _ _ _ _ _) rfl (guard0 rfl) (lop_binF (agree hn) rfl rfl rfl (by exact decide_eq_false (by omega))) rfl ?_
        refine TO.w hn (.move _) rfl (guard0 rfl) (lop_move (agree hn) rfl) rfl ?_
        refine TO.w hn (.move _) rfl (guardOn (agree hn) rfl rfl rfl rfl) (lop_move (agree hn) rfl) rfl ?_
        refine TO.w hn (.binOp _ _ _ _ _) rfl (guardOn (agree hn) rfl rfl rfl rfl) (lop_binT (agree hn) rfl rfl rfl (by exact decide_eq_true (by omega))) rfl ?_
        refine TO.w hn (.pick _ _ _) rfl (guard0 rfl) (lop_pickF (agree hn) rfl rfl rfl) rfl ?_
        refine TO.nil ?_
        refine TC.condT (agree hn) rfl rfl ?_
        refine TC.seq ?_
        refine TC.region (id := 9) ?_
        refine TO.w hn (.assign _) rfl (guard0 rfl) (lop_assign (agree hn) rfl) rfl ?_
        refine TO.w hn (.assign _) rfl (guard0 rfl) (lop_assign (agree hn) rfl) rfl ?_
        refine TO.nil ?_
        refine TC.ret ?_
        refine ⟨trivial, _, lresT (agree hn) rfl rfl, ?_, hle⟩
        rw [unhexV, hu]; rfl
    · rw [if_neg (fun h => hx h.1)] at hu
      have hix : ∀ H, CO Try.prog 28 [S digitsL, .int .u8 x.toNat] H fun v H' => v = .int .i64 (-1) ∧ H' = H := fun H => by
        have := idxD_CO (H := H) (c := x)
        rwa [if_neg hx] at this
      have hiy := fun (H : Hp) => idxD_CO (H := H) (c := y)
      refine TC.seq ?_
      refine TC.seq ?_
      refine TC.region (id := 5) ?_
      refine TO.w hn (.move _) rfl (guard0 rfl) (lop_move (agree hn) rfl) rfl ?_
      refine TO.w hn (.move _) rfl (guard0 rfl) (lop_move (agree hn) rfl) rfl ?_
      refine TO.w hn (.call _) rfl (guard0 rfl) (lop_built (agree hn) rfl rfl (lbuiltin_lenS rfl)) rfl ?_
      refine TO.w hn (.binOp _ _ _ _ _) rfl (guard0 rfl) (lop_binT (agree hn) rfl rfl rfl (by exact decide_eq_true (by omega))) rfl ?_
      refine TO.nil ?_
      refine TC.condT (agree hn) rfl rfl ?_
      refine TC.skip ?_
      refine TC.seq ?_
      refine TC.block ?_
      refine TC.seq ?_
      refine TC.drawnSeq (id := 7) [(0, false), (1, false), (2, false), (3, true), (4, false), (5, false), (6, false), (7, false), (8, true), (9, false), (10, false)] rfl (by kernel_rfl) ?_
      refine AS.w hn rfl (.move _) rfl (guard0 rfl) (lop_move (agree hn) rfl) rfl ?_
      refine AS.w hn rfl (.move _) rfl (guard0 rfl) (lop_move (agree hn) rfl) rfl ?_
      refine AS.w hn rfl (.index _ _ _) rfl (guard0 rfl) (lop_ixS (agree hn) rfl rfl rfl (by omega) (by assumption)) rfl ?_
      refine AS.wp hn rfl (.call _) rfl (guard0 rfl) (lop_func (agree hn) rfl rfl rfl) rfl (hix _) ?_
      refine AS.w hn rfl (.move _) rfl (guard0 rfl) (lop_move (agree hn) rfl) rfl ?_
      refine AS.w hn rfl (.move _) rfl (guard0 rfl) (lop_move (agree hn) rfl) rfl ?_
      refine AS.w hn rfl (.binOp _ _ _ _ _) rfl (guard0 rfl) (lop_binI (agree hn) rfl rfl rfl rfl (by omega) (by omega)) rfl ?_
      refine AS.w hn rfl (.index _ _ _) rfl (guard0 rfl) (lop_ixS (agree hn) rfl rfl rfl (by omega) (by assumption)) rfl ?_
      refine AS.wp hn rfl (.call _) rfl (guard0 rfl) (lop_func (agree hn) rfl rfl rfl) rfl (hiy _) ?_
      refine AS.w hn rfl (.assign _) rfl (guard0 rfl) (lop_assign (agree hn) rfl) rfl ?_
      refine AS.w hn rfl (.assign _) rfl (guard0 rfl) (lop_assign (agree hn) rfl) rfl ?_
      refine AS.nil ?_
      refine TC.seq ?_
      refine TC.seq ?_
      refine TC.region (id := 8) ?_
      refine TO.w hn (.move _) rfl (guard0 rfl) (lop_move (agree hn) rfl) rfl ?_
      refine TO.w hn (.binOp _ _ _ _ _) rfl (guard0 rfl) (lop_binT (agree hn) rfl rfl rfl (by exact decide_eq_true (by omega))) rfl ?_
      refine TO.w hn (.move _) rfl (guard0 rfl) (lop_move (agree hn) rfl) rfl ?_
      refine TO.woff hn (guardOff (agree hn) rfl rfl rfl rfl) rfl ?_
      refine TO.woff hn (guardOff (agree hn) rfl rfl rfl rfl) rfl ?_
      refine TO.w hn (.pick _ _ _) rfl (guard0 rfl) (lop_pickT (agree hn) rfl rfl rfl) rfl ?_
      refine TO.nil ?_
      refine TC.condT (agree hn) rfl rfl ?_
      refine TC.seq ?_
      refine TC.region (id := 9) ?_
      refine TO.w hn (.assign _) rfl (guard0 rfl) (lop_assign (agree hn) rfl) rfl ?_
      refine TO.w hn (.assign _) rfl (guard0 rfl) (lop_assign (agree hn) rfl) rfl ?_
      refine TO.nil ?_
      refine TC.ret ?_
      refine ⟨trivial, _, lresT (agree hn) rfl rfl, ?_, hle⟩
      rw [unhexV, hu]; rfl
  · rw [List.drop_eq_nil_of_le (by omega), unhexL] at hu
    refine TC.seq ?_
    refine TC.seq ?_
    refine TC.region (id := 5) ?_
    refine TO.w hn (.move _) rfl (guard0 rfl) (lop_move (agree hn) rfl) rfl ?_
    refine TO.w hn (.move _) rfl (guard0 rfl) (lop_move (agree hn) rfl) rfl ?_
    refine TO.w hn (.call _) rfl (guard0 rfl) (lop_built (agree hn) rfl rfl (lbuiltin_lenS rfl)) rfl ?_
    refine TO.w hn (.binOp _ _ _ _ _) rfl (guard0 rfl) (lop_binF (agree hn) rfl rfl rfl (by exact decide_eq_false (by omega))) rfl ?_
    refine TO.nil ?_
    refine TC.condF (agree hn) rfl rfl ?_
    refine TC.exit ?_
    refine TC.seq ?_
    refine TC.region (id := 11) ?_
    refine TO.w hn (.move _) rfl (guard0 rfl) (lop_move (agree hn) rfl) rfl ?_
    refine TO.w hn (.convert _ _ _) rfl (guard0 rfl) (lop_convBS (agree hn) rfl rfl rfl rfl (by assumption) (by omega)) rfl ?_
    refine TO.w hn (.assign _) rfl (guard0 rfl) (lop_assign (agree hn) rfl) rfl ?_
    refine TO.w hn (.assign _) rfl (guard0 rfl) (lop_assign (agree hn) rfl) rfl ?_
    refine TO.nil ?_
    refine TC.ret ?_
    refine ⟨trivial, _, lresT (agree hn) rfl rfl, ?_, hle⟩
    rw [unhexV, hu, List.drop_zero, List.take_length]
    simp
end Go.Proofs.Ytbekdbehiacnkaa
