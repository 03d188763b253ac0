/- Bytes as digits, and digits as bytes. -/
import Derived.Test.YtbekdbehiacnkaaWireW
import Derived.Test.YtbekdbehiacnkaaLite27
namespace Go.Proofs.Ytbekdbehiacnkaa
open Go Go.Lite
set_option linter.unusedSimpArgs false
set_option linter.unusedVariables false
set_option maxHeartbeats 4000000

def digitsL : List UInt8 := [48, 49, 50, 51, 52, 53, 54, 55, 56, 57, 97, 98, 99, 100, 101, 102]
def hexd (n : Nat) : UInt8 := if n < 10 then UInt8.ofNat (48 + n) else UInt8.ofNat (87 + n)
theorem digits_at : ∀ n : Nat, n < 16 → digitsL[n]? = some (hexd n) := by decide
theorem digits_atI {n : Int} (h0 : 0 ≤ n) (h : n < 16) : digitsL[n.toNat]? = some (hexd n.toNat) := digits_at _ (by omega)
def hexL (l : List UInt8) : List UInt8 := l.flatMap fun c => [hexd (c.toNat / 16), hexd (c.toNat % 16)]
theorem hexL_snoc (l : List UInt8) (c : UInt8) : hexL (l ++ [c]) = hexL l ++ [hexd (c.toNat / 16), hexd (c.toNat % 16)] := by simp [hexL]
theorem hexL_length : ∀ l : List UInt8, (hexL l).length = 2 * l.length
  | [] => rfl
  | c :: l => by
    have := hexL_length l
    simp only [hexL, List.flatMap_cons, List.length_append, List.length_cons, List.length_nil] at this ⊢
    omega
/-- What a slice of bytes holds: nothing yet, or a block of its own, behind what was there. -/
def Bs (A H : Hp) (v : Value) (xs : List UInt8) : Prop := (v = .slice none 0 0 ∧ xs = []) ∨ ∃ b c, v = .slice (some ⟨b, 0, none⟩) xs.length c ∧ H.f b = some (.ints true .u8 (xs.map fun c => (c.toNat : Int))) ∧ A.n ≤ b

theorem hex_CF {H : Hp} {l : List UInt8} (hl : l.length ≤ 35184372088832) : CF Try.prog 25 [S l] H fun v H' => v = S (hexL l) ∧ H' = H := by
  refine CF.forget ((?_ : CF _ _ _ _ fun u H' => u = S (hexL l) ∧ H.le H').mono fun u H' h => ⟨⟨h.1, by rw [h.1]; rfl⟩, h.2⟩)
  refine CF.wf fun hw => ?_
  refine CF.go _ Try.func25 rfl ⟨Nat.le_of_ble_eq_true rfl, rfl⟩ fun base hb0 hn => ?_
  subst hb0
  refine TC.seq ?_
  refine TC.region (id := 0) ?_
  refine TO.w hn (.assign _) rfl (guard0 rfl) (lop_assign (agree hn) rfl) rfl ?_
  refine TO.nil ?_
  refine TC.seq ?_
  refine TC.region (id := 1) ?_
  refine TO.w hn (.move _) rfl (guard0 rfl) (lop_move (agree hn) rfl) rfl ?_
  refine TO.w hn (.call _) rfl (guard0 rfl) (lop_built (agree hn) rfl rfl (lbuiltin_lenS rfl)) rfl ?_
  refine TO.w hn (.binOp _ _ _ _ _) rfl (guard0 rfl) (lop_binI (agree hn) rfl rfl rfl rfl (by omega) (by omega)) rfl ?_
  refine TO.w hn (.makeSlice _ _ _) rfl (guard0 rfl) (lop_mkB (agree hn) rfl rfl rfl (by omega) (by omega) (by omega)) rfl ?_
  refine TO.w hn (.assign _) rfl (guard0 rfl) (lop_assign (agree hn) rfl) rfl ?_
  refine TO.nil ?_
  refine TC.seq ?_
  refine TC.seq ?_
  refine TC.region (id := 2) ?_
  refine TO.w hn (.move _) rfl (guard0 rfl) (lop_move (agree hn) rfl) rfl ?_
  refine TO.w hn (.call _) rfl (guard0 rfl) (lop_built (agree hn) rfl rfl (lbuiltin_lenS rfl)) rfl ?_
  refine TO.w hn (.move _) rfl (guard0 rfl) (lop_move (agree hn) rfl) rfl ?_
  refine TO.nil ?_
  refine TC.block ?_
  refine TC.loopI (fun m fr H' => ∃ (i ob c : Nat), m + i = l.length ∧ fr.length = 30 ∧ Facts fr [(0, S l), (3, .slice (some ⟨ob, 0, none⟩) (hexL (l.take i)).length c), (10, .int .i64 l.length), (11, .int .i64 (i : Nat))] ∧ H'.f ob = some (.ints true .u8 ((hexL (l.take i)).map fun c => (c.toNat : Int))) ∧ H.le H' ∧ H.n ≤ ob) l.length
    ⟨0, H.n, _, by omega, (mkF_length _ _).trans hn, Facts.of (agree hn) ⟨rfl, rfl, rfl, rfl, trivial⟩, new_self _ _, Hp.le.new _ hw, Nat.le_refl _⟩ ?_
  clear hn
  rintro m fr H' ⟨i, ob, c, hi, hn, hf, hob, hle, hge⟩
  refine TC.wf fun hw' => ?_
  have hlt := hw' _ _ hob
  refine TC.facts _ hf ?_
  by_cases h : i < l.length
  · obtain ⟨x, hc⟩ : ∃ x, l[i]? = some x := ⟨l[i], List.getElem?_eq_getElem h⟩
    have hx := x.toNat_lt
    have d1 := digits_atI (n := (x.toNat : Int) / 16) (by omega) (by omega)
    have d2 := digits_atI (n := (x.toNat : Int) % 16) (by omega) (by omega)
    have hsn := hexL_snoc (l.take i) x
    rw [← take_succ' hc] at hsn
    have hlen := hexL_length (l.take i)
    rw [List.length_take] at hlen
    generalize hexL (l.take i) = xs at *
    refine TC.seq ?_
    refine TC.region (id := 3) ?_
    refine TO.w hn (.binOp _ _ _ _ _) rfl (guard0 rfl) (lop_binT (agree hn) rfl rfl rfl (by exact decide_eq_true (by omega))) rfl ?_
    refine TO.nil ?_
    refine TC.seq ?_
    refine TC.condT (agree hn) rfl rfl ?_
    refine TC.skip ?_
    refine TC.seq ?_
    refine TC.block ?_
    refine TC.seq ?_
    refine TC.region (id := 4) ?_
    refine TO.w hn (.move _) rfl (guard0 rfl) (lop_move (agree hn) rfl) rfl ?_
    refine TO.w hn (.assign _) rfl (guard0 rfl) (lop_assign (agree hn) rfl) rfl ?_
    refine TO.nil ?_
    refine TC.drawnSeq (id := 5) [(0, false), (1, false), (2, false), (3, false), (4, false), (5, false), (6, false), (7, false), (8, false), (9, false), (10, false), (11, false), (12, false), (13, false)] rfl (by kernel_rfl) ?_
    refine AS.w hn rfl (.move _) rfl (guard0 rfl) (lop_move (agree hn) rfl) rfl ?_
    refine AS.w hn rfl (.move _) rfl (guard0 rfl) (lop_move (agree hn) rfl) rfl ?_
    refine AS.w hn rfl (.move _) rfl (guard0 rfl) (lop_move (agree hn) rfl) rfl ?_
    refine AS.w hn rfl (.index _ _ _) rfl (guard0 rfl) (lop_ixS (agree hn) rfl rfl rfl (by omega) (by assumption)) rfl ?_
    refine AS.w hn rfl (.binOp _ _ _ _ _) rfl (guard0 rfl) (lop_shrP (agree hn) rfl rfl rfl (by omega) (by omega)) rfl ?_
    refine AS.w hn rfl (.index _ _ _) rfl (guard0 rfl) (lop_ixS (agree hn) rfl rfl rfl (by omega) (by assumption)) rfl ?_
    refine AS.w hn rfl (.move _) rfl (guard0 rfl) (lop_move (agree hn) rfl) rfl ?_
    refine AS.w hn rfl (.move _) rfl (guard0 rfl) (lop_move (agree hn) rfl) rfl ?_
    refine AS.w hn rfl (.index _ _ _) rfl (guard0 rfl) (lop_ixS (agree hn) rfl rfl rfl (by omega) (by assumption)) rfl ?_
    refine AS.w hn rfl (.binOp _ _ _ _ _) rfl (guard0 rfl) (lop_andM (agree hn) rfl rfl rfl rfl rfl rfl (by omega) (by omega) (by omega)) rfl ?_
    refine AS.w hn rfl (.index _ _ _) rfl (guard0 rfl) (lop_ixS (agree hn) rfl rfl rfl (by omega) (by assumption)) rfl ?_
    refine AS.w hn rfl (.buildSlice _ _ _) rfl (guard0 rfl) (lop_bslice (agree hn) rfl (lbuildSlice_2 rfl)) rfl ?_
    refine AS.w hn rfl (.call _) rfl (guard0 rfl) (lop_built (agree hn) rfl rfl (lappend_bytes rfl rfl (by (repeat (first | exact new_self _ _ | exact set_self _ _ _ | exact move_self _ _ _ | assumption | refine (set_other _ (by first | assumption | omega | (simp only [new_n, set_n, move_n] at *; omega))).trans ?_ | refine (new_other _ (by first | assumption | omega | (simp only [new_n, set_n, move_n] at *; omega))).trans ?_ | refine (move_other _ (by first | assumption | omega | (simp only [new_n, set_n, move_n] at *; omega)) (by first | assumption | omega | (simp only [new_n, set_n, move_n] at *; omega))).trans ?_ | refine Hp.le.fe (by assumption) ?_ rfl))) (by (simp only [List.length_append, List.length_take, List.length_drop, List.length_map, List.length_cons, List.length_nil, List.length_singleton, List.length_replicate] <;> fail)) (by exact new_self _ _) (by (simp only [List.length_append, List.length_take, List.length_drop, List.length_map, List.length_cons, List.length_nil, List.length_singleton, List.length_replicate]; omega)) (by omega))) rfl ?_
    refine AS.w hn rfl (.assign _) rfl (guard0 rfl) (lop_assign (agree hn) rfl) rfl ?_
    refine AS.nil ?_
    refine TC.region (id := 6) ?_
    refine TO.w hn (.binOp _ _ _ _ _) rfl (guard0 rfl) (lop_binI (agree hn) rfl rfl rfl rfl (by omega) (by omega)) rfl ?_
    refine TO.w hn (.move _) rfl (guard0 rfl) (lop_move (agree hn) rfl) rfl ?_
    refine TO.nil ?_
    refine ⟨m - 1, by omega, i + 1, H'.n + 1, xs.length + 2, by omega, (mkF_length _ _).trans hn, Facts.of (agree hn) ⟨rfl, ?_, rfl, rfl, trivial⟩, ?_, (hle.new' hw _).move' hw hge _, ?_⟩
    · rw [hsn, List.length_append]; rfl
    · refine (move_self _ _ _).trans ?_
      rw [hsn, List.map_append]
      rfl
    · have := hle.n
      omega
  ·
    refine TC.seq ?_
    refine TC.region (id := 3) ?_
    refine TO.w hn (.binOp _ _ _ _ _) rfl (guard0 rfl) (lop_binF (agree hn) rfl rfl rfl (by exact decide_eq_false (by omega))) rfl ?_
    refine TO.nil ?_
    refine TC.seq ?_
    refine TC.condF (agree hn) rfl rfl ?_
    refine TC.exit ?_
    refine TC.seq ?_
    refine TC.region (id := 7) ?_
    refine TO.w hn (.move _) rfl (guard0 rfl) (lop_move (agree hn) rfl) rfl ?_
    refine TO.w hn (.convert _ _ _) rfl (guard0 rfl) (lop_convBS (agree hn) rfl rfl rfl rfl (by assumption) (by omega)) rfl ?_
    refine TO.w hn (.assign _) rfl (guard0 rfl) (lop_assign (agree hn) rfl) rfl ?_
    refine TO.nil ?_
    refine TC.ret ?_
    refine ⟨trivial, _, lres1 (agree hn) rfl, ?_, hle⟩
    rw [List.drop_zero, List.take_length, List.take_of_length_le (by omega)]

theorem hexR_CF {H : Hp} {l : List UInt8} (hl : l.length ≤ 35184372088832) : CF Try.prog 26 [S l] H fun v H' => v = S (hexL l) ∧ H' = H := by
  refine CF.forget ((?_ : CF _ _ _ _ fun u H' => u = S (hexL l) ∧ H.le H').mono fun u H' h => ⟨⟨h.1, by rw [h.1]; rfl⟩, h.2⟩)
  refine CF.wf fun hw => ?_
  refine CF.go _ Try.func26 rfl ⟨Nat.le_of_ble_eq_true rfl, rfl⟩ fun base hb0 hn => ?_
  subst hb0
  refine TC.seq ?_
  refine TC.region (id := 0) ?_
  refine TO.w hn (.assign _) rfl (guard0 rfl) (lop_assign (agree hn) rfl) rfl ?_
  refine TO.nil ?_
  refine TC.seq ?_
  refine TC.region (id := 1) ?_
  refine TO.w hn (.assign _) rfl (guard0 rfl) (lop_assign (agree hn) rfl) rfl ?_
  refine TO.nil ?_
  refine TC.seq ?_
  refine TC.seq ?_
  refine TC.region (id := 2) ?_
  refine TO.w hn (.assign _) rfl (guard0 rfl) (lop_assign (agree hn) rfl) rfl ?_
  refine TO.nil ?_
  refine TC.block ?_
  refine TC.loopI (fun m fr H' => ∃ (i : Nat) (w : Value), m + i = l.length ∧ fr.length = 26 ∧ Facts fr [(0, S l), (3, w), (4, .int .i64 (i : Nat))] ∧ Bs H H' w (hexL (l.take i)) ∧ H.le H') l.length
    ⟨0, _, by omega, (mkF_length _ _).trans hn, Facts.of (agree hn) ⟨rfl, rfl, rfl, trivial⟩, .inl ⟨rfl, rfl⟩, Hp.le.refl H⟩ ?_
  clear hn
  rintro m fr H' ⟨i, w, hi, hn, hf, hB, hle⟩
  refine TC.wf fun hw' => ?_
  by_cases h : i < l.length
  · obtain ⟨x, hc⟩ : ∃ x, l[i]? = some x := ⟨l[i], List.getElem?_eq_getElem h⟩
    have hx := x.toNat_lt
    have d1 := digits_atI (n := (x.toNat : Int) / 16) (by omega) (by omega)
    have d2 := digits_atI (n := (x.toNat : Int) % 16) (by omega) (by omega)
    have hsn := hexL_snoc (l.take i) x
    rw [← take_succ' hc] at hsn
    have hlen := hexL_length (l.take i)
    rw [List.length_take] at hlen
    generalize hexL (l.take i) = xs at *
    rcases hB with ⟨rfl, rfl⟩ | ⟨ob, c, rfl, hob, hge⟩
    · refine TC.facts _ hf ?_
      refine TC.seq ?_
      refine TC.seq ?_
      refine TC.region (id := 3) ?_
      refine TO.w hn (.move _) rfl (guard0 rfl) (lop_move (agree hn) rfl) rfl ?_
      refine TO.w hn (.move _) rfl (guard0 rfl) (lop_move (agree hn) rfl) rfl ?_
      refine TO.w hn (.call _) rfl (guard0 rfl) (lop_built (agree hn) rfl rfl (lbuiltin_lenS rfl)) rfl ?_
      refine TO.w hn (.binOp _ _ _ _ _) rfl (guard0 rfl) (lop_binT (agree hn) rfl rfl rfl (by exact decide_eq_true (by omega))) rfl ?_
      refine TO.nil ?_
      refine TC.condT (agree hn) rfl rfl ?_
      refine TC.skip ?_
      refine TC.seq ?_
      refine TC.block ?_
      refine TC.drawnSeq (id := 5) [(0, false), (1, false), (2, false), (3, false), (4, false), (5, false), (6, false), (7, false), (8, false), (9, false), (10, false), (11, false), (12, false), (13, false)] rfl (by kernel_rfl) ?_
      refine AS.w hn rfl (.move _) rfl (guard0 rfl) (lop_move (agree hn) rfl) rfl ?_
      refine AS.w hn rfl (.move _) rfl (guard0 rfl) (lop_move (agree hn) rfl) rfl ?_
      refine AS.w hn rfl (.move _) rfl (guard0 rfl) (lop_move (agree hn) rfl) rfl ?_
      refine AS.w hn rfl (.index _ _ _) rfl (guard0 rfl) (lop_ixS (agree hn) rfl rfl rfl (by omega) (by assumption)) rfl ?_
      refine AS.w hn rfl (.binOp _ _ _ _ _) rfl (guard0 rfl) (lop_quoP (agree hn) rfl rfl (by omega) (by omega) rfl (by omega) (by omega)) rfl ?_
      refine AS.w hn rfl (.index _ _ _) rfl (guard0 rfl) (lop_ixS (agree hn) rfl rfl rfl (by omega) (by assumption)) rfl ?_
      refine AS.w hn rfl (.move _) rfl (guard0 rfl) (lop_move (agree hn) rfl) rfl ?_
      refine AS.w hn rfl (.move _) rfl (guard0 rfl) (lop_move (agree hn) rfl) rfl ?_
      refine AS.w hn rfl (.index _ _ _) rfl (guard0 rfl) (lop_ixS (agree hn) rfl rfl rfl (by omega) (by assumption)) rfl ?_
      refine AS.w hn rfl (.binOp _ _ _ _ _) rfl (guard0 rfl) (lop_remP (agree hn) rfl rfl (by omega) (by omega)) rfl ?_
      refine AS.w hn rfl (.index _ _ _) rfl (guard0 rfl) (lop_ixS (agree hn) rfl rfl rfl (by omega) (by assumption)) rfl ?_
      refine AS.w hn rfl (.buildSlice _ _ _) rfl (guard0 rfl) (lop_bslice (agree hn) rfl (lbuildSlice_2 rfl)) rfl ?_
      refine AS.w hn rfl (.call _) rfl (guard0 rfl) (lop_built (agree hn) rfl rfl (lappend_bytes0 rfl rfl (by exact new_self _ _) (by (simp only [List.length_append, List.length_take, List.length_drop, List.length_map, List.length_cons, List.length_nil, List.length_singleton, List.length_replicate]; omega)) (by omega) (by omega))) rfl ?_
      refine AS.w hn rfl (.assign _) rfl (guard0 rfl) (lop_assign (agree hn) rfl) rfl ?_
      refine AS.nil ?_
      refine TC.region (id := 4) ?_
      refine TO.w hn (.move _) rfl (guard0 rfl) (lop_move (agree hn) rfl) rfl ?_
      refine TO.w hn (.binOp _ _ _ _ _) rfl (guard0 rfl) (lop_binI (agree hn) rfl rfl rfl rfl (by omega) (by omega)) rfl ?_
      refine TO.w hn (.assign _) rfl (guard0 rfl) (lop_assign (agree hn) rfl) rfl ?_
      refine TO.nil ?_
      refine ⟨m - 1, by omega, i + 1, _, by omega, (mkF_length _ _).trans hn, Facts.of (agree hn) ⟨rfl, rfl, rfl, trivial⟩, .inr ⟨H'.n + 1, 2, ?_, ?_, ?_⟩, (hle.new' hw _).new' hw _⟩
      · rw [hsn]; rfl
      · refine (new_self _ _).trans ?_
        rw [hsn]; rfl
      · have := hle.n
        omega
    · have hlt := hw' _ _ hob
      refine TC.facts _ hf ?_
      refine TC.seq ?_
      refine TC.seq ?_
      refine TC.region (id := 3) ?_
      refine TO.w hn (.move _) rfl (guard0 rfl) (lop_move (agree hn) rfl) rfl ?_
      refine TO.w hn (.move _) rfl (guard0 rfl) (lop_move (agree hn) rfl) rfl ?_
      refine TO.w hn (.call _) rfl (guard0 rfl) (lop_built (agree hn) rfl rfl (lbuiltin_lenS rfl)) rfl ?_
      refine TO.w hn (.binOp _ _ _ _ _) rfl (guard0 rfl) (lop_binT (agree hn) rfl rfl rfl (by exact decide_eq_true (by omega))) rfl ?_
      refine TO.nil ?_
      refine TC.condT (agree hn) rfl rfl ?_
      refine TC.skip ?_
      refine TC.seq ?_
      refine TC.block ?_
      refine TC.drawnSeq (id := 5) [(0, false), (1, false), (2, false), (3, false), (4, false), (5, false), (6, false), (7, false), (8, false), (9, false), (10, false), (11, false), (12, false), (13, false)] rfl (by kernel_rfl) ?_
      refine AS.w hn rfl (.move _) rfl (guard0 rfl) (lop_move (agree hn) rfl) rfl ?_
      refine AS.w hn rfl (.move _) rfl (guard0 rfl) (lop_move (agree hn) rfl) rfl ?_
      refine AS.w hn rfl (.move _) rfl (guard0 rfl) (lop_move (agree hn) rfl) rfl ?_
      refine AS.w hn rfl (.index _ _ _) rfl (guard0 rfl) (lop_ixS (agree hn) rfl rfl rfl (by omega) (by assumption)) rfl ?_
      refine AS.w hn rfl (.binOp _ _ _ _ _) rfl (guard0 rfl) (lop_quoP (agree hn) rfl rfl (by omega) (by omega) rfl (by omega) (by omega)) rfl ?_
      refine AS.w hn rfl (.index _ _ _) rfl (guard0 rfl) (lop_ixS (agree hn) rfl rfl rfl (by omega) (by assumption)) rfl ?_
      refine AS.w hn rfl (.move _) rfl (guard0 rfl) (lop_move (agree hn) rfl) rfl ?_
      refine AS.w hn rfl (.move _) rfl (guard0 rfl) (lop_move (agree hn) rfl) rfl ?_
      refine AS.w hn rfl (.index _ _ _) rfl (guard0 rfl) (lop_ixS (agree hn) rfl rfl rfl (by omega) (by assumption)) rfl ?_
      refine AS.w hn rfl (.binOp _ _ _ _ _) rfl (guard0 rfl) (lop_remP (agree hn) rfl rfl (by omega) (by omega)) rfl ?_
      refine AS.w hn rfl (.index _ _ _) rfl (guard0 rfl) (lop_ixS (agree hn) rfl rfl rfl (by omega) (by assumption)) rfl ?_
      refine AS.w hn rfl (.buildSlice _ _ _) rfl (guard0 rfl) (lop_bslice (agree hn) rfl (lbuildSlice_2 rfl)) rfl ?_
      refine AS.w hn rfl (.call _) rfl (guard0 rfl) (lop_built (agree hn) rfl rfl (lappend_bytes rfl rfl (by (repeat (first | exact new_self _ _ | exact set_self _ _ _ | exact move_self _ _ _ | assumption | refine (set_other _ (by first | assumption | omega | (simp only [new_n, set_n, move_n] at *; omega))).trans ?_ | refine (new_other _ (by first | assumption | omega | (simp only [new_n, set_n, move_n] at *; omega))).trans ?_ | refine (move_other _ (by first | assumption | omega | (simp only [new_n, set_n, move_n] at *; omega)) (by first | assumption | omega | (simp only [new_n, set_n, move_n] at *; omega))).trans ?_ | refine Hp.le.fe (by assumption) ?_ rfl))) (by (simp only [List.length_append, List.length_take, List.length_drop, List.length_map, List.length_cons, List.length_nil, List.length_singleton, List.length_replicate] <;> fail)) (by exact new_self _ _) (by (simp only [List.length_append, List.length_take, List.length_drop, List.length_map, List.length_cons, List.length_nil, List.length_singleton, List.length_replicate]; omega)) (by omega))) rfl ?_
      refine AS.w hn rfl (.assign _) rfl (guard0 rfl) (lop_assign (agree hn) rfl) rfl ?_
      refine AS.nil ?_
      refine TC.region (id := 4) ?_
      refine TO.w hn (.move _) rfl (guard0 rfl) (lop_move (agree hn) rfl) rfl ?_
      refine TO.w hn (.binOp _ _ _ _ _) rfl (guard0 rfl) (lop_binI (agree hn) rfl rfl rfl rfl (by omega) (by omega)) rfl ?_
      refine TO.w hn (.assign _) rfl (guard0 rfl) (lop_assign (agree hn) rfl) rfl ?_
      refine TO.nil ?_
      refine ⟨m - 1, by omega, i + 1, _, by omega, (mkF_length _ _).trans hn, Facts.of (agree hn) ⟨rfl, rfl, rfl, trivial⟩, .inr ⟨H'.n + 1, xs.length + 2, ?_, ?_, ?_⟩, (hle.new' hw _).move' hw hge _⟩
      · rw [hsn, List.length_append]; rfl
      · refine (move_self _ _ _).trans ?_
        rw [hsn, List.map_append]
        rfl
      · have := hle.n
        omega
  · rw [List.take_of_length_le (by omega)] at hB
    rcases hB with ⟨rfl, he⟩ | ⟨ob, c, rfl, hob, hge⟩
    · refine TC.facts _ hf ?_
      refine TC.seq ?_
      refine TC.seq ?_
      refine TC.region (id := 3) ?_
      refine TO.w hn (.move _) rfl (guard0 rfl) (lop_move (agree hn) rfl) rfl ?_
      refine TO.w hn (.move _) rfl (guard0 rfl) (lop_move (agree hn) rfl) rfl ?_
      refine TO.w hn (.call _) rfl (guard0 rfl) (lop_built (agree hn) rfl rfl (lbuiltin_lenS rfl)) rfl ?_
      refine TO.w hn (.binOp _ _ _ _ _) rfl (guard0 rfl) (lop_binF (agree hn) rfl rfl rfl (by exact decide_eq_false (by omega))) rfl ?_
      refine TO.nil ?_
      refine TC.condF (agree hn) rfl rfl ?_
      refine TC.exit ?_
      refine TC.seq ?_
      refine TC.region (id := 6) ?_
      refine TO.w hn (.move _) rfl (guard0 rfl) (lop_move (agree hn) rfl) rfl ?_
      refine TO.w hn (.convert _ _ _) rfl (guard0 rfl) (lop_convBS0 (agree hn) rfl rfl rfl rfl) rfl ?_
      refine TO.w hn (.assign _) rfl (guard0 rfl) (lop_assign (agree hn) rfl) rfl ?_
      refine TO.nil ?_
      refine TC.ret ?_
      refine ⟨trivial, _, lres1 (agree hn) rfl, ?_, hle⟩
      rw [he]
    · refine TC.facts _ hf ?_
      refine TC.seq ?_
      refine TC.seq ?_
      refine TC.region (id := 3) ?_
      refine TO.w hn (.move _) rfl (guard0 rfl) (lop_move (agree hn) rfl) rfl ?_
      refine TO.w hn (.move _) rfl (guard0 rfl) (lop_move (agree hn) rfl) rfl ?_
      refine TO.w hn (.call _) rfl (guard0 rfl) (lop_built (agree hn) rfl rfl (lbuiltin_lenS rfl)) rfl ?_
      refine TO.w hn (.binOp _ _ _ _ _) rfl (guard0 rfl) (lop_binF (agree hn) rfl rfl rfl (by exact decide_eq_false (by omega))) rfl ?_
      refine TO.nil ?_
      refine TC.condF (agree hn) rfl rfl ?_
      refine TC.exit ?_
      refine TC.seq ?_
      refine TC.region (id := 6) ?_
      refine TO.w hn (.move _) rfl (guard0 rfl) (lop_move (agree hn) rfl) rfl ?_
      refine TO.w hn (.convert _ _ _) rfl (guard0 rfl) (lop_convBS (agree hn) rfl rfl rfl rfl (by assumption) (by omega)) rfl ?_
      refine TO.w hn (.assign _) rfl (guard0 rfl) (lop_assign (agree hn) rfl) rfl ?_
      refine TO.nil ?_
      refine TC.ret ?_
      refine ⟨trivial, _, lres1 (agree hn) rfl, ?_, hle⟩
      rw [List.drop_zero, List.take_length]

/-- A digit's number; 16: it is none. -/
def halfN (c : Nat) : Nat := if 48 ≤ c ∧ c ≤ 57 then c - 48 else if 97 ≤ c ∧ c ≤ 102 then c - 87 else 16
theorem half_CF {H : Hp} {c : UInt8} : CF Try.prog 29 [.int .u8 c.toNat] H fun v H' => v = .int .u8 (halfN c.toNat : Nat) ∧ H' = H := by
  have hc := c.toNat_lt
  refine CF.go _ Try.func29 rfl ⟨Nat.le_of_ble_eq_true rfl, rfl⟩ fun base hb0 hn => ?_
  subst hb0
  refine TC.seq ?_
  refine TC.region (id := 0) ?_
  refine TO.w hn (.assign _) rfl (guard0 rfl) (lop_assign (agree hn) rfl) rfl ?_
  refine TO.nil ?_
  refine TC.seq ?_
  refine TC.seq ?_
  refine TC.region (id := 1) ?_
  refine TO.w hn (.move _) rfl (guard0 rfl) (lop_move (agree hn) rfl) rfl ?_
  refine TO.w hn (.binOp _ _ _ _ _) rfl (guard0 rfl) (lop_bin (agree hn) rfl rfl rfl) rfl ?_
  refine TO.w hn (.move _) rfl (guard0 rfl) (lop_move (agree hn) rfl) rfl ?_
  (refine TO.splitB 5 hn rfl (fun hc => ?_) (fun hc => ?_) <;> (try simp only [decide_eq_true_eq, decide_eq_false_iff_not, beq_iff_eq, bne_iff_ne, beq_eq_false_iff_ne, bne_eq_false_iff_eq, Bool.not_eq_true', Bool.not_eq_false', Bool.not_eq_eq_eq_not, Bool.not_true, Bool.not_false, ne_eq, gt_iff_lt, ge_iff_le, Bool.and_eq_true, Bool.or_eq_true, Bool.and_eq_false_imp, Bool.or_eq_false_iff, Nat.not_lt, Nat.not_le, Int.not_lt, Int.not_le, Decidable.not_not] at hc))
  refine TO.w hn (.move _) rfl (guardOn (agree hn) rfl rfl rfl rfl) (lop_move (agree hn) rfl) rfl ?_
  refine TO.w hn (.binOp _ _ _ _ _) rfl (guardOn (agree hn) rfl rfl rfl rfl) (lop_bin (agree hn) rfl rfl rfl) rfl ?_
  refine TO.w hn (.pick _ _ _) rfl (guard0 rfl) (lop_pickT (agree hn) rfl rfl rfl) rfl ?_
  refine TO.nil ?_
  (refine TC.condE (agree hn) rfl (fun hc => ?_) (fun hc => ?_) <;> (try simp only [decide_eq_true_eq, decide_eq_false_iff_not, beq_iff_eq, bne_iff_ne, beq_eq_false_iff_ne, bne_eq_false_iff_eq, Bool.not_eq_true', Bool.not_eq_false', Bool.not_eq_eq_eq_not, Bool.not_true, Bool.not_false, ne_eq, gt_iff_lt, ge_iff_le, Bool.and_eq_true, Bool.or_eq_true, Bool.and_eq_false_imp, Bool.or_eq_false_iff, Nat.not_lt, Nat.not_le, Int.not_lt, Int.not_le, Decidable.not_not] at hc))
  refine TC.seq ?_
  refine TC.region (id := 2) ?_
  refine TO.w hn (.move _) rfl (guard0 rfl) (lop_move (agree hn) rfl) rfl ?_
  refine TO.w hn (.binOp _ _ _ _ _) rfl (guard0 rfl) (lop_binI (agree hn) rfl rfl rfl rfl (by omega) (by omega)) rfl ?_
  refine TO.w hn (.assign _) rfl (guard0 rfl) (lop_assign (agree hn) rfl) rfl ?_
  refine TO.nil ?_
  refine TC.ret ?_
  rotate_left
  refine TC.skip ?_
  refine TC.seq ?_
  refine TC.seq ?_
  refine TC.region (id := 3) ?_
  refine TO.w hn (.move _) rfl (guard0 rfl) (lop_move (agree hn) rfl) rfl ?_
  refine TO.w hn (.binOp _ _ _ _ _) rfl (guard0 rfl) (lop_bin (agree hn) rfl rfl rfl) rfl ?_
  refine TO.w hn (.move _) rfl (guard0 rfl) (lop_move (agree hn) rfl) rfl ?_
  (refine TO.splitB 13 hn rfl (fun hc => ?_) (fun hc => ?_) <;> (try simp only [decide_eq_true_eq, decide_eq_false_iff_not, beq_iff_eq, bne_iff_ne, beq_eq_false_iff_ne, bne_eq_false_iff_eq, Bool.not_eq_true', Bool.not_eq_false', Bool.not_eq_eq_eq_not, Bool.not_true, Bool.not_false, ne_eq, gt_iff_lt, ge_iff_le, Bool.and_eq_true, Bool.or_eq_true, Bool.and_eq_false_imp, Bool.or_eq_false_iff, Nat.not_lt, Nat.not_le, Int.not_lt, Int.not_le, Decidable.not_not] at hc))
  refine TO.w hn (.move _) rfl (guardOn (agree hn) rfl rfl rfl rfl) (lop_move (agree hn) rfl) rfl ?_
  refine TO.w hn (.binOp _ _ _ _ _) rfl (guardOn (agree hn) rfl rfl rfl rfl) (lop_bin (agree hn) rfl rfl rfl) rfl ?_
  refine TO.w hn (.pick _ _ _) rfl (guard0 rfl) (lop_pickT (agree hn) rfl rfl rfl) rfl ?_
  refine TO.nil ?_
  (refine TC.condE (agree hn) rfl (fun hc => ?_) (fun hc => ?_) <;> (try simp only [decide_eq_true_eq, decide_eq_false_iff_not, beq_iff_eq, bne_iff_ne, beq_eq_false_iff_ne, bne_eq_false_iff_eq, Bool.not_eq_true', Bool.not_eq_false', Bool.not_eq_eq_eq_not, Bool.not_true, Bool.not_false, ne_eq, gt_iff_lt, ge_iff_le, Bool.and_eq_true, Bool.or_eq_true, Bool.and_eq_false_imp, Bool.or_eq_false_iff, Nat.not_lt, Nat.not_le, Int.not_lt, Int.not_le, Decidable.not_not] at hc))
  refine TC.seq ?_
  refine TC.region (id := 4) ?_
  refine TO.w hn (.move _) rfl (guard0 rfl) (lop_move (agree hn) rfl) rfl ?_
  refine TO.w hn (.binOp _ _ _ _ _) rfl (guard0 rfl) (lop_binI (agree hn) rfl rfl rfl rfl (by omega) (by omega)) rfl ?_
  refine TO.w hn (.binOp _ _ _ _ _) rfl (guard0 rfl) (lop_binI (agree hn) rfl rfl rfl rfl (by omega) (by omega)) rfl ?_
  refine TO.w hn (.assign _) rfl (guard0 rfl) (lop_assign (agree hn) rfl) rfl ?_
  refine TO.nil ?_
  refine TC.ret ?_
  rotate_left
  refine TC.skip ?_
  refine TC.seq ?_
  refine TC.region (id := 5) ?_
  refine TO.w hn (.assign _) rfl (guard0 rfl) (lop_assign (agree hn) rfl) rfl ?_
  refine TO.nil ?_
  refine TC.ret ?_
  rotate_left
  refine TO.woff hn (guardOff (agree hn) rfl rfl rfl rfl) rfl ?_
  refine TO.woff hn (guardOff (agree hn) rfl rfl rfl rfl) rfl ?_
  refine TO.w hn (.pick _ _ _) rfl (guard0 rfl) (lop_pickF (agree hn) rfl rfl rfl) rfl ?_
  refine TO.nil ?_
  refine TC.condF (agree hn) rfl rfl ?_
  refine TC.skip ?_
  refine TC.seq ?_
  refine TC.region (id := 5) ?_
  refine TO.w hn (.assign _) rfl (guard0 rfl) (lop_assign (agree hn) rfl) rfl ?_
  refine TO.nil ?_
  refine TC.ret ?_
  rotate_left
  refine TO.woff hn (guardOff (agree hn) rfl rfl rfl rfl) rfl ?_
  refine TO.woff hn (guardOff (agree hn) rfl rfl rfl rfl) rfl ?_
  refine TO.w hn (.pick _ _ _) rfl (guard0 rfl) (lop_pickF (agree hn) rfl rfl rfl) rfl ?_
  refine TO.nil ?_
  refine TC.condF (agree hn) rfl rfl ?_
  refine TC.skip ?_
  refine TC.seq ?_
  refine TC.seq ?_
  refine TC.region (id := 3) ?_
  refine TO.w hn (.move _) rfl (guard0 rfl) (lop_move (agree hn) rfl) rfl ?_
  refine TO.w hn (.binOp _ _ _ _ _) rfl (guard0 rfl) (lop_binF (agree hn) rfl rfl rfl (by exact decide_eq_false (by omega))) rfl ?_
  refine TO.w hn (.move _) rfl (guard0 rfl) (lop_move (agree hn) rfl) rfl ?_
  refine TO.woff hn (guardOff (agree hn) rfl rfl rfl rfl) rfl ?_
  refine TO.woff hn (guardOff (agree hn) rfl rfl rfl rfl) rfl ?_
  refine TO.w hn (.pick _ _ _) rfl (guard0 rfl) (lop_pickF (agree hn) rfl rfl rfl) rfl ?_
  refine TO.nil ?_
  refine TC.condF (agree hn) rfl rfl ?_
  refine TC.skip ?_
  refine TC.seq ?_
  refine TC.region (id := 5) ?_
  refine TO.w hn (.assign _) rfl (guard0 rfl) (lop_assign (agree hn) rfl) rfl ?_
  refine TO.nil ?_
  refine TC.ret ?_
  rotate_left
  all_goals
    refine ⟨trivial, _, lres1 (agree hn) rfl, congrArg (Value.int IntKind.u8) ?_, rfl⟩
    unfold halfN
    (repeat' split) <;> omega
end Go.Proofs.Ytbekdbehiacnkaa
