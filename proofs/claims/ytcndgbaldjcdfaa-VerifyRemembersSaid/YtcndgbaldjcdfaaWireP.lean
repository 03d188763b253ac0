/- Numbers and texts, laid. -/
import Derived.Test.YtcndgbaldjcdfaaWireT
import Derived.Test.YtcndgbaldjcdfaaLite24
namespace Go.Proofs.Ytcndgbaldjcdfaa
set_option maxHeartbeats 8000000
set_option maxRecDepth 100000
open Go Go.Lite
set_option linter.unusedSimpArgs false
set_option linter.unusedVariables false

/-- The lowest bytes of a number, the highest first. -/
def putN : Nat → Nat → List UInt8
  | 0, _ => []
  | k + 1, n => UInt8.ofNat (n / 256 ^ k) :: putN k n
theorem putN_length : ∀ k n, (putN k n).length = k
  | 0, _ => rfl
  | k + 1, n => by simp [putN, putN_length k n]
/-- How many bytes. -/
def clampN (n : Int) : Nat := if n < 1 then 1 else if 8 < n then 8 else n.toNat

theorem map_u8_append (l : List UInt8) (c : UInt8) : (l.map fun c => (c.toNat : Int)) ++ [(c.toNat : Int)] = (l ++ [c]).map fun c => (c.toNat : Int) := by simp

theorem shr_byte {v i : Nat} {z : Int} (hi : i ≤ 7) (hz : z = 8 * (i : Int)) : IntKind.u8.wrap ((v : Int).fdiv (2 ^ (min z.toNat IntKind.u64.bits))) = ((UInt8.ofNat (v / 256 ^ i)).toNat : Int) := by
  subst hz
  have e1 : min (8 * (i : Int)).toNat IntKind.u64.bits = 8 * i := by
    have : (8 * (i : Int)).toNat = 8 * i := by omega
    rw [this]
    simp only [IntKind.bits]
    omega
  have e2 : ((2 : Int) ^ (8 * i)) = ((256 ^ i : Nat) : Int) := by
    rw [Int.pow_mul]
    norm_cast
  rw [e1, e2, Int.fdiv_eq_ediv_of_nonneg _ (Int.natCast_nonneg _)]
  simp only [IntKind.wrap, IntKind.bits, IntKind.signed, Bool.false_and, Bool.false_eq_true, if_false]
  norm_cast
theorem putNumber_CF {H : Hp} {b : List UInt8} {n : Int} {v : Nat} (hb : b.length ≤ 70368744177664) (hv : v < 18446744073709551616) : CF Try.prog 33 [S b, .int .i64 n, .int .u64 (v : Nat)] H fun u H' => u = S (b ++ putN (clampN n) v) ∧ H' = H := by
  refine CF.forget ((?_ : CF _ _ _ _ fun u H' => u = S (b ++ putN (clampN n) v) ∧ H.le H').mono fun u H' h => ⟨⟨h.1, by rw [h.1]; rfl⟩, h.2⟩)
  refine CF.wf fun hw => ?_
  refine CF.go _ Try.func33 rfl ⟨Nat.le_of_ble_eq_true rfl, rfl⟩ fun base hb0 hn => ?_
  subst hb0
  refine TC.seq ?_
  refine TC.region (id := 0) ?_
  refine TO.w hn (.assign _) rfl (guard0 rfl) (lop_assign (agree hn) rfl) rfl ?_
  refine TO.nil ?_
  refine TC.seq ?_
  refine TC.region (id := 1) ?_
  refine TO.w hn (.move _) rfl (guard0 rfl) (lop_move (agree hn) rfl) rfl ?_
  refine TO.w hn (.convert _ _ _) rfl (guard0 rfl) (lop_convSB (agree hn) rfl rfl rfl rfl) rfl ?_
  refine TO.w hn (.assign _) rfl (guard0 rfl) (lop_assign (agree hn) rfl) rfl ?_
  refine TO.nil ?_
  refine TC.seq ?_
  refine TC.seq ?_
  refine TC.region (id := 2) ?_
  refine TO.w hn (.move _) rfl (guard0 rfl) (lop_move (agree hn) rfl) rfl ?_
  refine TO.w hn (.call _) rfl (guard0 rfl) (lop_built (agree hn) rfl rfl rfl) rfl ?_
  refine TO.w hn (.call _) rfl (guard0 rfl) (lop_built (agree hn) rfl rfl rfl) rfl ?_
  refine TO.w hn (.binOp _ _ _ _ _) rfl (guard0 rfl) (lop_binI (agree hn) rfl rfl rfl rfl (by omega) (by omega)) rfl ?_
  refine TO.w hn (.assign _) rfl (guard0 rfl) (lop_assign (agree hn) rfl) rfl ?_
  refine TO.nil ?_
  refine TC.block ?_
  have hk1 : clampN n ≤ 8 := by
    unfold clampN
    split
    · omega
    · split <;> omega
  have hk2 : (if (8 : Int) < if 1 > n then 1 else n then 8 else if 1 > n then 1 else n) - 1 = (clampN n : Nat) - (1 : Int) := by
    unfold clampN
    split <;> split <;> (try split) <;> omega
  generalize hk : clampN n = k at *
  refine TC.loopI (fun i fr H' => ∃ (xs : List UInt8) (ob c : Nat), xs ++ putN i v = b ++ putN k v ∧ xs.length ≤ b.length + 8 ∧ i ≤ 8 ∧ fr.length = 29 ∧ Facts fr [(2, .int .u64 (v : Nat)), (7, .slice (some ⟨ob, 0, none⟩) xs.length c), (8, .int .i64 ((i : Nat) - (1 : Int)))] ∧ H'.f ob = some (.ints true .u8 (xs.map fun c => (c.toNat : Int))) ∧ H.le H' ∧ H.n ≤ ob) k
    ⟨b, H.n, _, rfl, by omega, hk1, (mkF_length _ _).trans hn, Facts.of (agree hn) ⟨rfl, rfl, congrArg (fun z => some (Value.int IntKind.i64 z)) hk2, trivial⟩, new_self _ _, Hp.le.new _ hw, Nat.le_refl _⟩ ?_
  rintro i fr H' ⟨xs, ob, c, hx, hxl, hi8, hn, hf, hob, hle, hge⟩
  refine TC.wf fun hw' => ?_
  have hlt := hw' _ _ hob
  refine TC.facts _ hf ?_
  cases i with
  | zero =>
    have hx : xs = b ++ putN k v := by simpa [putN] using hx
    refine TC.seq ?_
    refine TC.seq ?_
    refine TC.region (id := 3) ?_
    refine TO.w hn (.move _) rfl (guard0 rfl) (lop_move (agree hn) rfl) rfl ?_
    refine TO.w hn (.binOp _ _ _ _ _) rfl (guard0 rfl) (lop_binF (agree hn) rfl rfl rfl (by exact decide_eq_false (by omega))) rfl ?_
    refine TO.nil ?_
    refine TC.condF (agree hn) rfl rfl ?_
    refine TC.exit ?_
    refine TC.seq ?_
    refine TC.region (id := 6) ?_
    refine TO.w hn (.move _) rfl (guard0 rfl) (lop_move (agree hn) rfl) rfl ?_
    refine TO.w hn (.convert _ _ _) rfl (guard0 rfl) (lop_convBS (agree hn) rfl rfl rfl rfl (by assumption) (by omega)) rfl ?_
    refine TO.w hn (.assign _) rfl (guard0 rfl) (lop_assign (agree hn) rfl) rfl ?_
    refine TO.nil ?_
    refine TC.ret ?_
    refine ⟨trivial, _, lres1 (agree hn) rfl, ?_, hle⟩
    rw [← hx, List.drop_zero, List.take_length]
  | succ i =>
    have hlen := congrArg List.length hx
    simp only [List.length_append, putN_length] at hlen
    refine TC.seq ?_
    refine TC.seq ?_
    refine TC.region (id := 3) ?_
    refine TO.w hn (.move _) rfl (guard0 rfl) (lop_move (agree hn) rfl) rfl ?_
    refine TO.w hn (.binOp _ _ _ _ _) rfl (guard0 rfl) (lop_binT (agree hn) rfl rfl rfl (by exact decide_eq_true (by omega))) rfl ?_
    refine TO.nil ?_
    refine TC.condT (agree hn) rfl rfl ?_
    refine TC.skip ?_
    refine TC.seq ?_
    refine TC.block ?_
    refine TC.region (id := 5) ?_
    refine TO.w hn (.move _) rfl (guard0 rfl) (lop_move (agree hn) rfl) rfl ?_
    refine TO.w hn (.move _) rfl (guard0 rfl) (lop_move (agree hn) rfl) rfl ?_
    refine TO.w hn (.move _) rfl (guard0 rfl) (lop_move (agree hn) rfl) rfl ?_
    refine TO.w hn (.binOp _ _ _ _ _) rfl (guard0 rfl) (lop_binI (agree hn) rfl rfl rfl rfl (by omega) (by omega)) rfl ?_
    refine TO.w hn (.binOp _ _ _ _ _) rfl (guard0 rfl) (lop_shr (agree hn) rfl rfl (by omega)) rfl ?_
    refine TO.w hn (.convert _ _ _) rfl (guard0 rfl) (lop_conv (agree hn) rfl rfl) rfl ?_
    refine TO.w hn (.buildSlice _ _ _) rfl (guard0 rfl) (lop_bslice (agree hn) rfl (lbuildSlice_1 rfl)) rfl ?_
    refine TO.w hn (.call _) rfl (guard0 rfl) (lop_built (agree hn) rfl rfl (lappend_bytes rfl rfl (by (repeat (first | exact new_self _ _ | exact set_self _ _ _ | exact move_self _ _ _ | assumption | refine (set_other _ (by first | assumption | omega | (simp only [new_n, set_n, move_n] at *; omega))).trans ?_ | refine (new_other _ (by first | assumption | omega | (simp only [new_n, set_n, move_n] at *; omega))).trans ?_ | refine (move_other _ (by first | assumption | omega | (simp only [new_n, set_n, move_n] at *; omega)) (by first | assumption | omega | (simp only [new_n, set_n, move_n] at *; omega))).trans ?_ | refine Hp.le.fe (by assumption) ?_ rfl))) (by (simp only [List.length_append, List.length_take, List.length_drop, List.length_map, List.length_cons, List.length_nil, List.length_singleton, List.length_replicate, putN_length] <;> fail)) (by exact new_self _ _) (by (simp only [List.length_append, List.length_take, List.length_drop, List.length_map, List.length_cons, List.length_nil, List.length_singleton, List.length_replicate, putN_length]; omega)) (by omega))) rfl ?_
    refine TO.w hn (.assign _) rfl (guard0 rfl) (lop_assign (agree hn) rfl) rfl ?_
    refine TO.nil ?_
    refine TC.region (id := 4) ?_
    refine TO.w hn (.move _) rfl (guard0 rfl) (lop_move (agree hn) rfl) rfl ?_
    refine TO.w hn (.binOp _ _ _ _ _) rfl (guard0 rfl) (lop_binI (agree hn) rfl rfl rfl rfl (by omega) (by omega)) rfl ?_
    refine TO.w hn (.assign _) rfl (guard0 rfl) (lop_assign (agree hn) rfl) rfl ?_
    refine TO.nil ?_
    have hbyte := shr_byte (v := v) (i := i) (z := 8 * (((i + 1 : Nat) : Int) - 1)) (by omega) (by omega)
    refine ⟨i, by omega, xs ++ [UInt8.ofNat (v / 256 ^ i)], H'.n + 1, xs.length + 1, ?_, ?_, by omega, (mkF_length _ _).trans hn, Facts.of (agree hn) ⟨rfl, ?_, ?_, trivial⟩, ?_, (hle.new' hw _).move' hw hge _, ?_⟩
    · rw [List.append_assoc]; exact hx
    · rw [List.length_append, List.length_singleton]; omega
    · rw [List.length_append, List.length_singleton]; rfl
    · exact congrArg (fun z => some (Value.int IntKind.i64 z)) (by omega)
    · refine (move_self _ _ _).trans ?_
      rw [hbyte, List.map_append]
      rfl
    · have := hle.n
      omega

theorem putText_CF {H : Hp} {b s : List UInt8} (hb : b.length ≤ 70368744177664) (hs : s.length ≤ 70368744177664) : CF Try.prog 34 [S b, S s] H fun u H' => u = S (b ++ putN 4 s.length ++ s) ∧ H' = H := by
  refine CF.go _ Try.func34 rfl ⟨Nat.le_of_ble_eq_true rfl, rfl⟩ fun base hb0 hn => ?_
  subst hb0
  have h1 := putNumber_CF (H := H) (b := b) (n := 4) (v := s.length) hb (by omega)
  rw [show clampN 4 = 4 from rfl] at h1
  refine TC.seq ?_
  refine TC.region (id := 0) ?_
  refine TO.w hn (.assign _) rfl (guard0 rfl) (lop_assign (agree hn) rfl) rfl ?_
  refine TO.nil ?_
  refine TC.seq ?_
  refine TC.region (id := 1) ?_
  refine TO.w hn (.move _) rfl (guard0 rfl) (lop_move (agree hn) rfl) rfl ?_
  refine TO.w hn (.move _) rfl (guard0 rfl) (lop_move (agree hn) rfl) rfl ?_
  refine TO.w hn (.call _) rfl (guard0 rfl) (lop_built (agree hn) rfl rfl (lbuiltin_lenS rfl)) rfl ?_
  refine TO.w hn (.convert _ _ _) rfl (guard0 rfl) (lop_convI (agree hn) rfl rfl rfl (by omega) (by omega)) rfl ?_
  (refine TO.wc hn (.call _) rfl (guard0 rfl) (lop_func (agree hn) rfl rfl rfl) rfl (CF.co noOwn rfl rfl h1) (fun v H2 hR => ?_); (obtain ⟨rfl, e2⟩ := hR; cases e2.symm))
  refine TO.w hn (.move _) rfl (guard0 rfl) (lop_move (agree hn) rfl) rfl ?_
  refine TO.w hn (.binOp _ _ _ _ _) rfl (guard0 rfl) (lop_cat (agree hn) rfl rfl (by (simp only [List.length_append, List.length_take, List.length_drop, List.length_map, List.length_cons, List.length_nil, List.length_singleton, List.length_replicate, putN_length]; omega))) rfl ?_
  refine TO.w hn (.assign _) rfl (guard0 rfl) (lop_assign (agree hn) rfl) rfl ?_
  refine TO.nil ?_
  refine TC.ret ?_
  exact ⟨trivial, _, lres1 (agree hn) rfl, rfl, rfl⟩
end Go.Proofs.Ytcndgbaldjcdfaa
