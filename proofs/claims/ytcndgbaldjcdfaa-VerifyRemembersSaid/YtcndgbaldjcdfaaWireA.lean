/- Readers of bytes, the program's and the document's: what each call answers and leaves. -/
import Derived.Test.YtcndgbaldjcdfaaLite24
import Derived.Test.YtcndgbaldjcdfaaProg
import Derived.KernelRfl
namespace Go.Proofs.Ytcndgbaldjcdfaa
set_option maxHeartbeats 8000000
set_option maxRecDepth 100000
open Go Go.Lite
set_option linter.unusedSimpArgs false
set_option linter.unusedVariables false

/-- A number of bytes, the highest first. -/
def beN (l : List UInt8) : Nat := l.foldl (fun v c => v * 256 + c.toNat) 0
theorem beN_snoc (l : List UInt8) (c : UInt8) : beN (l ++ [c]) = beN l * 256 + c.toNat := by simp [beN]
theorem beA_lt : ∀ (l : List UInt8) (a : Nat), l.foldl (fun v c => v * 256 + c.toNat) a < (a + 1) * 256 ^ l.length
  | [], a => by simp
  | c :: l, a => by
    have h1 := beA_lt l (a * 256 + c.toNat)
    have h2 := c.toNat_lt
    have h3 : (a * 256 + c.toNat + 1) * 256 ^ l.length ≤ ((a + 1) * 256) * 256 ^ l.length := Nat.mul_le_mul_right _ (by omega)
    simp only [List.foldl_cons, List.length_cons]
    rw [Nat.pow_succ, Nat.mul_comm (256 ^ l.length), ← Nat.mul_assoc]
    omega
theorem beN_lt (l : List UInt8) : beN l < 256 ^ l.length := by
  have := beA_lt l 0
  simpa [beN] using this
theorem take_succ' {l : List UInt8} {i : Nat} {c : UInt8} (h : l[i]? = some c) : l.take (i + 1) = l.take i ++ [c] := by
  rw [List.take_add_one, h]; rfl
/-- A byte put behind a number. -/
theorem shl_or {v : Nat} {c : UInt8} (hv : v < 2 ^ 56) : IntKind.u64.wrap (((BitVec.ofInt IntKind.u64.bits (IntKind.u64.wrap ((v : Int) * 2 ^ (min (8 : Int).toNat IntKind.u64.bits)))) ||| (BitVec.ofInt IntKind.u64.bits (IntKind.u64.wrap (c.toNat : Int)))).toNat : Int) = ((v * 256 + c.toNat : Nat) : Int) := by
  have hc := c.toNat_lt
  have e1 : IntKind.u64.wrap ((v : Int) * 2 ^ (min (8 : Int).toNat IntKind.u64.bits)) = ((v * 256 : Nat) : Int) := by
    have : (2 : Int) ^ (min (8 : Int).toNat IntKind.u64.bits) = 256 := by decide
    rw [this]
    simp only [IntKind.wrap, IntKind.bits, IntKind.signed, Bool.false_and, Bool.false_eq_true, if_false]
    omega
  have e2 : IntKind.u64.wrap (c.toNat : Int) = ((c.toNat : Nat) : Int) := by
    simp only [IntKind.wrap, IntKind.bits, IntKind.signed, Bool.false_and, Bool.false_eq_true, if_false]
    omega
  rw [e1, e2]
  have e3 : ((BitVec.ofInt IntKind.u64.bits ((v * 256 : Nat) : Int)) ||| (BitVec.ofInt IntKind.u64.bits ((c.toNat : Nat) : Int))).toNat = v * 256 + c.toNat := by
    show ((BitVec.ofInt 64 ((v * 256 : Nat) : Int)) ||| (BitVec.ofInt 64 ((c.toNat : Nat) : Int))).toNat = _
    rw [BitVec.toNat_or, BitVec.toNat_ofInt, BitVec.toNat_ofInt]
    have a1 : (((v * 256 : Nat) : Int) % ((2 ^ 64 : Nat) : Int)).toNat = v * 256 := by omega
    have a2 : (((c.toNat : Nat) : Int) % ((2 ^ 64 : Nat) : Int)).toNat = c.toNat := by omega
    rw [a1, a2]
    have := Nat.shiftLeft_add_eq_or_of_lt (i := 8) (b := c.toNat) (by omega) v
    rw [Nat.shiftLeft_eq] at this
    exact this.symm
  rw [e3]
  simp only [IntKind.wrap, IntKind.bits, IntKind.signed, Bool.false_and, Bool.false_eq_true, if_false]
  omega

theorem value_CF {H : Hp} (l : List UInt8) (hl : l.length ≤ 8) : CF Try.prog 48 [S l] H fun v H' => v = .int .u64 (beN l) ∧ H' = H := by
  refine CF.go _ Try.func48 rfl ⟨Nat.le_of_ble_eq_true rfl, rfl⟩ fun base hb0 hn => ?_
  subst hb0
  refine TC.seq ?_
  refine TC.region (id := 0) ?_
  refine TO.w hn (.assign _) rfl (guard0 rfl) (lop_assign (agree hn) rfl) rfl ?_
  refine TO.nil ?_
  refine TC.seq ?_
  refine TC.region (id := 1) ?_
  refine TO.w hn (.assign _) rfl (guard0 rfl) (lop_assign (agree hn) rfl) rfl ?_
  refine TO.nil ?_
  refine TC.seq ?_
  refine TC.seq ?_
  refine TC.region (id := 2) ?_
  refine TO.w hn (.assign _) rfl (guard0 rfl) (lop_assign (agree hn) rfl) rfl ?_
  refine TO.nil ?_
  refine TC.block ?_
  refine TC.loopI (fun m fr H' => ∃ i, i + m = l.length ∧ fr.length = 19 ∧ Facts fr [(0, S l), (3, .int .u64 (beN (l.take i) : Nat)), (4, .int .i64 (i : Nat))] ∧ H' = H) l.length
    ⟨0, by omega, (mkF_length _ _).trans hn, Facts.of (agree hn) ⟨rfl, rfl, rfl, trivial⟩, rfl⟩ ?_
  rintro m fr H' ⟨i, hi, hn, hf, rfl⟩
  refine TC.facts _ hf ?_
  rcases Nat.lt_or_ge i l.length with h | h
  · obtain ⟨c, hc⟩ : ∃ c, l[i]? = some c := ⟨l[i], List.getElem?_eq_getElem h⟩
    refine TC.seq ?_
    refine TC.seq ?_
    refine TC.region (id := 3) ?_
    refine TO.w hn (.move _) rfl (guard0 rfl) (lop_move (agree hn) rfl) rfl ?_
    refine TO.w hn (.move _) rfl (guard0 rfl) (lop_move (agree hn) rfl) rfl ?_
    refine TO.w hn (.call _) rfl (guard0 rfl) (lop_built (agree hn) rfl rfl (lbuiltin_lenS rfl)) rfl ?_
    refine TO.w hn (.binOp _ _ _ _ _) rfl (guard0 rfl) (lop_binT (agree hn) rfl rfl rfl (by exact decide_eq_true (by omega))) rfl ?_
    refine TO.nil ?_
    refine TC.condT (agree hn) rfl rfl ?_
    refine TC.skip ?_
    refine TC.seq ?_
    refine TC.block ?_
    refine TC.region (id := 5) ?_
    refine TO.w hn (.move _) rfl (guard0 rfl) (lop_move (agree hn) rfl) rfl ?_
    refine TO.w hn (.binOp _ _ _ _ _) rfl (guard0 rfl) (lop_bin (agree hn) rfl rfl rfl) rfl ?_
    refine TO.w hn (.move _) rfl (guard0 rfl) (lop_move (agree hn) rfl) rfl ?_
    refine TO.w hn (.move _) rfl (guard0 rfl) (lop_move (agree hn) rfl) rfl ?_
    refine TO.w hn (.index _ _ _) rfl (guard0 rfl) (lop_ixS (agree hn) rfl rfl rfl (by omega) (by assumption)) rfl ?_
    refine TO.w hn (.convert _ _ _) rfl (guard0 rfl) (lop_conv (agree hn) rfl rfl) rfl ?_
    refine TO.w hn (.binOp _ _ _ _ _) rfl (guard0 rfl) (lop_bin (agree hn) rfl rfl rfl) rfl ?_
    refine TO.w hn (.assign _) rfl (guard0 rfl) (lop_assign (agree hn) rfl) rfl ?_
    refine TO.nil ?_
    refine TC.region (id := 4) ?_
    refine TO.w hn (.move _) rfl (guard0 rfl) (lop_move (agree hn) rfl) rfl ?_
    refine TO.w hn (.binOp _ _ _ _ _) rfl (guard0 rfl) (lop_binI (agree hn) rfl rfl rfl rfl (by omega) (by omega)) rfl ?_
    refine TO.w hn (.assign _) rfl (guard0 rfl) (lop_assign (agree hn) rfl) rfl ?_
    refine TO.nil ?_
    refine ⟨m - 1, by omega, i + 1, by omega, (mkF_length _ _).trans hn, Facts.of (agree hn) ⟨rfl, ?_, ?_, trivial⟩, rfl⟩
    · show some (Value.int IntKind.u64 _) = some (Value.int IntKind.u64 _)
      rw [take_succ' hc, beN_snoc, shl_or]
      have h1 := beN_lt (l.take i)
      have h2 : 256 ^ (l.take i).length ≤ 256 ^ 7 := Nat.pow_le_pow_right (by omega) (by rw [List.length_take]; omega)
      omega
    · show some (Value.int IntKind.i64 _) = some (Value.int IntKind.i64 _)
      rfl
  ·
    refine TC.seq ?_
    refine TC.seq ?_
    refine TC.region (id := 3) ?_
    refine TO.w hn (.move _) rfl (guard0 rfl) (lop_move (agree hn) rfl) rfl ?_
    refine TO.w hn (.move _) rfl (guard0 rfl) (lop_move (agree hn) rfl) rfl ?_
    refine TO.w hn (.call _) rfl (guard0 rfl) (lop_built (agree hn) rfl rfl (lbuiltin_lenS rfl)) rfl ?_
    refine TO.w hn (.binOp _ _ _ _ _) rfl (guard0 rfl) (lop_binF (agree hn) rfl rfl rfl (by exact decide_eq_false (by omega))) rfl ?_
    refine TO.nil ?_
    refine TC.condF (agree hn) rfl rfl ?_
    refine TC.exit ?_
    refine TC.seq ?_
    refine TC.region (id := 6) ?_
    refine TO.w hn (.move _) rfl (guard0 rfl) (lop_move (agree hn) rfl) rfl ?_
    refine TO.w hn (.assign _) rfl (guard0 rfl) (lop_assign (agree hn) rfl) rfl ?_
    refine TO.nil ?_
    refine TC.ret ?_
    refine ⟨trivial, _, lres1 (agree hn) rfl, ?_, rfl⟩
    rw [List.take_of_length_le (by omega)]

end Go.Proofs.Ytcndgbaldjcdfaa
