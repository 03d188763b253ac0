/- What is laid is read back. -/
import Derived.Test.YtbekdbehiacnkaaWireW
import Derived.Test.YtbekdbehiacnkaaLite25
import Derived.Test.YtbekdbehiacnkaaRows
namespace Go.Proofs.Ytbekdbehiacnkaa
open Go Go.Lite
set_option linter.unusedSimpArgs false
set_option linter.unusedVariables false
set_option maxHeartbeats 4000000

theorem foldB_put : ∀ (k n a : Nat), (putN k n).foldl (fun v c => v * 256 + c.toNat) a = a * 256 ^ k + n % 256 ^ k
  | 0, n, a => by simp [putN, Nat.mod_one]
  | k + 1, n, a => by
    have h1 : (UInt8.ofNat (n / 256 ^ k)).toNat = n / 256 ^ k % 256 := by simp
    simp only [putN, List.foldl_cons, h1]
    rw [foldB_put k n, Nat.pow_succ, Nat.mod_mul, Nat.add_mul, Nat.mul_assoc, Nat.mul_comm 256 (256 ^ k), Nat.mul_comm (n / 256 ^ k % 256)]
    omega
theorem beN_put (k n : Nat) : beN (putN k n) = n % 256 ^ k := by
  have := foldB_put k n 0
  simpa [beN] using this
theorem take_put (k n : Nat) (r : List UInt8) : (putN k n ++ r).take k = putN k n := by
  have := List.take_left (l₁ := putN k n) (l₂ := r)
  rwa [putN_length] at this
theorem drop_put (k n : Nat) (r : List UInt8) : (putN k n ++ r).drop k = r := by
  have := List.drop_left (l₁ := putN k n) (l₂ := r)
  rwa [putN_length] at this

theorem number_back {H : Hp} {r k v : Nat} {rest : List UInt8} (h : Rd H r (putN k v ++ rest)) (h0 : 1 ≤ k) (h1 : k ≤ 8) : CF Try.prog 10 [.pointer (some ⟨r, 0, none⟩), .int .i64 (k : Nat)] H fun u H' =>
    u = .tuple #[.int .u64 (v % 256 ^ k : Nat), .bool true] ∧ ∃ x, H' = H.set r x ∧ Rd H' r rest := by
  have := number_ok h h0 h1 (by rw [List.length_append, putN_length]; omega)
  rwa [take_put, drop_put, beN_put] at this
theorem text_back {H : Hp} {r : Nat} {s rest : List UInt8} {n : Int} (h : Rd H r (putN 4 s.length ++ s ++ rest)) (hn : (s.length : Int) ≤ n) (hn2 : n ≤ 9223372036854775807) (hs : s.length < 4294967296) (hl : (putN 4 s.length ++ s ++ rest).length ≤ 4611686018427387904) :
    CF Try.prog 12 [.pointer (some ⟨r, 0, none⟩), .int .i64 n] H fun v H' => v = .tuple #[S s, .bool true] ∧ ∃ x, H' = H.set r x ∧ Rd H' r rest := by
  have e1 : beN ((putN 4 s.length ++ s ++ rest).take 4) = s.length := by
    rw [List.append_assoc, take_put, beN_put]
    exact Nat.mod_eq_of_lt hs
  have hlen : (putN 4 s.length ++ s ++ rest).length = 4 + s.length + rest.length := by rw [List.length_append, List.length_append, putN_length]
  have := text_ok (n := n) h hn2 hl ⟨by omega, by omega, by rw [e1]; exact hn, by rw [e1]; omega⟩
  rw [e1, ← List.drop_drop, List.append_assoc, drop_put, List.take_left, List.drop_left] at this
  exact this
theorem take_back {H : Hp} {r n : Nat} {l : List UInt8} (h : Rd H r l) (hn : n = l.length) : CF Try.prog 14 [.pointer (some ⟨r, 0, none⟩), .int .i64 (n : Nat)] H fun v H' => v = .tuple #[S l, .bool true] ∧ ∃ x, H' = H.set r x ∧ Rd H' r [] := by
  subst hn
  have := take_ok (n := (l.length : Nat)) h (by omega) (by omega)
  simpa using this
theorem left_zero {H : Hp} {r : Nat} (h : Rd H r []) : CF Try.prog 16 [.pointer (some ⟨r, 0, none⟩)] H fun v H' => v = .int .i64 0 ∧ H' = H := left_CF h

/-- A thing's bytes. -/
def encT (w v : Nat) (s : List UInt8) : List UInt8 := if w = 0 then putN 4 (s.take 300).length ++ s.take 300 else putN w v
theorem encT_length (w v : Nat) (s : List UInt8) (hw : w ≤ 8) : (encT w v s).length ≤ 304 := by
  unfold encT
  split
  · rw [List.length_append, putN_length, List.length_take]; omega
  · rw [putN_length]; omega
/-- The low bytes of a number, as the law tells them. -/
theorem low_bytes {v w : Nat} (hv : v < 18446744073709551616) (hw : 1 ≤ w) (hw8 : w ≤ 8) {z : Int} (hz : z = 64 - 8 * (w : Int)) :
    (IntKind.u64.wrap ((v : Int) * 2 ^ (min z.toNat IntKind.u64.bits))).fdiv (2 ^ (min z.toNat IntKind.u64.bits)) = ((v % 256 ^ w : Nat) : Int) := by
  have e1 : min z.toNat IntKind.u64.bits = 64 - 8 * w := by
    simp only [IntKind.bits]
    omega
  rw [e1]
  have e2 : ((2 : Int) ^ (64 - 8 * w)) = ((2 ^ (64 - 8 * w) : Nat) : Int) := by norm_cast
  rw [e2, Int.fdiv_eq_ediv_of_nonneg _ (Int.natCast_nonneg _)]
  have e3 : IntKind.u64.wrap ((v : Int) * ((2 ^ (64 - 8 * w) : Nat) : Int)) = ((v * 2 ^ (64 - 8 * w) % 2 ^ 64 : Nat) : Int) := by
    simp only [IntKind.wrap, IntKind.bits, IntKind.signed, Bool.false_and, Bool.false_eq_true, if_false]
    norm_cast
  rw [e3]
  have e4 : (2 : Nat) ^ 64 = 2 ^ (64 - 8 * w) * 256 ^ w := by
    rw [show (256 : Nat) = 2 ^ 8 by decide, ← Nat.pow_mul, ← Nat.pow_add]
    congr 1
    omega
  have hp : 0 < 2 ^ (64 - 8 * w) := Nat.pos_of_ne_zero (by simp)
  rw [e4, Nat.mul_comm v, Nat.mul_mod_mul_left]
  norm_cast
  rw [Nat.mul_div_cancel_left _ hp]

/-- Slices of things: their widths, numbers, texts. -/
def Things (H : Hp) (v : Value) (n : Nat) (T : Nat → Nat × Nat × List UInt8) : Prop :=
  ∃ (a : Option Addr) (c : Nat), v = .slice a n c ∧ (n = 0 ∨ ∃ b vs, a = some ⟨b, 0, none⟩ ∧ H.f b = some (.cells false 3 vs) ∧
    ∀ i, i < n → (Blk.cells false 3 vs).cell (0 + i * 3 + 0) = some (.int .u8 (T i).1) ∧ (Blk.cells false 3 vs).cell (0 + i * 3 + 1) = some (.int .u64 (T i).2.1) ∧ (Blk.cells false 3 vs).cell (0 + i * 3 + 2) = some (S (T i).2.2) ∧
      (T i).1 < 256 ∧ (T i).2.1 < 18446744073709551616 ∧ (T i).2.2.length ≤ 9223372036854775807)
def encs (T : Nat → Nat × Nat × List UInt8) (a : Nat) : Nat → List UInt8
  | 0 => []
  | n + 1 => encT ((T a).1 % 9) (T a).2.1 (T a).2.2 ++ encs T (a + 1) n
theorem encs_snoc (T : Nat → Nat × Nat × List UInt8) : ∀ (n a : Nat), encs T a (n + 1) = encs T a n ++ encT ((T (a + n)).1 % 9) (T (a + n)).2.1 (T (a + n)).2.2
  | 0, a => by simp [encs]
  | n + 1, a => by
    rw [encs, encs_snoc T n (a + 1), ← List.append_assoc]
    rw [show a + 1 + n = a + (n + 1) by omega]
    rfl
theorem encs_length (T : Nat → Nat × Nat × List UInt8) : ∀ (n a : Nat), (encs T a n).length ≤ 304 * n
  | 0, a => by simp [encs]
  | n + 1, a => by
    have h1 := encs_length T n (a + 1)
    have h2 := encT_length ((T a).1 % 9) (T a).2.1 (T a).2.2 (by omega)
    rw [encs, List.length_append]
    omega

theorem wireBack_CF {H : Hp} {lv : Value} {n : Nat} {T : Nat → Nat × Nat × List UInt8} {behind : List UInt8} (hn0 : n ≤ 9223372036854775807) (hl : Things H lv n T) (hb0 : behind.length ≤ 9223372036854775807) :
    CF Try.prog 4 [lv, S behind] H fun v H' => v = .bool true := by
  obtain ⟨la, lc, rfl, hl⟩ := hl
  refine CF.wf fun hw => ?_
  refine CF.go _ Try.func4 rfl ⟨Nat.le_of_ble_eq_true rfl, rfl⟩ fun base hb0 hn => ?_
  subst hb0
  refine TC.seq ?_
  refine TC.region (id := 0) ?_
  refine TO.w hn (.assign _) rfl (guard0 rfl) (lop_assign (agree hn) rfl) rfl ?_
  refine TO.nil ?_
  refine TC.seq ?_
  refine TC.region (id := 1) ?_
  refine TO.w hn (.move _) rfl (guard0 rfl) (lop_move (agree hn) rfl) rfl ?_
  refine TO.w hn (.move _) rfl (guard0 rfl) (lop_move (agree hn) rfl) rfl ?_
  refine TO.w hn (.call _) rfl (guard0 rfl) (lop_built (agree hn) rfl rfl (lbuiltin_lenS rfl)) rfl ?_
  refine TO.w hn (.call _) rfl (guard0 rfl) (lop_built (agree hn) rfl rfl lbuiltin_minI) rfl ?_
  refine TO.w hn (.slice _ _ _ _ _) rfl (guard0 rfl) (lop_slice (agree hn) rfl rfl rfl rfl (lsliceS_hi rfl (by exact lboundI (by omega) (by omega)))) rfl ?_
  refine TO.w hn (.assign _) rfl (guard0 rfl) (lop_assign (agree hn) rfl) rfl ?_
  refine TO.nil ?_
  refine TC.seq ?_
  refine TC.region (id := 2) ?_
  refine TO.w hn (.assign _) rfl (guard0 rfl) (lop_assign (agree hn) rfl) rfl ?_
  refine TO.nil ?_
  refine TC.seq ?_
  refine TC.region (id := 3) ?_
  refine TO.w hn (.move _) rfl (guard0 rfl) (lop_move (agree hn) rfl) rfl ?_
  refine TO.w hn (.call _) rfl (guard0 rfl) (lop_built (agree hn) rfl rfl (lbuiltin_lenL rfl)) rfl ?_
  refine TO.w hn (.call _) rfl (guard0 rfl) (lop_built (agree hn) rfl rfl lbuiltin_minI) rfl ?_
  refine TO.w hn (.assign _) rfl (guard0 rfl) (lop_assign (agree hn) rfl) rfl ?_
  refine TO.nil ?_
  refine TC.seq ?_
  refine TC.seq ?_
  refine TC.region (id := 4) ?_
  refine TO.w hn (.assign _) rfl (guard0 rfl) (lop_assign (agree hn) rfl) rfl ?_
  refine TO.nil ?_
  refine TC.block ?_
  have eb := take_min behind 1000
  refine TC.loopI (fun m fr H' => ∃ i : Nat, m + i = min n 30 ∧ fr.length = 155 ∧ Facts fr [(0, .slice la n lc), (1, S (behind.take 1000)), (5, S (encs T 0 i)), (6, .int .i64 (min n 30 : Nat)), (7, .int .i64 (i : Nat))] ∧ H' = H) (min n 30)
    ⟨0, by omega, (mkF_length _ _).trans hn, Facts.of (agree hn) ⟨rfl, congrArg (fun z => some (S z)) eb, rfl, congrArg (fun z => some (Value.int IntKind.i64 z)) (by omega), rfl, trivial⟩, rfl⟩ ?_
  clear hn
  rintro m fr H' ⟨i, hi, hn, hf, rfl⟩
  refine TC.facts _ hf ?_
  have hlen := encs_length T i 0
  by_cases hin : i < min n 30
  · rcases hl with h0 | ⟨b, vs, rfl, hb, hvs⟩
    · omega
    · obtain ⟨h1, h2, h3, h4, h5, h6⟩ := hvs i (by omega)
      have es := take_min (T i).2.2 300
      have hsn := encs_snoc T i 0
      rw [Nat.zero_add] at hsn
      have hpt := putText_CF (H := H') (b := encs T 0 i) (s := List.take (min ((T i).2.2.length : Int) (300 : Int)).toNat (T i).2.2) (by omega) (by rw [List.length_take]; omega)
      by_cases hw0 : (T i).1 % 9 = 0
      ·
        refine TC.seq ?_
        refine TC.seq ?_
        refine TC.region (id := 5) ?_
        refine TO.w hn (.move _) rfl (guard0 rfl) (lop_move (agree hn) rfl) rfl ?_
        refine TO.w hn (.move _) rfl (guard0 rfl) (lop_move (agree hn) rfl) rfl ?_
        refine TO.w hn (.binOp _ _ _ _ _) rfl (guard0 rfl) (lop_binT (agree hn) rfl rfl rfl (by exact decide_eq_true (by omega))) rfl ?_
        refine TO.nil ?_
        refine TC.condT (agree hn) rfl rfl ?_
        refine TC.skip ?_
        refine TC.seq ?_
        refine TC.block ?_
        refine TC.seq ?_
        refine TC.region (id := 7) ?_
        refine TO.w hn (.move _) rfl (guard0 rfl) (lop_move (agree hn) rfl) rfl ?_
        refine TO.w hn (.move _) rfl (guard0 rfl) (lop_move (agree hn) rfl) rfl ?_
        refine TO.w hn (.indexAddr _ _ _) rfl (guard0 rfl) (lop_ia (agree hn) rfl rfl rfl rfl (by omega) (by omega)) rfl ?_
        refine TO.w hn (.fieldAddr _ _ _) rfl (guard0 rfl) (lop_fa (agree hn) rfl rfl) rfl ?_
        refine TO.w hn (.load _ _) rfl (guard0 rfl) (lop_load (agree hn) rfl (by assumption) rfl (by assumption)) rfl ?_
        refine TO.w hn (.binOp _ _ _ _ _) rfl (guard0 rfl) (lop_remP (agree hn) rfl rfl (by omega) (by omega)) rfl ?_
        refine TO.w hn (.convert _ _ _) rfl (guard0 rfl) (lop_convI (agree hn) rfl rfl rfl (by omega) (by omega)) rfl ?_
        refine TO.w hn (.assign _) rfl (guard0 rfl) (lop_assign (agree hn) rfl) rfl ?_
        refine TO.nil ?_
        refine TC.seq ?_
        refine TC.region (id := 8) ?_
        refine TO.w hn (.move _) rfl (guard0 rfl) (lop_move (agree hn) rfl) rfl ?_
        refine TO.w hn (.binOp _ _ _ _ _) rfl (guard0 rfl) (lop_binT (agree hn) rfl rfl rfl (by exact decide_eq_true (by omega))) rfl ?_
        refine TO.nil ?_
        refine TC.condT (agree hn) rfl rfl ?_
        refine TC.drawnSeq (id := 9) [(0, false), (1, false), (2, false), (3, false), (4, false), (5, false), (6, false), (7, false), (8, false), (9, false), (10, false), (11, false), (12, false), (13, false), (14, true), (15, false)] rfl (by kernel_rfl) ?_
        refine AS.w hn rfl (.move _) rfl (guard0 rfl) (lop_move (agree hn) rfl) rfl ?_
        refine AS.w hn rfl (.move _) rfl (guard0 rfl) (lop_move (agree hn) rfl) rfl ?_
        refine AS.w hn rfl (.move _) rfl (guard0 rfl) (lop_move (agree hn) rfl) rfl ?_
        refine AS.w hn rfl (.indexAddr _ _ _) rfl (guard0 rfl) (lop_ia (agree hn) rfl rfl rfl rfl (by omega) (by omega)) rfl ?_
        refine AS.w hn rfl (.fieldAddr _ _ _) rfl (guard0 rfl) (lop_fa (agree hn) rfl rfl) rfl ?_
        refine AS.w hn rfl (.load _ _) rfl (guard0 rfl) (lop_load (agree hn) rfl (by assumption) rfl (by assumption)) rfl ?_
        refine AS.w hn rfl (.move _) rfl (guard0 rfl) (lop_move (agree hn) rfl) rfl ?_
        refine AS.w hn rfl (.move _) rfl (guard0 rfl) (lop_move (agree hn) rfl) rfl ?_
        refine AS.w hn rfl (.indexAddr _ _ _) rfl (guard0 rfl) (lop_ia (agree hn) rfl rfl rfl rfl (by omega) (by omega)) rfl ?_
        refine AS.w hn rfl (.fieldAddr _ _ _) rfl (guard0 rfl) (lop_fa (agree hn) rfl rfl) rfl ?_
        refine AS.w hn rfl (.load _ _) rfl (guard0 rfl) (lop_load (agree hn) rfl (by assumption) rfl (by assumption)) rfl ?_
        refine AS.w hn rfl (.call _) rfl (guard0 rfl) (lop_built (agree hn) rfl rfl (lbuiltin_lenS rfl)) rfl ?_
        refine AS.w hn rfl (.call _) rfl (guard0 rfl) (lop_built (agree hn) rfl rfl lbuiltin_minI) rfl ?_
        refine AS.w hn rfl (.slice _ _ _ _ _) rfl (guard0 rfl) (lop_slice (agree hn) rfl rfl rfl rfl (lsliceS_hi rfl (by exact lboundI (by omega) (by omega)))) rfl ?_
        refine AS.wp hn rfl (.call _) rfl (guard0 rfl) (lop_func (agree hn) rfl rfl rfl) rfl (CF.co noOwn rfl rfl hpt) ?_
        refine AS.w hn rfl (.assign _) rfl (guard0 rfl) (lop_assign (agree hn) rfl) rfl ?_
        refine AS.nil ?_
        refine TC.region (id := 6) ?_
        refine TO.w hn (.move _) rfl (guard0 rfl) (lop_move (agree hn) rfl) rfl ?_
        refine TO.w hn (.binOp _ _ _ _ _) rfl (guard0 rfl) (lop_binI (agree hn) rfl rfl rfl rfl (by omega) (by omega)) rfl ?_
        refine TO.w hn (.assign _) rfl (guard0 rfl) (lop_assign (agree hn) rfl) rfl ?_
        refine TO.nil ?_
        refine ⟨m - 1, by omega, i + 1, by omega, (mkF_length _ _).trans hn, Facts.of (agree hn) ⟨rfl, rfl, ?_, rfl, rfl, trivial⟩, rfl⟩
        rw [hsn, encT, if_pos hw0]
        refine congrArg (fun z => some (S z)) ?_
        refine Eq.trans ?_ (List.append_assoc _ _ _)
        exact congrArg (fun z => encs T 0 i ++ putN 4 z.length ++ z) es
      · have hpn := putNumber_CF (H := H') (b := encs T 0 i) (n := ((T i).1 % 9 : Nat)) (v := (T i).2.1) (by omega) h5
        have hc : clampN (((T i).1 % 9 : Nat) : Int) = (T i).1 % 9 := by
          unfold clampN
          rw [if_neg (by omega), if_neg (by omega)]
          omega
        rw [hc] at hpn
        refine TC.seq ?_
        refine TC.seq ?_
        refine TC.region (id := 5) ?_
        refine TO.w hn (.move _) rfl (guard0 rfl) (lop_move (agree hn) rfl) rfl ?_
        refine TO.w hn (.move _) rfl (guard0 rfl) (lop_move (agree hn) rfl) rfl ?_
        refine TO.w hn (.binOp _ _ _ _ _) rfl (guard0 rfl) (lop_binT (agree hn) rfl rfl rfl (by exact decide_eq_true (by omega))) rfl ?_
        refine TO.nil ?_
        refine TC.condT (agree hn) rfl rfl ?_
        refine TC.skip ?_
        refine TC.seq ?_
        refine TC.block ?_
        refine TC.seq ?_
        refine TC.region (id := 7) ?_
        refine TO.w hn (.move _) rfl (guard0 rfl) (lop_move (agree hn) rfl) rfl ?_
        refine TO.w hn (.move _) rfl (guard0 rfl) (lop_move (agree hn) rfl) rfl ?_
        refine TO.w hn (.indexAddr _ _ _) rfl (guard0 rfl) (lop_ia (agree hn) rfl rfl rfl rfl (by omega) (by omega)) rfl ?_
        refine TO.w hn (.fieldAddr _ _ _) rfl (guard0 rfl) (lop_fa (agree hn) rfl rfl) rfl ?_
        refine TO.w hn (.load _ _) rfl (guard0 rfl) (lop_load (agree hn) rfl (by assumption) rfl (by assumption)) rfl ?_
        refine TO.w hn (.binOp _ _ _ _ _) rfl (guard0 rfl) (lop_remP (agree hn) rfl rfl (by omega) (by omega)) rfl ?_
        refine TO.w hn (.convert _ _ _) rfl (guard0 rfl) (lop_convI (agree hn) rfl rfl rfl (by omega) (by omega)) rfl ?_
        refine TO.w hn (.assign _) rfl (guard0 rfl) (lop_assign (agree hn) rfl) rfl ?_
        refine TO.nil ?_
        refine TC.seq ?_
        refine TC.region (id := 8) ?_
        refine TO.w hn (.move _) rfl (guard0 rfl) (lop_move (agree hn) rfl) rfl ?_
        refine TO.w hn (.binOp _ _ _ _ _) rfl (guard0 rfl) (lop_binF (agree hn) rfl rfl rfl (by exact decide_eq_false (by omega))) rfl ?_
        refine TO.nil ?_
        refine TC.condF (agree hn) rfl rfl ?_
        refine TC.region (id := 10) ?_
        refine TO.w hn (.move _) rfl (guard0 rfl) (lop_move (agree hn) rfl) rfl ?_
        refine TO.w hn (.move _) rfl (guard0 rfl) (lop_move (agree hn) rfl) rfl ?_
        refine TO.w hn (.move _) rfl (guard0 rfl) (lop_move (agree hn) rfl) rfl ?_
        refine TO.w hn (.move _) rfl (guard0 rfl) (lop_move (agree hn) rfl) rfl ?_
        refine TO.w hn (.indexAddr _ _ _) rfl (guard0 rfl) (lop_ia (agree hn) rfl rfl rfl rfl (by omega) (by omega)) rfl ?_
        refine TO.w hn (.fieldAddr _ _ _) rfl (guard0 rfl) (lop_fa (agree hn) rfl rfl) rfl ?_
        refine TO.w hn (.load _ _) rfl (guard0 rfl) (lop_load (agree hn) rfl (by assumption) rfl (by assumption)) rfl ?_
        (refine TO.wc hn (.call _) rfl (guard0 rfl) (lop_func (agree hn) rfl rfl rfl) rfl (CF.co noOwn rfl rfl hpn) (fun v H2 hR => ?_); (obtain ⟨rfl, e2⟩ := hR; cases e2.symm))
        refine TO.w hn (.assign _) rfl (guard0 rfl) (lop_assign (agree hn) rfl) rfl ?_
        refine TO.nil ?_
        refine TC.region (id := 6) ?_
        refine TO.w hn (.move _) rfl (guard0 rfl) (lop_move (agree hn) rfl) rfl ?_
        refine TO.w hn (.binOp _ _ _ _ _) rfl (guard0 rfl) (lop_binI (agree hn) rfl rfl rfl rfl (by omega) (by omega)) rfl ?_
        refine TO.w hn (.assign _) rfl (guard0 rfl) (lop_assign (agree hn) rfl) rfl ?_
        refine TO.nil ?_
        refine ⟨m - 1, by omega, i + 1, by omega, (mkF_length _ _).trans hn, Facts.of (agree hn) ⟨rfl, rfl, ?_, rfl, rfl, trivial⟩, rfl⟩
        rw [hsn, encT, if_neg hw0]
        rfl
  · have hi : i = min n 30 := by omega
    clear hin
    subst hi
    have hM : min n 30 ≤ n := Nat.min_le_left _ _
    have hM30 : min n 30 ≤ 30 := Nat.min_le_right _ _
    generalize min n 30 = M at *
    have hlb : (behind.take 1000).length ≤ 1000 := by rw [List.length_take]; omega
    generalize behind.take 1000 = bh at *
    have hnew := fun (H : Hp) (l : List UInt8) => CF.co noOwn rfl rfl (new_CF (H := H) l)
    refine TC.seq ?_
    refine TC.seq ?_
    refine TC.region (id := 5) ?_
    refine TO.w hn (.move _) rfl (guard0 rfl) (lop_move (agree hn) rfl) rfl ?_
    refine TO.w hn (.move _) rfl (guard0 rfl) (lop_move (agree hn) rfl) rfl ?_
    refine TO.w hn (.binOp _ _ _ _ _) rfl (guard0 rfl) (lop_binF (agree hn) rfl rfl rfl (by exact decide_eq_false (by omega))) rfl ?_
    refine TO.nil ?_
    refine TC.condF (agree hn) rfl rfl ?_
    refine TC.exit ?_
    refine TC.seq ?_
    refine TC.region (id := 11) ?_
    refine TO.w hn (.move _) rfl (guard0 rfl) (lop_move (agree hn) rfl) rfl ?_
    refine TO.w hn (.move _) rfl (guard0 rfl) (lop_move (agree hn) rfl) rfl ?_
    refine TO.w hn (.binOp _ _ _ _ _) rfl (guard0 rfl) (lop_cat (agree hn) rfl rfl (by omega)) rfl ?_
    (refine TO.wc hn (.call _) rfl (guard0 rfl) (lop_func (agree hn) rfl rfl rfl) rfl (hnew _ _) (fun v H2 hR => ?_); obtain ⟨rfl, hle, hn1, hr⟩ := hR)
    refine TO.w hn (.assign _) rfl (guard0 rfl) (lop_assign (agree hn) rfl) rfl ?_
    refine TO.nil ?_
    refine TC.seq ?_
    refine TC.seq ?_
    refine TC.region (id := 12) ?_
    refine TO.w hn (.move _) rfl (guard0 rfl) (lop_move (agree hn) rfl) rfl ?_
    refine TO.w hn (.binOp _ _ _ _ _) rfl (guard0 rfl) (lop_binF (agree hn) rfl rfl rfl (by with_reducible rfl)) rfl ?_
    refine TO.nil ?_
    refine TC.condF (agree hn) rfl rfl ?_
    refine TC.skip ?_
    refine TC.seq ?_
    refine TC.seq ?_
    refine TC.region (id := 14) ?_
    refine TO.w hn (.assign _) rfl (guard0 rfl) (lop_assign (agree hn) rfl) rfl ?_
    refine TO.nil ?_
    refine TC.block ?_
    refine TC.loopI (fun m fr H2 => ∃ i : Nat, m + i = M ∧ fr.length = 155 ∧ Facts fr [(0, .slice la n lc), (1, S bh), (6, .int .i64 (M : Nat)), (9, .pointer (some ⟨H'.n + 1, 0, none⟩)), (10, .int .i64 (i : Nat))] ∧ Rd H2 (H'.n + 1) (encs T i (M - i) ++ bh) ∧ H'.le H2) M
      ⟨0, by omega, (mkF_length _ _).trans hn, Facts.of (agree hn) ⟨rfl, rfl, rfl, rfl, rfl, trivial⟩, hr, hle⟩ ?_
    clear hn hf
    rintro m fr H3 ⟨i, hi, hn, hf, hr, hle⟩
    refine TC.facts _ hf ?_
    by_cases hin : i < M
    · rcases hl with h0 | ⟨b, vs, rfl, hb, hvs⟩
      · omega
      · obtain ⟨h1, h2, h3, h4, h5, h6⟩ := hvs i (by omega)
        have hb := hle.f _ _ hb
        have hbr : b ≠ H'.n + 1 := by
          intro e
          obtain ⟨_, _, _, _, _, hq, _⟩ := hr
          rw [← e, hb] at hq
          cases hq
        obtain ⟨k, hk⟩ : ∃ k, M - i = k + 1 := ⟨M - i - 1, by omega⟩
        rw [hk, encs, List.append_assoc] at hr
        have hk' : M - (i + 1) = k := by omega
        have es := take_min (T i).2.2 300
        have hlen2 := encs_length T k (i + 1)
        by_cases hw0 : (T i).1 % 9 = 0
        · rw [encT, if_pos hw0] at hr
          have ht := text_back (n := 300) hr (by rw [List.length_take]; omega) (by omega) (by rw [List.length_take]; omega) (by simp only [List.length_append, putN_length, List.length_take]; omega)
          rw [← es] at ht
          refine TC.seq ?_
          refine TC.seq ?_
          refine TC.region (id := 15) ?_
          refine TO.w hn (.move _) rfl (guard0 rfl) (lop_move (agree hn) rfl) rfl ?_
          refine TO.w hn (.move _) rfl (guard0 rfl) (lop_move (agree hn) rfl) rfl ?_
          refine TO.w hn (.binOp _ _ _ _ _) rfl (guard0 rfl) (lop_binT (agree hn) rfl rfl rfl (by exact decide_eq_true (by omega))) rfl ?_
          refine TO.nil ?_
          refine TC.condT (agree hn) rfl rfl ?_
          refine TC.skip ?_
          refine TC.seq ?_
          refine TC.block ?_
          refine TC.seq ?_
          refine TC.region (id := 17) ?_
          refine TO.w hn (.move _) rfl (guard0 rfl) (lop_move (agree hn) rfl) rfl ?_
          refine TO.w hn (.move _) rfl (guard0 rfl) (lop_move (agree hn) rfl) rfl ?_
          refine TO.w hn (.indexAddr _ _ _) rfl (guard0 rfl) (lop_ia (agree hn) rfl rfl rfl rfl (by omega) (by omega)) rfl ?_
          refine TO.w hn (.fieldAddr _ _ _) rfl (guard0 rfl) (lop_fa (agree hn) rfl rfl) rfl ?_
          refine TO.w hn (.load _ _) rfl (guard0 rfl) (lop_load (agree hn) rfl (by assumption) rfl (by assumption)) rfl ?_
          refine TO.w hn (.binOp _ _ _ _ _) rfl (guard0 rfl) (lop_remP (agree hn) rfl rfl (by omega) (by omega)) rfl ?_
          refine TO.w hn (.convert _ _ _) rfl (guard0 rfl) (lop_convI (agree hn) rfl rfl rfl (by omega) (by omega)) rfl ?_
          refine TO.w hn (.assign _) rfl (guard0 rfl) (lop_assign (agree hn) rfl) rfl ?_
          refine TO.nil ?_
          refine TC.seq ?_
          refine TC.region (id := 18) ?_
          refine TO.w hn (.move _) rfl (guard0 rfl) (lop_move (agree hn) rfl) rfl ?_
          refine TO.w hn (.binOp _ _ _ _ _) rfl (guard0 rfl) (lop_binT (agree hn) rfl rfl rfl (by exact decide_eq_true (by omega))) rfl ?_
          refine TO.nil ?_
          refine TC.condT (agree hn) rfl rfl ?_
          refine TC.seq ?_
          refine TC.region (id := 19) ?_
          refine TO.w hn (.move _) rfl (guard0 rfl) (lop_move (agree hn) rfl) rfl ?_
          (refine TO.wc hn (.call _) rfl (guard0 rfl) (lop_func (agree hn) rfl rfl rfl) rfl (CF.co noOwn rfl rfl ht) (fun v H2 hR => ?_); obtain ⟨rfl, x, rfl, hr2⟩ := hR)
          refine TO.w hn (.move _) rfl (guard0 rfl) (lop_move (agree hn) rfl) rfl ?_
          refine TO.w hn (.extract _ _) rfl (guard0 rfl) (lop_ex (agree hn) rfl rfl) rfl ?_
          refine TO.w hn (.extract _ _) rfl (guard0 rfl) (lop_ex (agree hn) rfl rfl) rfl ?_
          refine TO.w hn (.assign _) rfl (guard0 rfl) (lop_assign (agree hn) rfl) rfl ?_
          refine TO.w hn (.assign _) rfl (guard0 rfl) (lop_assign (agree hn) rfl) rfl ?_
          refine TO.nil ?_
          refine TC.seq ?_
          refine TC.drawnSeq (id := 20) [(0, false), (1, false), (2, false), (3, false), (4, false), (5, false), (6, false), (7, false), (8, false), (9, false), (10, false), (11, false), (12, false), (13, false), (14, false), (15, false), (16, false), (17, false), (18, false)] rfl (by kernel_rfl) ?_
          refine AS.w hn rfl (.move _) rfl (guard0 rfl) (lop_move (agree hn) rfl) rfl ?_
          refine AS.w hn rfl (.unOp _ _ _) rfl (guard0 rfl) (lop_not1 (agree hn) rfl) rfl ?_
          refine AS.w hn rfl (.move _) rfl (guard0 rfl) (lop_move (agree hn) rfl) rfl ?_
          refine AS.w hn rfl (.move _) rfl (guardOn (agree hn) rfl rfl rfl rfl) (lop_move (agree hn) rfl) rfl ?_
          refine AS.w hn rfl (.move _) rfl (guardOn (agree hn) rfl rfl rfl rfl) (lop_move (agree hn) rfl) rfl ?_
          refine AS.w hn rfl (.move _) rfl (guardOn (agree hn) rfl rfl rfl rfl) (lop_move (agree hn) rfl) rfl ?_
          refine AS.w hn rfl (.indexAddr _ _ _) rfl (guardOn (agree hn) rfl rfl rfl rfl) (lop_ia (agree hn) rfl rfl rfl rfl (by omega) (by omega)) rfl ?_
          refine AS.w hn rfl (.fieldAddr _ _ _) rfl (guardOn (agree hn) rfl rfl rfl rfl) (lop_fa (agree hn) rfl rfl) rfl ?_
          refine AS.w hn rfl (.load _ _) rfl (guardOn (agree hn) rfl rfl rfl rfl) (lop_load (agree hn) rfl (by (repeat (first | exact new_self _ _ | exact set_self _ _ _ | exact move_self _ _ _ | assumption | refine (set_other _ (by first | assumption | omega | (simp only [new_n, set_n, move_n]; omega))).trans ?_ | refine (new_other _ (by first | assumption | omega | (simp only [new_n, set_n, move_n]; omega))).trans ?_ | refine (move_other _ (by first | assumption | omega | (simp only [new_n, set_n, move_n]; omega)) (by first | assumption | omega | (simp only [new_n, set_n, move_n]; omega))).trans ?_))) rfl (by assumption)) rfl ?_
          refine AS.w hn rfl (.move _) rfl (guardOn (agree hn) rfl rfl rfl rfl) (lop_move (agree hn) rfl) rfl ?_
          refine AS.w hn rfl (.move _) rfl (guardOn (agree hn) rfl rfl rfl rfl) (lop_move (agree hn) rfl) rfl ?_
          refine AS.w hn rfl (.indexAddr _ _ _) rfl (guardOn (agree hn) rfl rfl rfl rfl) (lop_ia (agree hn) rfl rfl rfl rfl (by omega) (by omega)) rfl ?_
          refine AS.w hn rfl (.fieldAddr _ _ _) rfl (guardOn (agree hn) rfl rfl rfl rfl) (lop_fa (agree hn) rfl rfl) rfl ?_
          refine AS.w hn rfl (.load _ _) rfl (guardOn (agree hn) rfl rfl rfl rfl) (lop_load (agree hn) rfl (by (repeat (first | exact new_self _ _ | exact set_self _ _ _ | exact move_self _ _ _ | assumption | refine (set_other _ (by first | assumption | omega | (simp only [new_n, set_n, move_n]; omega))).trans ?_ | refine (new_other _ (by first | assumption | omega | (simp only [new_n, set_n, move_n]; omega))).trans ?_ | refine (move_other _ (by first | assumption | omega | (simp only [new_n, set_n, move_n]; omega)) (by first | assumption | omega | (simp only [new_n, set_n, move_n]; omega))).trans ?_))) rfl (by assumption)) rfl ?_
          refine AS.w hn rfl (.call _) rfl (guardOn (agree hn) rfl rfl rfl rfl) (lop_built (agree hn) rfl rfl (lbuiltin_lenS rfl)) rfl ?_
          refine AS.w hn rfl (.call _) rfl (guardOn (agree hn) rfl rfl rfl rfl) (lop_built (agree hn) rfl rfl lbuiltin_minI) rfl ?_
          refine AS.w hn rfl (.slice _ _ _ _ _) rfl (guardOn (agree hn) rfl rfl rfl rfl) (lop_slice (agree hn) rfl rfl rfl rfl (lsliceS_hi rfl (by exact lboundI (by omega) (by omega)))) rfl ?_
          refine AS.w hn rfl (.binOp _ _ _ _ _) rfl (guardOn (agree hn) rfl rfl rfl rfl) (lop_neSF (agree hn) rfl rfl (by rfl)) rfl ?_
          refine AS.w hn rfl (.pick _ _ _) rfl (guard0 rfl) (lop_pickF (agree hn) rfl rfl rfl) rfl ?_
          refine AS.nil ?_
          refine TC.condF (agree hn) rfl rfl ?_
          refine TC.skip ?_
          refine TC.region (id := 16) ?_
          refine TO.w hn (.move _) rfl (guard0 rfl) (lop_move (agree hn) rfl) rfl ?_
          refine TO.w hn (.binOp _ _ _ _ _) rfl (guard0 rfl) (lop_binI (agree hn) rfl rfl rfl rfl (by omega) (by omega)) rfl ?_
          refine TO.w hn (.assign _) rfl (guard0 rfl) (lop_assign (agree hn) rfl) rfl ?_
          refine TO.nil ?_
          exact ⟨m - 1, by omega, i + 1, by omega, (mkF_length _ _).trans hn, Facts.of (agree hn) ⟨rfl, rfl, rfl, rfl, rfl, trivial⟩, by rw [hk']; exact hr2, hle.set' hw (by omega) _⟩
        · rw [encT, if_neg hw0] at hr
          have ht := number_back hr (by omega) (by omega)
          have hne : ((((T i).2.1 % 256 ^ ((T i).1 % 9) : Nat) : Int) != (IntKind.u64.wrap (((T i).2.1 : Int) * 2 ^ (min (64 - 8 * (((T i).1 : Int) % 9)).toNat IntKind.u64.bits))).fdiv (2 ^ (min (64 - 8 * (((T i).1 : Int) % 9)).toNat IntKind.u64.bits))) = false := by
            rw [low_bytes (v := (T i).2.1) (w := (T i).1 % 9) h5 (by omega) (by omega) (by omega)]
            exact bne_self_eq_false _
          refine TC.seq ?_
          refine TC.seq ?_
          refine TC.region (id := 15) ?_
          refine TO.w hn (.move _) rfl (guard0 rfl) (lop_move (agree hn) rfl) rfl ?_
          refine TO.w hn (.move _) rfl (guard0 rfl) (lop_move (agree hn) rfl) rfl ?_
          refine TO.w hn (.binOp _ _ _ _ _) rfl (guard0 rfl) (lop_binT (agree hn) rfl rfl rfl (by exact decide_eq_true (by omega))) rfl ?_
          refine TO.nil ?_
          refine TC.condT (agree hn) rfl rfl ?_
          refine TC.skip ?_
          refine TC.seq ?_
          refine TC.block ?_
          refine TC.seq ?_
          refine TC.region (id := 17) ?_
          refine TO.w hn (.move _) rfl (guard0 rfl) (lop_move (agree hn) rfl) rfl ?_
          refine TO.w hn (.move _) rfl (guard0 rfl) (lop_move (agree hn) rfl) rfl ?_
          refine TO.w hn (.indexAddr _ _ _) rfl (guard0 rfl) (lop_ia (agree hn) rfl rfl rfl rfl (by omega) (by omega)) rfl ?_
          refine TO.w hn (.fieldAddr _ _ _) rfl (guard0 rfl) (lop_fa (agree hn) rfl rfl) rfl ?_
          refine TO.w hn (.load _ _) rfl (guard0 rfl) (lop_load (agree hn) rfl (by assumption) rfl (by assumption)) rfl ?_
          refine TO.w hn (.binOp _ _ _ _ _) rfl (guard0 rfl) (lop_remP (agree hn) rfl rfl (by omega) (by omega)) rfl ?_
          refine TO.w hn (.convert _ _ _) rfl (guard0 rfl) (lop_convI (agree hn) rfl rfl rfl (by omega) (by omega)) rfl ?_
          refine TO.w hn (.assign _) rfl (guard0 rfl) (lop_assign (agree hn) rfl) rfl ?_
          refine TO.nil ?_
          refine TC.seq ?_
          refine TC.region (id := 18) ?_
          refine TO.w hn (.move _) rfl (guard0 rfl) (lop_move (agree hn) rfl) rfl ?_
          refine TO.w hn (.binOp _ _ _ _ _) rfl (guard0 rfl) (lop_binF (agree hn) rfl rfl rfl (by exact decide_eq_false (by omega))) rfl ?_
          refine TO.nil ?_
          refine TC.condF (agree hn) rfl rfl ?_
          refine TC.seq ?_
          refine TC.region (id := 22) ?_
          refine TO.w hn (.move _) rfl (guard0 rfl) (lop_move (agree hn) rfl) rfl ?_
          refine TO.w hn (.move _) rfl (guard0 rfl) (lop_move (agree hn) rfl) rfl ?_
          (refine TO.wc hn (.call _) rfl (guard0 rfl) (lop_func (agree hn) rfl rfl rfl) rfl (CF.co noOwn rfl rfl ht) (fun v H2 hR => ?_); obtain ⟨rfl, x, rfl, hr2⟩ := hR)
          refine TO.w hn (.move _) rfl (guard0 rfl) (lop_move (agree hn) rfl) rfl ?_
          refine TO.w hn (.extract _ _) rfl (guard0 rfl) (lop_ex (agree hn) rfl rfl) rfl ?_
          refine TO.w hn (.extract _ _) rfl (guard0 rfl) (lop_ex (agree hn) rfl rfl) rfl ?_
          refine TO.w hn (.assign _) rfl (guard0 rfl) (lop_assign (agree hn) rfl) rfl ?_
          refine TO.w hn (.assign _) rfl (guard0 rfl) (lop_assign (agree hn) rfl) rfl ?_
          refine TO.nil ?_
          refine TC.seq ?_
          refine TC.region (id := 23) ?_
          refine TO.w hn (.move _) rfl (guard0 rfl) (lop_move (agree hn) rfl) rfl ?_
          refine TO.w hn (.move _) rfl (guard0 rfl) (lop_move (agree hn) rfl) rfl ?_
          refine TO.w hn (.indexAddr _ _ _) rfl (guard0 rfl) (lop_ia (agree hn) rfl rfl rfl rfl (by omega) (by omega)) rfl ?_
          refine TO.w hn (.fieldAddr _ _ _) rfl (guard0 rfl) (lop_fa (agree hn) rfl rfl) rfl ?_
          refine TO.w hn (.load _ _) rfl (guard0 rfl) (lop_load (agree hn) rfl (by (repeat (first | exact new_self _ _ | exact set_self _ _ _ | exact move_self _ _ _ | assumption | refine (set_other _ (by first | assumption | omega | (simp only [new_n, set_n, move_n]; omega))).trans ?_ | refine (new_other _ (by first | assumption | omega | (simp only [new_n, set_n, move_n]; omega))).trans ?_ | refine (move_other _ (by first | assumption | omega | (simp only [new_n, set_n, move_n]; omega)) (by first | assumption | omega | (simp only [new_n, set_n, move_n]; omega))).trans ?_))) rfl (by assumption)) rfl ?_
          refine TO.w hn (.move _) rfl (guard0 rfl) (lop_move (agree hn) rfl) rfl ?_
          refine TO.w hn (.binOp _ _ _ _ _) rfl (guard0 rfl) (lop_binI (agree hn) rfl rfl rfl rfl (by omega) (by omega)) rfl ?_
          refine TO.w hn (.binOp _ _ _ _ _) rfl (guard0 rfl) (lop_binI (agree hn) rfl rfl rfl rfl (by omega) (by omega)) rfl ?_
          refine TO.w hn (.binOp _ _ _ _ _) rfl (guard0 rfl) (lop_shl (agree hn) rfl rfl (by omega)) rfl ?_
          refine TO.w hn (.move _) rfl (guard0 rfl) (lop_move (agree hn) rfl) rfl ?_
          refine TO.w hn (.binOp _ _ _ _ _) rfl (guard0 rfl) (lop_binI (agree hn) rfl rfl rfl rfl (by omega) (by omega)) rfl ?_
          refine TO.w hn (.binOp _ _ _ _ _) rfl (guard0 rfl) (lop_binI (agree hn) rfl rfl rfl rfl (by omega) (by omega)) rfl ?_
          refine TO.w hn (.binOp _ _ _ _ _) rfl (guard0 rfl) (lop_shr (agree hn) rfl rfl (by omega)) rfl ?_
          refine TO.w hn (.assign _) rfl (guard0 rfl) (lop_assign (agree hn) rfl) rfl ?_
          refine TO.nil ?_
          refine TC.seq ?_
          refine TC.region (id := 24) ?_
          refine TO.w hn (.move _) rfl (guard0 rfl) (lop_move (agree hn) rfl) rfl ?_
          refine TO.w hn (.unOp _ _ _) rfl (guard0 rfl) (lop_not1 (agree hn) rfl) rfl ?_
          refine TO.w hn (.move _) rfl (guard0 rfl) (lop_move (agree hn) rfl) rfl ?_
          refine TO.w hn (.move _) rfl (guardOn (agree hn) rfl rfl rfl rfl) (lop_move (agree hn) rfl) rfl ?_
          refine TO.w hn (.move _) rfl (guardOn (agree hn) rfl rfl rfl rfl) (lop_move (agree hn) rfl) rfl ?_
          refine TO.w hn (.binOp _ _ _ _ _) rfl (guardOn (agree hn) rfl rfl rfl rfl) (lop_binF (agree hn) rfl rfl rfl (by assumption)) rfl ?_
          refine TO.w hn (.pick _ _ _) rfl (guard0 rfl) (lop_pickF (agree hn) rfl rfl rfl) rfl ?_
          refine TO.nil ?_
          refine TC.condF (agree hn) rfl rfl ?_
          refine TC.skip ?_
          refine TC.region (id := 16) ?_
          refine TO.w hn (.move _) rfl (guard0 rfl) (lop_move (agree hn) rfl) rfl ?_
          refine TO.w hn (.binOp _ _ _ _ _) rfl (guard0 rfl) (lop_binI (agree hn) rfl rfl rfl rfl (by omega) (by omega)) rfl ?_
          refine TO.w hn (.assign _) rfl (guard0 rfl) (lop_assign (agree hn) rfl) rfl ?_
          refine TO.nil ?_
          exact ⟨m - 1, by omega, i + 1, by omega, (mkF_length _ _).trans hn, Facts.of (agree hn) ⟨rfl, rfl, rfl, rfl, rfl, trivial⟩, by rw [hk']; exact hr2, hle.set' hw (by omega) _⟩
    · have hi : M - i = 0 := by omega
      rw [hi, encs, List.nil_append] at hr
      have ht := take_back (n := bh.length) hr rfl
      refine TC.seq ?_
      refine TC.seq ?_
      refine TC.region (id := 15) ?_
      refine TO.w hn (.move _) rfl (guard0 rfl) (lop_move (agree hn) rfl) rfl ?_
      refine TO.w hn (.move _) rfl (guard0 rfl) (lop_move (agree hn) rfl) rfl ?_
      refine TO.w hn (.binOp _ _ _ _ _) rfl (guard0 rfl) (lop_binF (agree hn) rfl rfl rfl (by exact decide_eq_false (by omega))) rfl ?_
      refine TO.nil ?_
      refine TC.condF (agree hn) rfl rfl ?_
      refine TC.exit ?_
      refine TC.seq ?_
      refine TC.region (id := 26) ?_
      refine TO.w hn (.move _) rfl (guard0 rfl) (lop_move (agree hn) rfl) rfl ?_
      refine TO.w hn (.move _) rfl (guard0 rfl) (lop_move (agree hn) rfl) rfl ?_
      refine TO.w hn (.call _) rfl (guard0 rfl) (lop_built (agree hn) rfl rfl (lbuiltin_lenS rfl)) rfl ?_
      (refine TO.wc hn (.call _) rfl (guard0 rfl) (lop_func (agree hn) rfl rfl rfl) rfl (CF.co noOwn rfl rfl ht) (fun v H2 hR => ?_); obtain ⟨rfl, x, rfl, hr2⟩ := hR)
      refine TO.w hn (.move _) rfl (guard0 rfl) (lop_move (agree hn) rfl) rfl ?_
      refine TO.w hn (.extract _ _) rfl (guard0 rfl) (lop_ex (agree hn) rfl rfl) rfl ?_
      refine TO.w hn (.extract _ _) rfl (guard0 rfl) (lop_ex (agree hn) rfl rfl) rfl ?_
      refine TO.w hn (.assign _) rfl (guard0 rfl) (lop_assign (agree hn) rfl) rfl ?_
      refine TO.w hn (.assign _) rfl (guard0 rfl) (lop_assign (agree hn) rfl) rfl ?_
      refine TO.nil ?_
      refine TC.seq ?_
      refine TC.region (id := 27) ?_
      refine TO.w hn (.move _) rfl (guard0 rfl) (lop_move (agree hn) rfl) rfl ?_
      refine TO.w hn (.move _) rfl (guard0 rfl) (lop_move (agree hn) rfl) rfl ?_
      refine TO.w hn (.move _) rfl (guardOn (agree hn) rfl rfl rfl rfl) (lop_move (agree hn) rfl) rfl ?_
      refine TO.w hn (.move _) rfl (guardOn (agree hn) rfl rfl rfl rfl) (lop_move (agree hn) rfl) rfl ?_
      refine TO.w hn (.binOp _ _ _ _ _) rfl (guardOn (agree hn) rfl rfl rfl rfl) (lop_eqST (agree hn) rfl rfl (by rfl)) rfl ?_
      refine TO.w hn (.pick _ _ _) rfl (guard0 rfl) (lop_pickT (agree hn) rfl rfl rfl) rfl ?_
      refine TO.w hn (.move _) rfl (guard0 rfl) (lop_move (agree hn) rfl) rfl ?_
      refine TO.w hn (.move _) rfl (guardOn (agree hn) rfl rfl rfl rfl) (lop_move (agree hn) rfl) rfl ?_
      (refine TO.wc hn (.call _) rfl (guardOn (agree hn) rfl rfl rfl rfl) (lop_func (agree hn) rfl rfl rfl) rfl (CF.co noOwn rfl rfl (left_zero hr2)) (fun v H2 hR => ?_); (obtain ⟨rfl, e2⟩ := hR; cases e2.symm))
      refine TO.w hn (.binOp _ _ _ _ _) rfl (guardOn (agree hn) rfl rfl rfl rfl) (lop_binT (agree hn) rfl rfl rfl (by exact beq_self_eq_true _)) rfl ?_
      refine TO.w hn (.pick _ _ _) rfl (guard0 rfl) (lop_pickT (agree hn) rfl rfl rfl) rfl ?_
      refine TO.w hn (.move _) rfl (guard0 rfl) (lop_move (agree hn) rfl) rfl ?_
      (refine TO.wc hn (.call _) rfl (guardOn (agree hn) rfl rfl rfl rfl) (lop_func (agree hn) rfl rfl rfl) rfl (CF.co noOwn rfl rfl works_CF) (fun v H2 hR => ?_); (obtain ⟨rfl, e2⟩ := hR; cases e2.symm))
      refine TO.w hn (.pick _ _ _) rfl (guard0 rfl) (lop_pickT (agree hn) rfl rfl rfl) rfl ?_
      refine TO.w hn (.assign _) rfl (guard0 rfl) (lop_assign (agree hn) rfl) rfl ?_
      refine TO.nil ?_
      refine TC.ret ?_
      exact ⟨trivial, _, lres1 (agree hn) rfl, rfl⟩
end Go.Proofs.Ytbekdbehiacnkaa
