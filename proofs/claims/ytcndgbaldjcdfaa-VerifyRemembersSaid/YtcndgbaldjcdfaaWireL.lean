/- Numbers and texts, laid and read back. -/
import Derived.Test.YtcndgbaldjcdfaaWireT
import Derived.Test.YtcndgbaldjcdfaaWireP
import Derived.Test.YtcndgbaldjcdfaaLite28
namespace Go.Proofs.Ytcndgbaldjcdfaa
set_option maxHeartbeats 8000000
set_option maxRecDepth 100000
open Go Go.Lite
set_option linter.unusedSimpArgs false
set_option linter.unusedVariables false

theorem foldB_put : ∀ (k n a : Nat), (putN k n).foldl (fun v c => v * 256 + c.toNat) a = a * 256 ^ k + n % 256 ^ k
  | 0, n, a => by simp [putN, Nat.mod_one]
  | k + 1, n, a => by
    have h1 : (UInt8.ofNat (n / 256 ^ k)).toNat = n / 256 ^ k % 256 := by simp
    simp only [putN, List.foldl_cons, h1]
    rw [foldB_put k n, Nat.pow_succ, Nat.mod_mul, Nat.add_mul, Nat.mul_assoc, Nat.mul_comm 256 (256 ^ k), Nat.mul_comm (n / 256 ^ k % 256)]
    omega
theorem beN_put (k n : Nat) : beN (putN k n) = n % 256 ^ k := by
  have := foldB_put k n 0
  simpa [beN] using this
theorem take_put (k n : Nat) (r : List UInt8) : (putN k n ++ r).take k = putN k n := by
  have := List.take_left (l₁ := putN k n) (l₂ := r)
  rwa [putN_length] at this
theorem drop_put (k n : Nat) (r : List UInt8) : (putN k n ++ r).drop k = r := by
  have := List.drop_left (l₁ := putN k n) (l₂ := r)
  rwa [putN_length] at this

theorem number_back {H : Hp} {r k v : Nat} {rest : List UInt8} (h : Rd H r (putN k v ++ rest)) (h0 : 1 ≤ k) (h1 : k ≤ 8) : CF Try.prog 29 [.pointer (some ⟨r, 0, none⟩), .int .i64 (k : Nat)] H fun u H' =>
    u = .tuple #[.int .u64 (v % 256 ^ k : Nat), .bool true] ∧ ∃ x, H' = H.set r x ∧ Rd H' r rest := by
  have := number_ok h h0 h1 (by rw [List.length_append, putN_length]; omega)
  rwa [take_put, drop_put, beN_put] at this
theorem text_back {H : Hp} {r : Nat} {s rest : List UInt8} {n : Int} (h : Rd H r (putN 4 s.length ++ s ++ rest)) (hn : (s.length : Int) ≤ n) (hn2 : n ≤ 9223372036854775807) (hs : s.length < 4294967296) (hl : (putN 4 s.length ++ s ++ rest).length ≤ 4611686018427387904) :
    CF Try.prog 35 [.pointer (some ⟨r, 0, none⟩), .int .i64 n] H fun v H' => v = .tuple #[S s, .bool true] ∧ ∃ x, H' = H.set r x ∧ Rd H' r rest := by
  have e1 : beN ((putN 4 s.length ++ s ++ rest).take 4) = s.length := by
    rw [List.append_assoc, take_put, beN_put]
    exact Nat.mod_eq_of_lt hs
  have hlen : (putN 4 s.length ++ s ++ rest).length = 4 + s.length + rest.length := by rw [List.length_append, List.length_append, putN_length]
  have := text_ok (n := n) h hn2 hl ⟨by omega, by omega, by rw [e1]; exact hn, by rw [e1]; omega⟩
  rw [e1, ← List.drop_drop, List.append_assoc, drop_put, List.take_left, List.drop_left] at this
  exact this
theorem take_back {H : Hp} {r n : Nat} {l : List UInt8} (h : Rd H r l) (hn : n = l.length) : CF Try.prog 42 [.pointer (some ⟨r, 0, none⟩), .int .i64 (n : Nat)] H fun v H' => v = .tuple #[S l, .bool true] ∧ ∃ x, H' = H.set r x ∧ Rd H' r [] := by
  subst hn
  have := take_ok (n := (l.length : Nat)) h (by omega) (by omega)
  simpa using this
theorem left_zero {H : Hp} {r : Nat} (h : Rd H r []) : CF Try.prog 37 [.pointer (some ⟨r, 0, none⟩)] H fun v H' => v = .int .i64 0 ∧ H' = H := left_CF h


theorem foldB_acc : ∀ (l : List UInt8) (a : Nat), l.foldl (fun v c => v * 256 + c.toNat) a = a * 256 ^ l.length + beN l
  | [], a => by simp [beN]
  | c :: r, a => by
    have h1 := foldB_acc r (a * 256 + c.toNat)
    have h2 := foldB_acc r (0 * 256 + c.toNat)
    have h3 : beN (c :: r) = r.foldl (fun v c => v * 256 + c.toNat) (0 * 256 + c.toNat) := rfl
    rw [List.foldl_cons, h1, h3, h2, List.length_cons, Nat.pow_succ, Nat.zero_mul, Nat.zero_add, Nat.add_mul, Nat.mul_assoc, Nat.mul_comm 256 (256 ^ r.length)]
    omega
theorem beN_cons (c : UInt8) (r : List UInt8) : beN (c :: r) = c.toNat * 256 ^ r.length + beN r := by
  have h3 : beN (c :: r) = r.foldl (fun v c => v * 256 + c.toNat) (0 * 256 + c.toNat) := rfl
  rw [h3, foldB_acc, Nat.zero_mul, Nat.zero_add]
theorem u8_mod (a m : Nat) : UInt8.ofNat (a + m * 256) = UInt8.ofNat a := by
  apply UInt8.toNat.inj
  simp
theorem putN_mod : ∀ (k n m : Nat), putN k (n + m * 256 ^ k) = putN k n
  | 0, _, _ => rfl
  | k + 1, n, m => by
    have hp : 0 < 256 ^ k := Nat.pow_pos (by decide)
    have e : n + m * 256 ^ (k + 1) = n + (m * 256) * 256 ^ k := by rw [Nat.pow_succ, Nat.mul_assoc, Nat.mul_comm 256 (256 ^ k)]
    simp only [putN]
    rw [e, putN_mod k n (m * 256), Nat.add_mul_div_right _ _ hp, u8_mod]
theorem putN_beN : ∀ l : List UInt8, putN l.length (beN l) = l
  | [] => rfl
  | c :: r => by
    have hp : 0 < 256 ^ r.length := Nat.pow_pos (by decide)
    have hl := beN_lt r
    rw [List.length_cons, beN_cons, putN]
    have e1 : (c.toNat * 256 ^ r.length + beN r) / 256 ^ r.length = c.toNat := by
      rw [Nat.add_comm, Nat.add_mul_div_right _ _ hp, Nat.div_eq_of_lt hl, Nat.zero_add]
    rw [e1, Nat.add_comm, putN_mod, putN_beN r]
    simp
/-- A text that can be taken stands so. -/
theorem text_shape {l : List UInt8} {m : Int} (h : textOk l m) : l = putN 4 ((l.drop 4).take (beN (l.take 4))).length ++ (l.drop 4).take (beN (l.take 4)) ++ l.drop (4 + beN (l.take 4)) := by
  obtain ⟨_, h2, _, h4⟩ := h
  have h5 : (l.take 4).length = 4 := by rw [List.length_take]; omega
  have h6 := putN_beN (l.take 4)
  rw [h5] at h6
  have h7 : ((l.drop 4).take (beN (l.take 4))).length = beN (l.take 4) := by rw [List.length_take, List.length_drop]; omega
  rw [h7, h6, ← List.drop_drop, List.append_assoc, List.take_append_drop, List.take_append_drop]
end Go.Proofs.Ytcndgbaldjcdfaa
