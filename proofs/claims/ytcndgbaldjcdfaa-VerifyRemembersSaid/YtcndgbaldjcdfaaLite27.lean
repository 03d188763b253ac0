/- Lite, part 27: shifts and masks by numerals; new slices of bytes; a library function that the model answers at once. -/
import Derived.Test.YtcndgbaldjcdfaaLite26
import Derived.Laws.StandIn
namespace Go.Lite
open Go
set_option linter.unusedSimpArgs false
set_option linter.unusedVariables false

/-- Powers of two, as numerals. -/
def pow2 : Nat → Option Int
  | 0 => some 1
  | 1 => some 2
  | 2 => some 4
  | 3 => some 8
  | 4 => some 16
  | 5 => some 32
  | 6 => some 64
  | 7 => some 128
  | 8 => some 256
  | 9 => some 512
  | 10 => some 1024
  | 11 => some 2048
  | 12 => some 4096
  | 13 => some 8192
  | 14 => some 16384
  | 15 => some 32768
  | 16 => some 65536
  | 17 => some 131072
  | 18 => some 262144
  | 19 => some 524288
  | 20 => some 1048576
  | 21 => some 2097152
  | 22 => some 4194304
  | 23 => some 8388608
  | 24 => some 16777216
  | 25 => some 33554432
  | 26 => some 67108864
  | 27 => some 134217728
  | 28 => some 268435456
  | 29 => some 536870912
  | 30 => some 1073741824
  | 31 => some 2147483648
  | 32 => some 4294967296
  | 33 => some 8589934592
  | 34 => some 17179869184
  | 35 => some 34359738368
  | 36 => some 68719476736
  | 37 => some 137438953472
  | 38 => some 274877906944
  | 39 => some 549755813888
  | 40 => some 1099511627776
  | 41 => some 2199023255552
  | 42 => some 4398046511104
  | 43 => some 8796093022208
  | 44 => some 17592186044416
  | 45 => some 35184372088832
  | 46 => some 70368744177664
  | 47 => some 140737488355328
  | 48 => some 281474976710656
  | 49 => some 562949953421312
  | 50 => some 1125899906842624
  | 51 => some 2251799813685248
  | 52 => some 4503599627370496
  | 53 => some 9007199254740992
  | 54 => some 18014398509481984
  | 55 => some 36028797018963968
  | 56 => some 72057594037927936
  | 57 => some 144115188075855872
  | 58 => some 288230376151711744
  | 59 => some 576460752303423488
  | 60 => some 1152921504606846976
  | 61 => some 2305843009213693952
  | 62 => some 4611686018427387904
  | 63 => some 9223372036854775808
  | 64 => some 18446744073709551616
  | _ => none
theorem pow2_eq {m : Nat} {z : Int} (h : pow2 m = some z) : (2 : Int) ^ m = z := by
  unfold pow2 at h
  split at h <;> first | (cases h; rfl) | cases h
theorem pow2_pos {m : Nat} {z : Int} (h : pow2 m = some z) : 0 < z := by
  rw [← pow2_eq h]
  exact Int.pow_pos (by decide)
/-- The number behind a mask of ones. -/
def maskT : Int → Option Nat
  | 1 => some 1
  | 3 => some 2
  | 7 => some 3
  | 15 => some 4
  | 31 => some 5
  | 63 => some 6
  | 127 => some 7
  | 255 => some 8
  | 511 => some 9
  | 1023 => some 10
  | 2047 => some 11
  | 4095 => some 12
  | 8191 => some 13
  | 16383 => some 14
  | 32767 => some 15
  | 65535 => some 16
  | 131071 => some 17
  | 262143 => some 18
  | 524287 => some 19
  | 1048575 => some 20
  | 2097151 => some 21
  | 4194303 => some 22
  | 8388607 => some 23
  | 16777215 => some 24
  | 33554431 => some 25
  | 67108863 => some 26
  | 134217727 => some 27
  | 268435455 => some 28
  | 536870911 => some 29
  | 1073741823 => some 30
  | 2147483647 => some 31
  | 4294967295 => some 32
  | 8589934591 => some 33
  | 17179869183 => some 34
  | 34359738367 => some 35
  | 68719476735 => some 36
  | 137438953471 => some 37
  | 274877906943 => some 38
  | 549755813887 => some 39
  | 1099511627775 => some 40
  | 2199023255551 => some 41
  | 4398046511103 => some 42
  | 8796093022207 => some 43
  | 17592186044415 => some 44
  | 35184372088831 => some 45
  | 70368744177663 => some 46
  | 140737488355327 => some 47
  | 281474976710655 => some 48
  | 562949953421311 => some 49
  | 1125899906842623 => some 50
  | 2251799813685247 => some 51
  | 4503599627370495 => some 52
  | 9007199254740991 => some 53
  | 18014398509481983 => some 54
  | 36028797018963967 => some 55
  | 72057594037927935 => some 56
  | 144115188075855871 => some 57
  | 288230376151711743 => some 58
  | 576460752303423487 => some 59
  | 1152921504606846975 => some 60
  | 2305843009213693951 => some 61
  | 4611686018427387903 => some 62
  | 9223372036854775807 => some 63
  | 18446744073709551615 => some 64
  | _ => none
theorem maskT_eq {x : Int} {m : Nat} (h : maskT x = some m) : x = 2 ^ m - 1 := by
  unfold maskT at h
  split at h <;> first | (cases h; rfl) | cases h
def bitsLe (m : Nat) (k : IntKind) : Bool := Nat.ble m k.bits

section
variable {P : Program} {H : Hp} {fr : Frame} {L : Nat → Option Value}
theorem lop_shrP (hL : Agree L fr) {t t' : TypeId} {x y : Operand} {k k' : IntKind} {n m z : Int} (hx : aoN P H L x = some (.int k n)) (hy : aoN P H L y = some (.int k' m)) (hz : pow2 (min m.toNat k.bits) = some z) (h0 : 0 ≤ n) (hm : 0 ≤ m) :
    lop P (.binOp .shr t x y t') fr H = some (.val (.int k (n / z)) H) := by
  rw [lop_shr hL hx hy hm, pow2_eq hz, Int.fdiv_eq_ediv_of_nonneg _ (Int.le_of_lt (pow2_pos hz))]
theorem lop_shlP (hL : Agree L fr) {t t' : TypeId} {x y : Operand} {k k' : IntKind} {n m z lo hi : Int} (hx : aoN P H L x = some (.int k n)) (hy : aoN P H L y = some (.int k' m)) (hz : pow2 (min m.toNat k.bits) = some z) (hm : 0 ≤ m) (hr : rangeK k = (lo, hi)) (h1 : lo ≤ n * z) (h2 : n * z ≤ hi) :
    lop P (.binOp .shl t x y t') fr H = some (.val (.int k (n * z)) H) := by
  rw [lop_shl hL hx hy hm, pow2_eq hz, wrap_range hr h1 h2]
theorem and_mask (k : IntKind) {n : Int} {m : Nat} (h0 : 0 ≤ n) (hn : n < 2 ^ k.bits) (hm : m ≤ k.bits) : ((BitVec.ofInt k.bits n &&& BitVec.ofInt k.bits (2 ^ m - 1)).toNat : Int) = n % 2 ^ m := by
  obtain ⟨a, rfl⟩ := Int.eq_ofNat_of_zero_le h0
  have hp : 1 ≤ 2 ^ m := Nat.one_le_two_pow
  have e1 : ((2 : Int) ^ m - 1) = ((2 ^ m - 1 : Nat) : Int) := by
    rw [Int.ofNat_sub hp]
    simp
  have e2 : (2 ^ m - 1) % 2 ^ k.bits = 2 ^ m - 1 := Nat.mod_eq_of_lt (by
    have := Nat.pow_le_pow_right (n := 2) (by decide) hm
    omega)
  have e3 : a % 2 ^ k.bits = a := Nat.mod_eq_of_lt (by exact_mod_cast hn)
  rw [e1, BitVec.toNat_and, BitVec.ofInt_natCast, BitVec.ofInt_natCast, BitVec.toNat_ofNat, BitVec.toNat_ofNat, e2, e3, Nat.and_two_pow_sub_one_eq_mod]
  norm_cast
theorem range_bits {k : IntKind} {lo hi n : Int} (h : rangeK k = (lo, hi)) (h0 : 0 ≤ n) (h2 : n ≤ hi) : n < 2 ^ k.bits := by
  cases k <;> simp only [rangeK, Prod.mk.injEq] at h <;> obtain ⟨rfl, rfl⟩ := h <;> simp only [IntKind.bits] <;> omega
theorem lop_andM (hL : Agree L fr) {t t' : TypeId} {x y : Operand} {k : IntKind} {n m z lo hi : Int} {b : Nat} (hx : aoN P H L x = some (.int k n)) (hy : aoN P H L y = some (.int k m)) (hm : maskT m = some b) (hz : pow2 b = some z) (hb : bitsLe b k = true) (hr : rangeK k = (lo, hi)) (h0 : 0 ≤ n) (h2 : n ≤ hi) (h3 : lo ≤ 0) :
    lop P (.binOp .and t x y t') fr H = some (.val (.int k (n % z)) H) := by
  have e : lbin P .and t x y (.int k n) (.int k m) = some (.int k (k.wrap ((BitVec.ofInt k.bits n &&& BitVec.ofInt k.bits m).toNat))) := by simp [lbin, lint]
  have hp := pow2_pos hz
  have h4 : 0 ≤ n % z := Int.emod_nonneg _ (by omega)
  have h5 : n % z ≤ n := by
    have := Int.emod_add_mul_ediv n z
    have h6 : 0 ≤ n / z := Int.ediv_nonneg h0 (by omega)
    have := Int.mul_nonneg (Int.le_of_lt hp) h6
    omega
  rw [lop_bin hL hx hy e, maskT_eq hm, and_mask k h0 (range_bits hr h0 h2) (Nat.le_of_ble_eq_true hb), pow2_eq hz, wrap_range hr (by omega) (by omega)]
/-- A new slice of bytes. -/
theorem lop_mkB (hL : Agree L fr) {t : TypeId} {x y : Operand} {k k' : IntKind} {n m : Int} (hx : aoN P H L x = some (.int k n)) (hy : aoN P H L y = some (.int k' m)) (ht : byteT P t = true) (h0 : 0 ≤ n) (h1 : n ≤ m) (h2 : m ≤ 281474976710656) :
    lop P (.makeSlice t x y) fr H = some (.val (.slice (some ⟨H.n, 0, none⟩) n.toNat n.toNat) (H.new (.ints true .u8 (List.replicate n.toNat 0)))) := by
  obtain ⟨e, i, hB⟩ := byteT_spec ht
  have h3 : (0 ≤ n ∧ n ≤ m ∧ m ≤ 9223372036854775807 ∧ m ≤ 281474976710656) := by omega
  simp [lop, lop1, ao_of hL hx, ao_of hL hy, lmakeSlice, hB.u, hB.info, hB.zero, hB.bytes, hB.size, cellsOf, hB.int, lnew, onlyVal, h3]

/-- A call of a function of the library that the model answers at once. -/
theorem CO.indexByte {f : FuncId} {fn : Func} (hf : P.funcs[f]? = some fn) (hname : (fn.name == "runtime.NumGoroutine") = false) (hb : fn.body.isNone = true) (hn : Extern.findNext fn = none) (he : Extern.find fn = some Extern.BytealgIndexByte.indexByte)
    (l : List UInt8) (c : UInt8) : CO P f [S l, .int .u8 c.toNat] H fun v H' => v = .int .i64 (firstIdx ⟨l.toArray⟩ c) ∧ H' = H := by
  intro E μ w args' hR hl
  refine .inr ⟨.int .i64 (firstIdx ⟨l.toArray⟩ c), _, H, μ, w, ?_, ⟨rfl, rfl⟩, Ext.refl μ, .int _ _, hR⟩
  have h1 : args' = #[S l, .int .u8 c.toNat] := by
    obtain ⟨x, xs, hx, h2, h3⟩ := hl.cons_inv
    obtain ⟨y, ys, rfl, h4, h5⟩ := h3.cons_inv
    cases h5.nil_inv
    cases h2.scal_eq rfl
    cases h4.scal_eq rfl
    exact Array.ext' hx
  rw [run_callFunc_indexByte hf hname hb hn he, h1]
  have h2 : ((c.toNat : Nat) : Int).toNat.toUInt8 = c := by simp
  have := run_indexByte_string (P := P) ⟨l.toArray⟩ (c.toNat : Int) w
  rw [h2] at this
  show Result.andThen (Sem.run P (Extern.BytealgIndexByte.indexByte #[.string ⟨l.toArray⟩, .int .u8 (c.toNat : Int)]) w) _ = _
  rw [this]
  rfl
end
end Go.Lite
