/- Readers of bytes, the program's and the document's: what each call answers and leaves. -/
import Derived.Test.YtcndgbaldjcdfaaWireA
namespace Go.Proofs.Ytcndgbaldjcdfaa
set_option maxHeartbeats 8000000
set_option maxRecDepth 100000
open Go Go.Lite
set_option linter.unusedSimpArgs false
set_option linter.unusedVariables false

theorem noOwnB : (Try.prog.funcs.all fun fn => !(fn.name == "runtime.NumGoroutine")) = true := by kernel_rfl
theorem noOwn : NoOwn Try.prog := fun f fn h _ => by
  have := Array.all_eq_true_iff_forall_mem.1 noOwnB fn (Array.mem_of_getElem? h)
  simpa using this

def u8s (l : List UInt8) : List Int := l.map fun c => (c.toNat : Int)
/-- A reader of the program's, with so many bytes left. -/
def Rd (H : Hp) (r : Nat) (l : List UInt8) : Prop :=
  ∃ (b o n c : Nat) (L : List UInt8), H.f r = some (.cells true 1 [.slice (some ⟨b, o, none⟩) n c]) ∧ H.f b = some (.ints true .u8 (L.map fun c => (c.toNat : Int))) ∧ o + n = L.length ∧ l = L.drop o ∧ b ≠ r ∧ r < H.n ∧ b < H.n
theorem Rd.new {H : Hp} {r : Nat} {l : List UInt8} (h : Rd H r l) (x : Blk) : Rd (H.new x) r l := by
  obtain ⟨b, o, m, c, L, h1, h2, h3, h4, h5⟩ := h
  exact ⟨b, o, m, c, L, (new_other x (Nat.ne_of_lt h5.2.1)).trans h1, (new_other x (Nat.ne_of_lt h5.2.2)).trans h2, h3, h4, h5.1, Nat.lt_succ_of_lt h5.2.1, Nat.lt_succ_of_lt h5.2.2⟩
theorem Rd.setc {H : Hp} {r q : Nat} {l : List UInt8} {y : List Value} (h : Rd H r l) (hq : H.f q = some (.cells true 1 y)) (hne : q ≠ r) (x : Blk) : Rd (H.set q x) r l := by
  obtain ⟨b, o, m, c, L, h1, h2, h3, h4, h5⟩ := h
  refine ⟨b, o, m, c, L, (set_other x (Ne.symm hne)).trans h1, (set_other x ?_).trans h2, h3, h4, h5⟩
  intro e
  subst e
  rw [hq] at h2
  cases h2
/-- A reader of the document's. -/
def RdR (H : Hp) (r : Nat) (l : List UInt8) : Prop := H.f r = some (.cells true 1 [S l])
theorem left_CF {H : Hp} {r : Nat} {l : List UInt8} (h : Rd H r l) : CF Try.prog 37 [.pointer (some ⟨r, 0, none⟩)] H fun v H' => v = .int .i64 l.length ∧ H' = H := by
  obtain ⟨b, o, n, c, L, h1, h2, h3, h4, h5⟩ := h
  refine CF.go _ Try.func37 rfl ⟨Nat.le_of_ble_eq_true rfl, rfl⟩ fun base hb0 hn => ?_
  subst hb0
  refine TC.seq ?_
  refine TC.region (id := 0) ?_
  refine TO.w hn (.assign _) rfl (guard0 rfl) (lop_assign (agree hn) rfl) rfl ?_
  refine TO.nil ?_
  refine TC.seq ?_
  refine TC.seq ?_
  refine TC.region (id := 1) ?_
  refine TO.w hn (.move _) rfl (guard0 rfl) (lop_move (agree hn) rfl) rfl ?_
  refine TO.w hn (.binOp _ _ _ _ _) rfl (guard0 rfl) (lop_binF (agree hn) rfl rfl rfl (by with_reducible rfl)) rfl ?_
  refine TO.nil ?_
  refine TC.condF (agree hn) rfl rfl ?_
  refine TC.skip ?_
  refine TC.seq ?_
  refine TC.region (id := 3) ?_
  refine TO.w hn (.move _) rfl (guard0 rfl) (lop_move (agree hn) rfl) rfl ?_
  refine TO.w hn (.nilCheck _) rfl (guard0 rfl) (lop_nil (agree hn) rfl rfl) rfl ?_
  refine TO.w hn (.fieldAddr _ _ _) rfl (guard0 rfl) (lop_fa (agree hn) rfl rfl) rfl ?_
  refine TO.w hn (.load _ _) rfl (guard0 rfl) (lop_load (agree hn) rfl (by assumption) rfl rfl) rfl ?_
  refine TO.w hn (.call _) rfl (guard0 rfl) (lop_built (agree hn) rfl rfl (lbuiltin_lenL rfl)) rfl ?_
  refine TO.w hn (.assign _) rfl (guard0 rfl) (lop_assign (agree hn) rfl) rfl ?_
  refine TO.nil ?_
  refine TC.ret ?_
  refine ⟨trivial, _, lres1 (agree hn) rfl, ?_, rfl⟩
  have : l.length = n := by rw [h4, List.length_drop]; omega
  rw [this]
theorem new_CF {H : Hp} (s : List UInt8) : CF Try.prog 28 [S s] H fun v H' => v = .pointer (some ⟨H.n + 1, 0, none⟩) ∧ H.le H' ∧ H'.n = H.n + 2 ∧ Rd H' (H.n + 1) s := by
  refine CF.wf fun hw => ?_
  refine CF.go _ Try.func28 rfl ⟨Nat.le_of_ble_eq_true rfl, rfl⟩ fun base hb0 hn => ?_
  subst hb0
  refine TC.seq ?_
  refine TC.region (id := 0) ?_
  refine TO.w hn (.assign _) rfl (guard0 rfl) (lop_assign (agree hn) rfl) rfl ?_
  refine TO.nil ?_
  refine TC.seq ?_
  refine TC.region (id := 1) ?_
  refine TO.w hn (.move _) rfl (guard0 rfl) (lop_move (agree hn) rfl) rfl ?_
  refine TO.w hn (.convert _ _ _) rfl (guard0 rfl) (lop_convSB (agree hn) rfl rfl rfl rfl) rfl ?_
  refine TO.w hn (.build _ _) rfl (guard0 rfl) (lop_build (agree hn) rfl rfl) rfl ?_
  refine TO.w hn (.box _ _) rfl (guard0 rfl) (lop_box (agree hn) rfl) rfl ?_
  refine TO.w hn (.assign _) rfl (guard0 rfl) (lop_assign (agree hn) rfl) rfl ?_
  refine TO.nil ?_
  refine TC.ret ?_
  refine ⟨trivial, _, lres1 (agree hn) rfl, rfl, (Hp.le.new _ hw).trans (Hp.le.new _ (hw.new _)), rfl, H.n, 0, s.length, s.length, s, ?_, ?_, Nat.zero_add _, rfl, Nat.ne_of_lt (Nat.lt_succ_self _), Nat.lt_succ_self _, Nat.lt_succ_of_lt (Nat.lt_succ_self _)⟩
  · exact new_self _ _
  · refine (new_other _ ?_).trans (new_self _ _)
    show H.n ≠ H.n + 1
    omega
theorem newR_CF {H : Hp} (s : List UInt8) : CF Try.prog 39 [S s] H fun v H' => v = .pointer (some ⟨H.n, 0, none⟩) ∧ H.le H' ∧ H'.n = H.n + 1 ∧ RdR H' H.n s := by
  refine CF.wf fun hw => ?_
  refine CF.go _ Try.func39 rfl ⟨Nat.le_of_ble_eq_true rfl, rfl⟩ fun base hb0 hn => ?_
  subst hb0
  refine TC.seq ?_
  refine TC.region (id := 0) ?_
  refine TO.w hn (.assign _) rfl (guard0 rfl) (lop_assign (agree hn) rfl) rfl ?_
  refine TO.nil ?_
  refine TC.seq ?_
  refine TC.region (id := 1) ?_
  refine TO.w hn (.move _) rfl (guard0 rfl) (lop_move (agree hn) rfl) rfl ?_
  refine TO.w hn (.build _ _) rfl (guard0 rfl) (lop_build (agree hn) rfl rfl) rfl ?_
  refine TO.w hn (.box _ _) rfl (guard0 rfl) (lop_box (agree hn) rfl) rfl ?_
  refine TO.w hn (.assign _) rfl (guard0 rfl) (lop_assign (agree hn) rfl) rfl ?_
  refine TO.nil ?_
  refine TC.ret ?_
  exact ⟨trivial, _, lres1 (agree hn) rfl, rfl, Hp.le.new _ hw, rfl, new_self _ _⟩

theorem take_ok {H : Hp} {r : Nat} {l : List UInt8} {n : Int} (h : Rd H r l) (h0 : 0 ≤ n) (hl : n ≤ l.length) : CF Try.prog 42 [.pointer (some ⟨r, 0, none⟩), .int .i64 n] H fun v H' =>
    v = .tuple #[S (l.take n.toNat), .bool true] ∧ ∃ x, H' = H.set r x ∧ Rd H' r (l.drop n.toNat) := by
  obtain ⟨b, o, m, c, L, h1, h2, h3, h4, h5⟩ := h
  have h6 : l.length = m := by rw [h4, List.length_drop]; omega
  refine CF.go _ Try.func42 rfl ⟨Nat.le_of_ble_eq_true rfl, rfl⟩ fun base hb0 hn => ?_
  subst hb0
  refine TC.seq ?_
  refine TC.region (id := 0) ?_
  refine TO.w hn (.assign _) rfl (guard0 rfl) (lop_assign (agree hn) rfl) rfl ?_
  refine TO.w hn (.assign _) rfl (guard0 rfl) (lop_assign (agree hn) rfl) rfl ?_
  refine TO.nil ?_
  refine TC.seq ?_
  refine TC.seq ?_
  refine TC.region (id := 1) ?_
  refine TO.w hn (.move _) rfl (guard0 rfl) (lop_move (agree hn) rfl) rfl ?_
  refine TO.w hn (.binOp _ _ _ _ _) rfl (guard0 rfl) (lop_binF (agree hn) rfl rfl rfl (by with_reducible rfl)) rfl ?_
  refine TO.w hn (.move _) rfl (guard0 rfl) (lop_move (agree hn) rfl) rfl ?_
  refine TO.w hn (.move _) rfl (guardOn (agree hn) rfl rfl rfl rfl) (lop_move (agree hn) rfl) rfl ?_
  refine TO.w hn (.binOp _ _ _ _ _) rfl (guardOn (agree hn) rfl rfl rfl rfl) (lop_binF (agree hn) rfl rfl rfl (by exact decide_eq_false (by omega))) rfl ?_
  refine TO.w hn (.pick _ _ _) rfl (guard0 rfl) (lop_pickF (agree hn) rfl rfl rfl) rfl ?_
  refine TO.w hn (.move _) rfl (guard0 rfl) (lop_move (agree hn) rfl) rfl ?_
  refine TO.w hn (.move _) rfl (guardOn (agree hn) rfl rfl rfl rfl) (lop_move (agree hn) rfl) rfl ?_
  refine TO.w hn (.move _) rfl (guardOn (agree hn) rfl rfl rfl rfl) (lop_move (agree hn) rfl) rfl ?_
  refine TO.w hn (.nilCheck _) rfl (guardOn (agree hn) rfl rfl rfl rfl) (lop_nil (agree hn) rfl rfl) rfl ?_
  refine TO.w hn (.fieldAddr _ _ _) rfl (guardOn (agree hn) rfl rfl rfl rfl) (lop_fa (agree hn) rfl rfl) rfl ?_
  refine TO.w hn (.load _ _) rfl (guardOn (agree hn) rfl rfl rfl rfl) (lop_load (agree hn) rfl (by assumption) rfl rfl) rfl ?_
  refine TO.w hn (.call _) rfl (guardOn (agree hn) rfl rfl rfl rfl) (lop_built (agree hn) rfl rfl (lbuiltin_lenL rfl)) rfl ?_
  refine TO.w hn (.binOp _ _ _ _ _) rfl (guardOn (agree hn) rfl rfl rfl rfl) (lop_binF (agree hn) rfl rfl rfl (by exact decide_eq_false (by omega))) rfl ?_
  refine TO.w hn (.pick _ _ _) rfl (guard0 rfl) (lop_pickF (agree hn) rfl rfl rfl) rfl ?_
  refine TO.nil ?_
  refine TC.condF (agree hn) rfl rfl ?_
  refine TC.skip ?_
  refine TC.seq ?_
  refine TC.region (id := 3) ?_
  refine TO.w hn (.move _) rfl (guard0 rfl) (lop_move (agree hn) rfl) rfl ?_
  refine TO.w hn (.nilCheck _) rfl (guard0 rfl) (lop_nil (agree hn) rfl rfl) rfl ?_
  refine TO.w hn (.fieldAddr _ _ _) rfl (guard0 rfl) (lop_fa (agree hn) rfl rfl) rfl ?_
  refine TO.w hn (.load _ _) rfl (guard0 rfl) (lop_load (agree hn) rfl (by assumption) rfl rfl) rfl ?_
  refine TO.w hn (.move _) rfl (guard0 rfl) (lop_move (agree hn) rfl) rfl ?_
  refine TO.w hn (.move _) rfl (guard0 rfl) (lop_move (agree hn) rfl) rfl ?_
  refine TO.w hn (.slice _ _ _ _ _) rfl (guard0 rfl) (lop_slice (agree hn) rfl rfl rfl rfl (lsliceL31 rfl (by exact lboundI (by omega) (by omega)) (by exact lboundI (by omega) (by omega)) (by exact lbound0) rfl (by assumption) rfl rfl)) rfl ?_
  refine TO.w hn (.convert _ _ _) rfl (guard0 rfl) (lop_convBS (agree hn) rfl rfl rfl rfl (by assumption) (by omega)) rfl ?_
  refine TO.w hn (.assign _) rfl (guard0 rfl) (lop_assign (agree hn) rfl) rfl ?_
  refine TO.nil ?_
  refine TC.seq ?_
  refine TC.region (id := 4) ?_
  refine TO.w hn (.move _) rfl (guard0 rfl) (lop_move (agree hn) rfl) rfl ?_
  refine TO.w hn (.move _) rfl (guard0 rfl) (lop_move (agree hn) rfl) rfl ?_
  refine TO.w hn (.nilCheck _) rfl (guard0 rfl) (lop_nil (agree hn) rfl rfl) rfl ?_
  refine TO.w hn (.fieldAddr _ _ _) rfl (guard0 rfl) (lop_fa (agree hn) rfl rfl) rfl ?_
  refine TO.w hn (.load _ _) rfl (guard0 rfl) (lop_load (agree hn) rfl (by assumption) rfl rfl) rfl ?_
  refine TO.w hn (.move _) rfl (guard0 rfl) (lop_move (agree hn) rfl) rfl ?_
  refine TO.w hn (.slice _ _ _ _ _) rfl (guard0 rfl) (lop_slice (agree hn) rfl rfl rfl rfl (lsliceL1 rfl (by exact lbound0) (by exact lboundI (by omega) (by omega)) rfl (by assumption) rfl rfl)) rfl ?_
  refine TO.w hn (.nilCheck _) rfl (guard0 rfl) (lop_nil (agree hn) rfl rfl) rfl ?_
  refine TO.w hn (.fieldAddr _ _ _) rfl (guard0 rfl) (lop_fa (agree hn) rfl rfl) rfl ?_
  refine TO.w0 hn (.store _ _ _) rfl (guard0 rfl) (lop_store (agree hn) rfl rfl (by assumption) rfl rfl rfl) rfl ?_
  refine TO.nil ?_
  refine TC.seq ?_
  refine TC.region (id := 5) ?_
  refine TO.w hn (.move _) rfl (guard0 rfl) (lop_move (agree hn) rfl) rfl ?_
  refine TO.w hn (.assign _) rfl (guard0 rfl) (lop_assign (agree hn) rfl) rfl ?_
  refine TO.w hn (.assign _) rfl (guard0 rfl) (lop_assign (agree hn) rfl) rfl ?_
  refine TO.nil ?_
  refine TC.ret ?_
  refine ⟨trivial, _, lresT (agree hn) rfl rfl, ?_, _, rfl, b, o + n.toNat, m - n.toNat, _, L, set_self _ _ _, (set_other _ h5.1).trans h2, by omega, ?_, h5⟩
  · rw [h4]; rfl
  · rw [h4, List.drop_drop]
theorem take_no {H : Hp} {r : Nat} {l : List UInt8} {n : Int} (h : Rd H r l) (h0 : n < 0 ∨ (l.length : Int) < n) : CF Try.prog 42 [.pointer (some ⟨r, 0, none⟩), .int .i64 n] H fun v H' => v = .tuple #[S [], .bool false] ∧ H' = H := by
  obtain ⟨b, o, m, c, L, h1, h2, h3, h4, h5⟩ := h
  have h6 : l.length = m := by rw [h4, List.length_drop]; omega
  refine CF.go _ Try.func42 rfl ⟨Nat.le_of_ble_eq_true rfl, rfl⟩ fun base hb0 hn => ?_
  subst hb0
  by_cases hneg : n < 0
  ·
    refine TC.seq ?_
    refine TC.region (id := 0) ?_
    refine TO.w hn (.assign _) rfl (guard0 rfl) (lop_assign (agree hn) rfl) rfl ?_
    refine TO.w hn (.assign _) rfl (guard0 rfl) (lop_assign (agree hn) rfl) rfl ?_
    refine TO.nil ?_
    refine TC.seq ?_
    refine TC.seq ?_
    refine TC.region (id := 1) ?_
    refine TO.w hn (.move _) rfl (guard0 rfl) (lop_move (agree hn) rfl) rfl ?_
    refine TO.w hn (.binOp _ _ _ _ _) rfl (guard0 rfl) (lop_binF (agree hn) rfl rfl rfl (by with_reducible rfl)) rfl ?_
    refine TO.w hn (.move _) rfl (guard0 rfl) (lop_move (agree hn) rfl) rfl ?_
    refine TO.w hn (.move _) rfl (guardOn (agree hn) rfl rfl rfl rfl) (lop_move (agree hn) rfl) rfl ?_
    refine TO.w hn (.binOp _ _ _ _ _) rfl (guardOn (agree hn) rfl rfl rfl rfl) (lop_binT (agree hn) rfl rfl rfl (by exact decide_eq_true (by omega))) rfl ?_
    refine TO.w hn (.pick _ _ _) rfl (guard0 rfl) (lop_pickF (agree hn) rfl rfl rfl) rfl ?_
    refine TO.w hn (.move _) rfl (guard0 rfl) (lop_move (agree hn) rfl) rfl ?_
    refine TO.woff hn (guardOff (agree hn) rfl rfl rfl rfl) rfl ?_
    refine TO.woff hn (guardOff (agree hn) rfl rfl rfl rfl) rfl ?_
    refine TO.woff hn (guardOff (agree hn) rfl rfl rfl rfl) rfl ?_
    refine TO.woff hn (guardOff (agree hn) rfl rfl rfl rfl) rfl ?_
    refine TO.woff hn (guardOff (agree hn) rfl rfl rfl rfl) rfl ?_
    refine TO.woff hn (guardOff (agree hn) rfl rfl rfl rfl) rfl ?_
    refine TO.woff hn (guardOff (agree hn) rfl rfl rfl rfl) rfl ?_
    refine TO.w hn (.pick _ _ _) rfl (guard0 rfl) (lop_pickT (agree hn) rfl rfl rfl) rfl ?_
    refine TO.nil ?_
    refine TC.condT (agree hn) rfl rfl ?_
    refine TC.seq ?_
    refine TC.region (id := 2) ?_
    refine TO.w hn (.assign _) rfl (guard0 rfl) (lop_assign (agree hn) rfl) rfl ?_
    refine TO.w hn (.assign _) rfl (guard0 rfl) (lop_assign (agree hn) rfl) rfl ?_
    refine TO.nil ?_
    refine TC.ret ?_
    exact ⟨trivial, _, lresT (agree hn) rfl rfl, rfl, rfl⟩
  ·
    refine TC.seq ?_
    refine TC.region (id := 0) ?_
    refine TO.w hn (.assign _) rfl (guard0 rfl) (lop_assign (agree hn) rfl) rfl ?_
    refine TO.w hn (.assign _) rfl (guard0 rfl) (lop_assign (agree hn) rfl) rfl ?_
    refine TO.nil ?_
    refine TC.seq ?_
    refine TC.seq ?_
    refine TC.region (id := 1) ?_
    refine TO.w hn (.move _) rfl (guard0 rfl) (lop_move (agree hn) rfl) rfl ?_
    refine TO.w hn (.binOp _ _ _ _ _) rfl (guard0 rfl) (lop_binF (agree hn) rfl rfl rfl (by with_reducible rfl)) rfl ?_
    refine TO.w hn (.move _) rfl (guard0 rfl) (lop_move (agree hn) rfl) rfl ?_
    refine TO.w hn (.move _) rfl (guardOn (agree hn) rfl rfl rfl rfl) (lop_move (agree hn) rfl) rfl ?_
    refine TO.w hn (.binOp _ _ _ _ _) rfl (guardOn (agree hn) rfl rfl rfl rfl) (lop_binF (agree hn) rfl rfl rfl (by exact decide_eq_false (by omega))) rfl ?_
    refine TO.w hn (.pick _ _ _) rfl (guard0 rfl) (lop_pickF (agree hn) rfl rfl rfl) rfl ?_
    refine TO.w hn (.move _) rfl (guard0 rfl) (lop_move (agree hn) rfl) rfl ?_
    refine TO.w hn (.move _) rfl (guardOn (agree hn) rfl rfl rfl rfl) (lop_move (agree hn) rfl) rfl ?_
    refine TO.w hn (.move _) rfl (guardOn (agree hn) rfl rfl rfl rfl) (lop_move (agree hn) rfl) rfl ?_
    refine TO.w hn (.nilCheck _) rfl (guardOn (agree hn) rfl rfl rfl rfl) (lop_nil (agree hn) rfl rfl) rfl ?_
    refine TO.w hn (.fieldAddr _ _ _) rfl (guardOn (agree hn) rfl rfl rfl rfl) (lop_fa (agree hn) rfl rfl) rfl ?_
    refine TO.w hn (.load _ _) rfl (guardOn (agree hn) rfl rfl rfl rfl) (lop_load (agree hn) rfl (by assumption) rfl rfl) rfl ?_
    refine TO.w hn (.call _) rfl (guardOn (agree hn) rfl rfl rfl rfl) (lop_built (agree hn) rfl rfl (lbuiltin_lenL rfl)) rfl ?_
    refine TO.w hn (.binOp _ _ _ _ _) rfl (guardOn (agree hn) rfl rfl rfl rfl) (lop_binT (agree hn) rfl rfl rfl (by exact decide_eq_true (by omega))) rfl ?_
    refine TO.w hn (.pick _ _ _) rfl (guard0 rfl) (lop_pickF (agree hn) rfl rfl rfl) rfl ?_
    refine TO.nil ?_
    refine TC.condT (agree hn) rfl rfl ?_
    refine TC.seq ?_
    refine TC.region (id := 2) ?_
    refine TO.w hn (.assign _) rfl (guard0 rfl) (lop_assign (agree hn) rfl) rfl ?_
    refine TO.w hn (.assign _) rfl (guard0 rfl) (lop_assign (agree hn) rfl) rfl ?_
    refine TO.nil ?_
    refine TC.ret ?_
    exact ⟨trivial, _, lresT (agree hn) rfl rfl, rfl, rfl⟩
end Go.Proofs.Ytcndgbaldjcdfaa
