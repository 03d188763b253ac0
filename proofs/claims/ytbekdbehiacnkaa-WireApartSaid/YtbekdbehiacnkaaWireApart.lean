/- Two lists of as many texts that are put one behind the other have the same bytes only if they are the same; digits and bytes lead back to one another: 'WireApartSaid', for every input, with no condition. -/
import Derived.Test.YtbekdbehiacnkaaWireU
import Derived.Test.YtbekdbehiacnkaaWireBk
import Derived.Test.YtbekdbehiacnkaaLite28
import Derived.Test.YtbekdbehiacnkaaRow
namespace Go.Proofs.Ytbekdbehiacnkaa
open Go Go.Lite Go.ChangeShapes Go.WideShapes Go.ChangeAt Go.RowKit
set_option linter.unusedSimpArgs false
set_option linter.unusedVariables false
set_option maxHeartbeats 4000000

/-- Slices of texts. -/
def Texts (H : Hp) (v : Value) (n : Nat) (T : Nat → List UInt8) : Prop :=
  ∃ (a : Option Addr) (c : Nat), v = .slice a n c ∧ (n = 0 ∨ ∃ b vs, a = some ⟨b, 0, none⟩ ∧ H.f b = some (.cells false 1 vs) ∧ ∀ i, i < n → (Blk.cells false 1 vs).cell (0 + i) = some (S (T i)) ∧ (T i).length ≤ 9223372036854775807)
theorem texts_of {Hh : Hp} {v : Value} (h : Sh Try.prog Hh 46 v) : ∃ n T, n ≤ 9223372036854775807 ∧ Texts Hh v n T := by
  rcases h.inv_slice (ls := [9]) (k := 8) Try.underlying46 rfl with rfl | ⟨bl, n, c, vs, rfl, hn, hlen, hf, hs⟩
  · exact ⟨0, fun _ => [], by omega, none, 0, rfl, .inl rfl⟩
  · have hn : n ≤ 9223372036854775807 := hn
    simp only [List.length_cons, List.length_nil, Nat.zero_add, Nat.mul_one] at hlen hs
    have key : ∀ i, ∃ x : List UInt8, i < n → vs[i]? = some (S x) ∧ x.length ≤ 9223372036854775807 := by
      intro i
      by_cases hi : i < n
      · obtain ⟨z, hz, wz⟩ := (hs i 0 9 _ hi rfl (List.getElem?_eq_getElem (by omega))).inv_str Try.underlying9
        refine ⟨z, fun _ => ⟨?_, wz⟩⟩
        rw [List.getElem?_eq_getElem (by omega)]
        exact congrArg some hz
      · exact ⟨[], fun h => absurd h hi⟩
    refine ⟨n, fun i => (key i).choose, hn, _, c, rfl, .inr ⟨bl, vs, rfl, hf, fun i hi => ?_⟩⟩
    have := (key i).choose_spec hi
    simp only [Blk.cell, Nat.zero_add]
    exact this

def encW (s : List UInt8) : List UInt8 := putN 4 (s.take 100).length ++ s.take 100
def encWs (T : Nat → List UInt8) : Nat → List UInt8
  | 0 => []
  | n + 1 => encWs T n ++ encW (T n)
theorem encWs_length (T : Nat → List UInt8) : ∀ n : Nat, (encWs T n).length ≤ 104 * n
  | 0 => by simp [encWs]
  | n + 1 => by
    have h1 := encWs_length T n
    rw [encWs, encW, List.length_append, List.length_append, putN_length, List.length_take]
    omega
/-- Bytes that begin as a text, and another, and go on. -/
theorem encW_inj {s t a b : List UInt8} (h : encW s ++ a = encW t ++ b) : s.take 100 = t.take 100 ∧ a = b := by
  unfold encW at h
  rw [List.append_assoc, List.append_assoc] at h
  have h1 := congrArg (List.take 4) h
  rw [take_put, take_put] at h1
  have h2 := congrArg beN h1
  rw [beN_put, beN_put] at h2
  have h3 : (s.take 100).length ≤ 100 := by rw [List.length_take]; omega
  have h4 : (t.take 100).length ≤ 100 := by rw [List.length_take]; omega
  have h5 : (s.take 100).length = (t.take 100).length := by omega
  have h6 := congrArg (List.drop 4) h
  rw [drop_put, drop_put] at h6
  exact List.append_inj h6 h5
def encF (T : Nat → List UInt8) (a : Nat) : Nat → List UInt8
  | 0 => []
  | n + 1 => encW (T a) ++ encF T (a + 1) n
theorem encF_snoc (T : Nat → List UInt8) : ∀ (n a : Nat), encF T a (n + 1) = encF T a n ++ encW (T (a + n))
  | 0, a => by simp [encF]
  | n + 1, a => by
    rw [encF, encF_snoc T n (a + 1), ← List.append_assoc, show a + 1 + n = a + (n + 1) by omega]
    rfl
theorem encF_eq (T : Nat → List UInt8) : ∀ n, encF T 0 n = encWs T n
  | 0 => rfl
  | n + 1 => by rw [encF_snoc, encF_eq T n, encWs, Nat.zero_add]
theorem encF_inj {T U : Nat → List UInt8} : ∀ (n a : Nat), encF T a n = encF U a n → ∀ j, j < n → (T (a + j)).take 100 = (U (a + j)).take 100
  | 0, a, _, j, hj => absurd hj (Nat.not_lt_zero j)
  | n + 1, a, h, j, hj => by
    obtain ⟨h1, h2⟩ := encW_inj h
    cases j with
    | zero => exact h1
    | succ j =>
      have := encF_inj n (a + 1) h2 j (by omega)
      rwa [show a + 1 + j = a + (j + 1) by omega] at this
/-- Are the first ones alike? -/
def sameW (T U : Nat → List UInt8) : Nat → Bool
  | 0 => true
  | n + 1 => sameW T U n && decide ((T n).take 100 = (U n).take 100)
theorem sameW_iff (T U : Nat → List UInt8) : ∀ n, sameW T U n = true ↔ ∀ j, j < n → (T j).take 100 = (U j).take 100
  | 0 => by simp [sameW]
  | n + 1 => by
    rw [sameW, Bool.and_eq_true, sameW_iff T U n, decide_eq_true_eq]
    constructor
    · intro ⟨h1, h2⟩ j hj
      by_cases h : j = n
      · subst h; exact h2
      · exact h1 j (by omega)
    · intro h
      exact ⟨fun j hj => h j (by omega), h n (by omega)⟩
theorem encWs_congr (T U : Nat → List UInt8) : ∀ n, (∀ j, j < n → (T j).take 100 = (U j).take 100) → encWs T n = encWs U n
  | 0, _ => rfl
  | n + 1, h => by rw [encWs, encWs, encWs_congr T U n fun j hj => h j (by omega), encW, encW, h n (by omega)]
theorem encWs_eq (T U : Nat → List UInt8) (n : Nat) : decide (encWs T n = encWs U n) = sameW T U n := by
  rw [Bool.eq_iff_iff, decide_eq_true_eq, sameW_iff]
  constructor
  · intro h j hj
    rw [← encF_eq, ← encF_eq] at h
    have := encF_inj n 0 h j hj
    rwa [Nat.zero_add] at this
  · exact encWs_congr T U n

theorem half_hexd : ∀ n : Nat, n < 16 → halfN (hexd n).toNat = n := by decide
theorem unhex_hex : ∀ l : List UInt8, unhexL (hexL l) = some l
  | [] => rfl
  | c :: l => by
    have hc := c.toNat_lt
    have h1 := half_hexd (c.toNat / 16) (by omega)
    have h2 := half_hexd (c.toNat % 16) (by omega)
    have ih := unhex_hex l
    have e : hexL (c :: l) = hexd (c.toNat / 16) :: hexd (c.toNat % 16) :: hexL l := rfl
    rw [e, unhexL, h1, h2, if_pos ⟨by omega, by omega⟩, ih]
    have h3 : c.toNat / 16 * 16 + c.toNat % 16 = c.toNat := by omega
    rw [h3]
    simp

theorem wireApart_CF {H : Hp} {av bv : Value} {n k : Nat} {T U : Nat → List UInt8} (hn0 : n ≤ 9223372036854775807) (hk0 : k ≤ 9223372036854775807) (ha : Texts H av n T) (hb : Texts H bv k U) :
    CF Try.prog 6 [av, bv] H fun v H' => v = .bool true := by
  obtain ⟨xa, xc, rfl, ha⟩ := ha
  obtain ⟨ya, yc, rfl, hb⟩ := hb
  refine CF.wf fun hw => ?_
  refine CF.go _ Try.func6 rfl ⟨Nat.le_of_ble_eq_true rfl, rfl⟩ fun base hb0 hn => ?_
  subst hb0
  refine TC.seq ?_
  refine TC.region (id := 0) ?_
  refine TO.w hn (.assign _) rfl (guard0 rfl) (lop_assign (agree hn) rfl) rfl ?_
  refine TO.nil ?_
  refine TC.seq ?_
  refine TC.region (id := 1) ?_
  refine TO.w hn (.move _) rfl (guard0 rfl) (lop_move (agree hn) rfl) rfl ?_
  refine TO.w hn (.call _) rfl (guard0 rfl) (lop_built (agree hn) rfl rfl (lbuiltin_lenL rfl)) rfl ?_
  refine TO.w hn (.move _) rfl (guard0 rfl) (lop_move (agree hn) rfl) rfl ?_
  refine TO.w hn (.call _) rfl (guard0 rfl) (lop_built (agree hn) rfl rfl (lbuiltin_lenL rfl)) rfl ?_
  refine TO.w hn (.call _) rfl (guard0 rfl) (lop_built (agree hn) rfl rfl lbuiltin_minI3) rfl ?_
  refine TO.w hn (.assign _) rfl (guard0 rfl) (lop_assign (agree hn) rfl) rfl ?_
  refine TO.nil ?_
  refine TC.seq ?_
  refine TC.region (id := 2) ?_
  refine TO.w hn (.assign _) rfl (guard0 rfl) (lop_assign (agree hn) rfl) rfl ?_
  refine TO.w hn (.assign _) rfl (guard0 rfl) (lop_assign (agree hn) rfl) rfl ?_
  refine TO.nil ?_
  refine TC.seq ?_
  refine TC.region (id := 3) ?_
  refine TO.w hn (.assign _) rfl (guard0 rfl) (lop_assign (agree hn) rfl) rfl ?_
  refine TO.nil ?_
  refine TC.seq ?_
  refine TC.seq ?_
  refine TC.region (id := 4) ?_
  refine TO.w hn (.assign _) rfl (guard0 rfl) (lop_assign (agree hn) rfl) rfl ?_
  refine TO.nil ?_
  refine TC.block ?_
  have hM : min (min (n : Int) (k : Int)) 10 = ((min (min n k) 10 : Nat) : Int) := by omega
  refine TC.loopI (fun m fr H' => ∃ i : Nat, m + i = min (min n k) 10 ∧ fr.length = 89 ∧ Facts fr [(0, .slice xa n xc), (1, .slice ya k yc), (5, .int .i64 (min (min n k) 10 : Nat)), (6, S (encWs T i)), (7, S (encWs U i)), (8, .bool (sameW T U i)), (9, .int .i64 (i : Nat))] ∧ H' = H) (min (min n k) 10)
    ⟨0, by omega, (mkF_length _ _).trans hn, Facts.of (agree hn) ⟨rfl, rfl, congrArg (fun z => some (Value.int IntKind.i64 z)) hM, rfl, rfl, rfl, rfl, trivial⟩, rfl⟩ ?_
  clear hn
  rintro m fr H' ⟨i, hi, hn, hf, rfl⟩
  refine TC.facts _ hf ?_
  have l1 := encWs_length T i
  have l2 := encWs_length U i
  by_cases hin : i < min (min n k) 10
  · rcases ha with h0 | ⟨ba, va, rfl, hba, hva⟩
    · omega
    · rcases hb with h0 | ⟨bb, vb, rfl, hbb, hvb⟩
      · omega
      · obtain ⟨h1, h2⟩ := hva i (by omega)
        obtain ⟨h3, h4⟩ := hvb i (by omega)
        have et := take_min (T i) 100
        have eu := take_min (U i) 100
        have hpt := putText_CF (H := H') (b := encWs T i) (s := List.take (min ((T i).length : Int) (100 : Int)).toNat (T i)) (by omega) (by rw [List.length_take]; omega)
        have hpu := putText_CF (H := H') (b := encWs U i) (s := List.take (min ((U i).length : Int) (100 : Int)).toNat (U i)) (by omega) (by rw [List.length_take]; omega)
        have e1 : encWs T i ++ putN 4 (List.take (min ((T i).length : Int) (100 : Int)).toNat (T i)).length ++ List.take (min ((T i).length : Int) (100 : Int)).toNat (T i) = encWs T (i + 1) := by
          rw [encWs, encW, ← List.append_assoc]
          exact congrArg (fun z => encWs T i ++ putN 4 z.length ++ z) et
        have e2 : encWs U i ++ putN 4 (List.take (min ((U i).length : Int) (100 : Int)).toNat (U i)).length ++ List.take (min ((U i).length : Int) (100 : Int)).toNat (U i) = encWs U (i + 1) := by
          rw [encWs, encW, ← List.append_assoc]
          exact congrArg (fun z => encWs U i ++ putN 4 z.length ++ z) eu
        rw [e1] at hpt
        rw [e2] at hpu
        have ed : decide (List.take (min ((T i).length : Int) (100 : Int)).toNat (T i) = List.take (min ((U i).length : Int) (100 : Int)).toNat (U i)) = decide ((T i).take 100 = (U i).take 100) := by
          have et' : List.take (min ((T i).length : Int) (100 : Int)).toNat (T i) = (T i).take 100 := et
          have eu' : List.take (min ((U i).length : Int) (100 : Int)).toNat (U i) = (U i).take 100 := eu
          rw [et', eu']
        refine TC.seq ?_
        refine TC.seq ?_
        refine TC.region (id := 5) ?_
        refine TO.w hn (.move _) rfl (guard0 rfl) (lop_move (agree hn) rfl) rfl ?_
        refine TO.w hn (.move _) rfl (guard0 rfl) (lop_move (agree hn) rfl) rfl ?_
        refine TO.w hn (.binOp _ _ _ _ _) rfl (guard0 rfl) (lop_binT (agree hn) rfl rfl rfl (by exact decide_eq_true (by omega))) rfl ?_
        refine TO.nil ?_
        refine TC.condT (agree hn) rfl rfl ?_
        refine TC.skip ?_
        refine TC.seq ?_
        refine TC.block ?_
        refine TC.seq ?_
        refine TC.drawnSeq (id := 7) [(0, false), (1, false), (2, false), (3, false), (4, false), (5, false), (6, false), (7, false), (8, false), (9, false), (10, false), (11, false), (12, false), (13, false), (14, false), (15, false), (16, false), (17, false), (18, false), (19, false), (20, false), (21, false), (22, false), (23, false)] rfl (by kernel_rfl) ?_
        refine AS.w hn rfl (.move _) rfl (guard0 rfl) (lop_move (agree hn) rfl) rfl ?_
        refine AS.w hn rfl (.move _) rfl (guard0 rfl) (lop_move (agree hn) rfl) rfl ?_
        refine AS.w hn rfl (.indexAddr _ _ _) rfl (guard0 rfl) (lop_ia1 (agree hn) rfl rfl rfl rfl (by omega) (by omega)) rfl ?_
        refine AS.w hn rfl (.load _ _) rfl (guard0 rfl) (lop_load (agree hn) rfl (by assumption) rfl (by assumption)) rfl ?_
        refine AS.w hn rfl (.move _) rfl (guard0 rfl) (lop_move (agree hn) rfl) rfl ?_
        refine AS.w hn rfl (.move _) rfl (guard0 rfl) (lop_move (agree hn) rfl) rfl ?_
        refine AS.w hn rfl (.indexAddr _ _ _) rfl (guard0 rfl) (lop_ia1 (agree hn) rfl rfl rfl rfl (by omega) (by omega)) rfl ?_
        refine AS.w hn rfl (.load _ _) rfl (guard0 rfl) (lop_load (agree hn) rfl (by assumption) rfl (by assumption)) rfl ?_
        refine AS.w hn rfl (.call _) rfl (guard0 rfl) (lop_built (agree hn) rfl rfl (lbuiltin_lenS rfl)) rfl ?_
        refine AS.w hn rfl (.call _) rfl (guard0 rfl) (lop_built (agree hn) rfl rfl lbuiltin_minI) rfl ?_
        refine AS.w hn rfl (.slice _ _ _ _ _) rfl (guard0 rfl) (lop_slice (agree hn) rfl rfl rfl rfl (lsliceS_hi rfl (by exact lboundI (by omega) (by omega)))) rfl ?_
        refine AS.w hn rfl (.move _) rfl (guard0 rfl) (lop_move (agree hn) rfl) rfl ?_
        refine AS.w hn rfl (.move _) rfl (guard0 rfl) (lop_move (agree hn) rfl) rfl ?_
        refine AS.w hn rfl (.indexAddr _ _ _) rfl (guard0 rfl) (lop_ia1 (agree hn) rfl rfl rfl rfl (by omega) (by omega)) rfl ?_
        refine AS.w hn rfl (.load _ _) rfl (guard0 rfl) (lop_load (agree hn) rfl (by assumption) rfl (by assumption)) rfl ?_
        refine AS.w hn rfl (.move _) rfl (guard0 rfl) (lop_move (agree hn) rfl) rfl ?_
        refine AS.w hn rfl (.move _) rfl (guard0 rfl) (lop_move (agree hn) rfl) rfl ?_
        refine AS.w hn rfl (.indexAddr _ _ _) rfl (guard0 rfl) (lop_ia1 (agree hn) rfl rfl rfl rfl (by omega) (by omega)) rfl ?_
        refine AS.w hn rfl (.load _ _) rfl (guard0 rfl) (lop_load (agree hn) rfl (by assumption) rfl (by assumption)) rfl ?_
        refine AS.w hn rfl (.call _) rfl (guard0 rfl) (lop_built (agree hn) rfl rfl (lbuiltin_lenS rfl)) rfl ?_
        refine AS.w hn rfl (.call _) rfl (guard0 rfl) (lop_built (agree hn) rfl rfl lbuiltin_minI) rfl ?_
        refine AS.w hn rfl (.slice _ _ _ _ _) rfl (guard0 rfl) (lop_slice (agree hn) rfl rfl rfl rfl (lsliceS_hi rfl (by exact lboundI (by omega) (by omega)))) rfl ?_
        refine AS.w hn rfl (.assign _) rfl (guard0 rfl) (lop_assign (agree hn) rfl) rfl ?_
        refine AS.w hn rfl (.assign _) rfl (guard0 rfl) (lop_assign (agree hn) rfl) rfl ?_
        refine AS.nil ?_
        refine TC.seq ?_
        refine TC.region (id := 8) ?_
        refine TO.w hn (.move _) rfl (guard0 rfl) (lop_move (agree hn) rfl) rfl ?_
        refine TO.w hn (.move _) rfl (guard0 rfl) (lop_move (agree hn) rfl) rfl ?_
        (refine TO.wc hn (.call _) rfl (guard0 rfl) (lop_func (agree hn) rfl rfl rfl) rfl (CF.co noOwn rfl rfl hpt) (fun v H2 hR => ?_); (obtain ⟨rfl, e2⟩ := hR; cases e2.symm))
        refine TO.w hn (.assign _) rfl (guard0 rfl) (lop_assign (agree hn) rfl) rfl ?_
        refine TO.nil ?_
        refine TC.seq ?_
        refine TC.region (id := 9) ?_
        refine TO.w hn (.move _) rfl (guard0 rfl) (lop_move (agree hn) rfl) rfl ?_
        refine TO.w hn (.move _) rfl (guard0 rfl) (lop_move (agree hn) rfl) rfl ?_
        (refine TO.wc hn (.call _) rfl (guard0 rfl) (lop_func (agree hn) rfl rfl rfl) rfl (CF.co noOwn rfl rfl hpu) (fun v H2 hR => ?_); (obtain ⟨rfl, e2⟩ := hR; cases e2.symm))
        refine TO.w hn (.assign _) rfl (guard0 rfl) (lop_assign (agree hn) rfl) rfl ?_
        refine TO.nil ?_
        refine TC.region (id := 10) ?_
        refine TO.w hn (.move _) rfl (guard0 rfl) (lop_move (agree hn) rfl) rfl ?_
        refine TO.w hn (.move _) rfl (guard0 rfl) (lop_move (agree hn) rfl) rfl ?_
        (refine TO.splitB 53 hn rfl (fun hc => ?_) (fun hc => ?_) <;> (try simp only [decide_eq_true_eq, decide_eq_false_iff_not, beq_iff_eq, bne_iff_ne, beq_eq_false_iff_ne, bne_eq_false_iff_eq, Bool.not_eq_true', Bool.not_eq_false', Bool.not_eq_eq_eq_not, Bool.not_true, Bool.not_false, ne_eq, gt_iff_lt, ge_iff_le, Bool.and_eq_true, Bool.or_eq_true, Bool.and_eq_false_imp, Bool.or_eq_false_iff, Nat.not_lt, Nat.not_le, Int.not_lt, Int.not_le, Decidable.not_not] at hc))
        refine TO.w hn (.move _) rfl (guardOn (agree hn) rfl rfl rfl rfl) (lop_move (agree hn) rfl) rfl ?_
        refine TO.w hn (.move _) rfl (guardOn (agree hn) rfl rfl rfl rfl) (lop_move (agree hn) rfl) rfl ?_
        refine TO.w hn (.binOp _ _ _ _ _) rfl (guardOn (agree hn) rfl rfl rfl rfl) (lop_eqS (agree hn) rfl rfl) rfl ?_
        refine TO.w hn (.pick _ _ _) rfl (guard0 rfl) (lop_pickT (agree hn) rfl rfl rfl) rfl ?_
        refine TO.w hn (.assign _) rfl (guard0 rfl) (lop_assign (agree hn) rfl) rfl ?_
        refine TO.nil ?_
        refine TC.region (id := 6) ?_
        refine TO.w hn (.move _) rfl (guard0 rfl) (lop_move (agree hn) rfl) rfl ?_
        refine TO.w hn (.binOp _ _ _ _ _) rfl (guard0 rfl) (lop_binI (agree hn) rfl rfl rfl rfl (by omega) (by omega)) rfl ?_
        refine TO.w hn (.assign _) rfl (guard0 rfl) (lop_assign (agree hn) rfl) rfl ?_
        refine TO.nil ?_
        rotate_left
        refine TO.woff hn (guardOff (agree hn) rfl rfl rfl rfl) rfl ?_
        refine TO.woff hn (guardOff (agree hn) rfl rfl rfl rfl) rfl ?_
        refine TO.woff hn (guardOff (agree hn) rfl rfl rfl rfl) rfl ?_
        refine TO.w hn (.pick _ _ _) rfl (guard0 rfl) (lop_pickF (agree hn) rfl rfl rfl) rfl ?_
        refine TO.w hn (.assign _) rfl (guard0 rfl) (lop_assign (agree hn) rfl) rfl ?_
        refine TO.nil ?_
        refine TC.region (id := 6) ?_
        refine TO.w hn (.move _) rfl (guard0 rfl) (lop_move (agree hn) rfl) rfl ?_
        refine TO.w hn (.binOp _ _ _ _ _) rfl (guard0 rfl) (lop_binI (agree hn) rfl rfl rfl rfl (by omega) (by omega)) rfl ?_
        refine TO.w hn (.assign _) rfl (guard0 rfl) (lop_assign (agree hn) rfl) rfl ?_
        refine TO.nil ?_
        rotate_left
        · refine ⟨m - 1, by omega, i + 1, by omega, (mkF_length _ _).trans hn, Facts.of (agree hn) ⟨rfl, rfl, rfl, rfl, rfl, ?_, rfl, trivial⟩, rfl⟩
          rw [sameW, hc, Bool.true_and, ← ed]
          rfl
        · refine ⟨m - 1, by omega, i + 1, by omega, (mkF_length _ _).trans hn, Facts.of (agree hn) ⟨rfl, rfl, rfl, rfl, rfl, ?_, rfl, trivial⟩, rfl⟩
          rw [sameW, hc, Bool.false_and]
          rfl
  · have hq := encWs_eq T U i
    have hlx := hexL_length (encWs T i)
    have hub : unhexV (hexL (encWs T i)) = .tuple #[S (encWs T i), .bool true] := by
      rw [unhexV, unhex_hex]; rfl
    have hun := unhex_CF (H := H') (l := hexL (encWs T i)) (by rw [hexL_length]; omega)
    rw [hub] at hun
    refine TC.seq ?_
    refine TC.seq ?_
    refine TC.region (id := 5) ?_
    refine TO.w hn (.move _) rfl (guard0 rfl) (lop_move (agree hn) rfl) rfl ?_
    refine TO.w hn (.move _) rfl (guard0 rfl) (lop_move (agree hn) rfl) rfl ?_
    refine TO.w hn (.binOp _ _ _ _ _) rfl (guard0 rfl) (lop_binF (agree hn) rfl rfl rfl (by exact decide_eq_false (by omega))) rfl ?_
    refine TO.nil ?_
    refine TC.condF (agree hn) rfl rfl ?_
    refine TC.exit ?_
    refine TC.seq ?_
    refine TC.region (id := 11) ?_
    refine TO.w hn (.move _) rfl (guard0 rfl) (lop_move (agree hn) rfl) rfl ?_
    (refine TO.wc hn (.call _) rfl (guard0 rfl) (lop_func (agree hn) rfl rfl rfl) rfl (CF.co noOwn rfl rfl (hex_CF (by omega))) (fun v H2 hR => ?_); (obtain ⟨rfl, e2⟩ := hR; cases e2.symm))
    (refine TO.wc hn (.call _) rfl (guard0 rfl) (lop_func (agree hn) rfl rfl rfl) rfl (CF.co noOwn rfl rfl hun) (fun v H2 hR => ?_); (obtain ⟨rfl, e2⟩ := hR; cases e2.symm))
    refine TO.w hn (.move _) rfl (guard0 rfl) (lop_move (agree hn) rfl) rfl ?_
    refine TO.w hn (.extract _ _) rfl (guard0 rfl) (lop_ex (agree hn) rfl rfl) rfl ?_
    refine TO.w hn (.extract _ _) rfl (guard0 rfl) (lop_ex (agree hn) rfl rfl) rfl ?_
    refine TO.w hn (.assign _) rfl (guard0 rfl) (lop_assign (agree hn) rfl) rfl ?_
    refine TO.w hn (.assign _) rfl (guard0 rfl) (lop_assign (agree hn) rfl) rfl ?_
    refine TO.nil ?_
    refine TC.seq ?_
    refine TC.region (id := 12) ?_
    refine TO.w hn (.move _) rfl (guard0 rfl) (lop_move (agree hn) rfl) rfl ?_
    refine TO.w hn (.move _) rfl (guard0 rfl) (lop_move (agree hn) rfl) rfl ?_
    refine TO.w hn (.binOp _ _ _ _ _) rfl (guard0 rfl) (lop_eqS (agree hn) rfl rfl) rfl ?_
    refine TO.w hn (.move _) rfl (guard0 rfl) (lop_move (agree hn) rfl) rfl ?_
    refine TO.w hn (.binOp _ _ _ _ _) rfl (guard0 rfl) (lop_eqBB (agree hn) rfl rfl rfl (by assumption)) rfl ?_
    refine TO.w hn (.move _) rfl (guard0 rfl) (lop_move (agree hn) rfl) rfl ?_
    refine TO.w hn (.move _) rfl (guardOn (agree hn) rfl rfl rfl rfl) (lop_move (agree hn) rfl) rfl ?_
    refine TO.w hn (.pick _ _ _) rfl (guard0 rfl) (lop_pickT (agree hn) rfl rfl rfl) rfl ?_
    refine TO.w hn (.move _) rfl (guard0 rfl) (lop_move (agree hn) rfl) rfl ?_
    refine TO.w hn (.move _) rfl (guardOn (agree hn) rfl rfl rfl rfl) (lop_move (agree hn) rfl) rfl ?_
    refine TO.w hn (.move _) rfl (guardOn (agree hn) rfl rfl rfl rfl) (lop_move (agree hn) rfl) rfl ?_
    refine TO.w hn (.binOp _ _ _ _ _) rfl (guardOn (agree hn) rfl rfl rfl rfl) (lop_eqST (agree hn) rfl rfl (by rfl)) rfl ?_
    refine TO.w hn (.pick _ _ _) rfl (guard0 rfl) (lop_pickT (agree hn) rfl rfl rfl) rfl ?_
    refine TO.w hn (.move _) rfl (guard0 rfl) (lop_move (agree hn) rfl) rfl ?_
    refine TO.w hn (.move _) rfl (guardOn (agree hn) rfl rfl rfl rfl) (lop_move (agree hn) rfl) rfl ?_
    (refine TO.wc hn (.call _) rfl (guardOn (agree hn) rfl rfl rfl rfl) (lop_func (agree hn) rfl rfl rfl) rfl (CF.co noOwn rfl rfl (hex_CF (by omega))) (fun v H2 hR => ?_); (obtain ⟨rfl, e2⟩ := hR; cases e2.symm))
    refine TO.w hn (.call _) rfl (guardOn (agree hn) rfl rfl rfl rfl) (lop_built (agree hn) rfl rfl (lbuiltin_lenS rfl)) rfl ?_
    refine TO.w hn (.move _) rfl (guardOn (agree hn) rfl rfl rfl rfl) (lop_move (agree hn) rfl) rfl ?_
    refine TO.w hn (.call _) rfl (guardOn (agree hn) rfl rfl rfl rfl) (lop_built (agree hn) rfl rfl (lbuiltin_lenS rfl)) rfl ?_
    refine TO.w hn (.binOp _ _ _ _ _) rfl (guardOn (agree hn) rfl rfl rfl rfl) (lop_binI (agree hn) rfl rfl rfl rfl (by omega) (by omega)) rfl ?_
    refine TO.w hn (.binOp _ _ _ _ _) rfl (guardOn (agree hn) rfl rfl rfl rfl) (lop_binT (agree hn) rfl rfl rfl (by exact decide_eq_true (by omega))) rfl ?_
    refine TO.w hn (.pick _ _ _) rfl (guard0 rfl) (lop_pickT (agree hn) rfl rfl rfl) rfl ?_
    refine TO.w hn (.move _) rfl (guard0 rfl) (lop_move (agree hn) rfl) rfl ?_
    (refine TO.wc hn (.call _) rfl (guardOn (agree hn) rfl rfl rfl rfl) (lop_func (agree hn) rfl rfl rfl) rfl (CF.co noOwn rfl rfl works_CF) (fun v H2 hR => ?_); (obtain ⟨rfl, e2⟩ := hR; cases e2.symm))
    refine TO.w hn (.pick _ _ _) rfl (guard0 rfl) (lop_pickT (agree hn) rfl rfl rfl) rfl ?_
    refine TO.w hn (.assign _) rfl (guard0 rfl) (lop_assign (agree hn) rfl) rfl ?_
    refine TO.nil ?_
    refine TC.ret ?_
    exact ⟨trivial, _, lres1 (agree hn) rfl, rfl⟩

theorem wireApart_sh {Hh : Hp} {a b : Value} (h0 : Sh Try.prog Hh 46 a) (h1 : Sh Try.prog Hh 46 b) : CF Try.prog 6 [a, b] Hh fun v H' => v = .bool true := by
  obtain ⟨n, T, hn, hT⟩ := texts_of h0
  obtain ⟨k, U, hk, hU⟩ := texts_of h1
  exact wireApart_CF hn hk hT hU

theorem wireApart_calls {W : World} (hC : HasCells W) {H : Type} {enc : TypeId × Value → H} {args : List Value} {ds : List (DataW H)} {p : List MemPlace} (hval : ∀ (j : Nat) t v, ([46, 46] : List TypeId)[j]? = some t → args[j]? = some v → ∃ b, Value.okWide Try.prog W .any b t v)
    (hA : DataW.TrodAll enc Try.prog W 0 (fun _ => true) true [46, 46] args ds p) : Calls Try.prog 6 args.toArray W fun e w' => e = .returned (.bool true) ∧ Below W.heap.size W w' := by
  have hT : ∀ t ∈ ([46, 46] : List TypeId), (∃ k l, leafs Try.prog k t = some l) ∧ (leafB Try.prog t = true ∨ aggB Try.prog t = true) := by
    intro t ht
    simp only [List.mem_cons, List.not_mem_nil, or_false] at ht
    rcases ht with rfl | rfl
    · exact ⟨⟨8, _, rfl⟩, .inl rfl⟩
    · exact ⟨⟨8, _, rfl⟩, .inl rfl⟩
  obtain ⟨μ, Hh, vs, _, hR, _, hL, hI⟩ := argsIn hC hT (fun j t v a b => .inr (hval j t v a b)) hA [] _ (Rel.start Try.prog W)
  obtain ⟨v0, vs, rfl, s0, hI⟩ := hI.inv1 rfl
  obtain ⟨v1, vs, rfl, s1, hI⟩ := hI.inv1 rfl
  cases hI.inv0
  refine (wireApart_sh s0 s1 _ _ _ _ hR hL).mono fun e w' ⟨v, v', H', μ', h1, h2, h3, h4, h5⟩ => ?_
  subst h2
  exact ⟨by rw [h1, h4.scal_eq rfl], below_of_rel h5⟩

set_option maxRecDepth 100000 in
theorem wireApart_lifted (os : Os) (started : os.Started) (H : Type) (enc : TypeId × Value → H) :
    ReturnsInHanded {} Try.checked os 6 .any (Rows.wireApartSpec.pre6 enc Try.prog Try.f6 Rows.wireApartRow.domain false) (Rows.wireApartSpec.post enc Try.prog Try.f6 false true false false) := by
  refine returnsInHanded_of_change_shaped (C := Try.checked) own started (by kernel_rfl) Try.func6
    (ChangeSpec.witness6 (enc := enc) (C := Try.checked) false ⟨#[], #[.slice none 0 0, .slice none 0 0], []⟩ 8 (by kernel_rfl) (by kernel_rfl) (by kernel_rfl) (by kernel_rfl)) ?_
  intro W base args ds gs before hval0 hW hcnd _ hsh _
  have hW' := hW
  obtain ⟨p, q, hA0, hV, rfl, hfz, hnd⟩ := hW
  have hA : DataW.TrodAll enc Try.prog W 0 (fun _ => true) true Try.f6.params.toList args.toList ds p := hA0
  have hval : ∀ (j : Nat) t v, Try.f6.params[j]? = some t → args[j]? = some v → Value.okWide Try.prog W .any base t v := hval0
  rw [Try.params6] at hA hval
  have hw := wireApart_calls (hasCells hsh) (args := args.toList) (fun j t v a b => ⟨base, hval j t v (by simpa using a) (by simpa using b)⟩) hA
  obtain ⟨v0, vs0, d0, ds0, p0, q0, hargs, rfl, rfl, h0, r0⟩ := trodAll_cons hA
  obtain ⟨v1, vs1, d1, ds1, p1, q1, rfl, rfl, rfl, h1, r1⟩ := trodAll_cons r0
  obtain ⟨rfl, rfl, rfl⟩ := trodAll_nil r1
  obtain rfl : args = #[v0, v1] := by cases args; simp_all
  obtain ⟨rfl, rfl⟩ := trodVars_none hV
  have k0 := h0
  have lt0 : ∀ x ∈ p0, x.block < W.heap.size := by obtain ⟨m, hm⟩ := k0; exact DataW.trod_lt m _ _ _ hm
  have k1 := h1
  have lt1 : ∀ x ∈ p1, x.block < W.heap.size := by obtain ⟨m, hm⟩ := k1; exact DataW.trod_lt m _ _ _ hm
  clear hA0 hval0
  refine Calls.mono hw fun e W' ⟨he, bel⟩ => ?_
  subst he
  exact ⟨_, rfl, _, _, _, [], _, [], hW', trodAll_mk1 (shut_bool Try.underlying4 _), (trodAll_cons_mk (Below.trod laidOut (by kernel_rfl) (of_decide_eq_true (by kernel_rfl)) k0 bel lt0) (trodAll_cons_mk (Below.trod laidOut (by kernel_rfl) (of_decide_eq_true (by kernel_rfl)) k1 bel lt1) trodAll_mk0)), rfl, bel.frame _, fun h => by cases h⟩

theorem wireApart_over : Rows.wireApartRow.holds Try.pinned (OpenSpec.ofChange Rows.wireApartSpec) :=
  OpenClaim.holds_of_wide 6 Try.f6 rfl rfl rfl rfl rfl rfl rfl ⟨rfl, rfl, rfl, rfl, rfl⟩ rfl rfl rfl rfl rfl (by kernel_rfl) Try.func6 (by kernel_rfl)
    (of_decide_eq_true (by kernel_rfl)) (by unfold Func.isWrapper; first | (rw [if_pos (by decide +kernel)]; kernel_rfl) | (rw [if_neg (by decide +kernel)]; exact ⟨rfl, rfl⟩))
    (fun os started H enc _ => wireApart_lifted os started H enc)

/-- The statement. -/
theorem wireApart_proved : Rows.WireApartSaid := wireApart_over
#print axioms wireApart_proved
end Go.Proofs.Ytbekdbehiacnkaa
