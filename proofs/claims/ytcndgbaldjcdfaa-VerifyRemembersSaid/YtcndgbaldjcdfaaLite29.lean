/- Lite, part 29: contracts of the kit's shelf; noughts put behind bytes. -/
import Derived.Test.YtcndgbaldjcdfaaLite28
namespace Go.Lite
open Go Go.RowKit
set_option linter.unusedSimpArgs false
set_option linter.unusedVariables false

section
variable {P : Program}
/-- What lies above all that was there does not matter. -/
theorem Rel.below {E : Env} {μ : List Info} {H : Hp} {w w' : World} (h : Rel P E μ H w) (hb : Below w.heap.size w w') : Rel P E μ H w' :=
  ⟨hb.os.trans h.os, hb.tape.trans h.tape, hb.output.trans h.out, fun c o hc => by
      have := h.kept c o hc
      have hlt : c < w.heap.size := by
        rcases Nat.lt_or_ge c w.heap.size with h1 | h1
        · exact h1
        · rw [Array.getElem?_eq_none h1] at this; cases this
      exact (hb.block c hlt).trans this, h.len, h.glob, fun b i hi => Nat.lt_of_lt_of_le (h.lt b i hi) hb.size, fun b x hx => by
      obtain ⟨i, h1, h2⟩ := h.blk b x hx
      exact ⟨i, h1, BR.mono (Ext.refl μ) (hb.block _ (h.lt b i h1)) h2⟩, h.own, h.sep⟩
theorem LR.scal_eq {μ : List Info} : ∀ {xs ys : List Value}, LR μ xs ys → xs.all scal = true → ys = xs
  | [], ys, h, _ => List.eq_nil_of_length_eq_zero h.1.symm
  | x :: xs, [], h, _ => by have := h.1; simp at this
  | x :: xs, y :: ys, h, hs => by
    simp only [List.all_cons, Bool.and_eq_true] at hs
    have h1 := (h.2 0 x y rfl rfl).scal_eq hs.1
    have h2 : LR μ xs ys := ⟨by have := h.1; simpa using this, fun k v v' a b => h.2 (k + 1) v v' (by simpa using a) (by simpa using b)⟩
    rw [h1, h2.scal_eq hs.2]
/-- A contract of the shelf. -/
theorem CF.ofBelow {f : FuncId} {args : List Value} {v : Value} {H : Hp} (ha : args.all scal = true) (hv : flat v = true) (h : ∀ w, Calls P f args.toArray w fun e w' => e = .returned v ∧ Below w.heap.size w w') : CF P f args H fun u H' => u = v ∧ H' = H := by
  intro E μ w args' hR hl
  have e : args' = args.toArray := by
    have := hl.scal_eq ha
    rw [← this]
  rw [e]
  exact (h w).mono fun e w' ⟨h1, h2⟩ => ⟨v, v, H, μ, h1, ⟨rfl, rfl⟩, Ext.refl μ, flat_VR hv μ, hR.below h2⟩

/-- Noughts put behind bytes. -/
theorem lappend_z {t t2 : TypeId} {H : Hp} {b n c : Nat} {k : IntKind} {m : Int} {xs : List Int} (ht : byteT P t = true) (hi : intOrNone P t2 = true) (hk : intT P t2 = some k) (hb : H.f b = some (.ints true .u8 xs)) (hn : xs.length = n)
    (h0 : 0 ≤ m) (hmax : n + m.toNat ≤ 140737488355328) :
    lbuiltin P .append [t, t2] [.slice (some ⟨b, 0, none⟩) n c, .int k m] H = some (.val (.slice (some ⟨H.n, 0, none⟩) (n + m.toNat) (n + m.toNat)) (H.move b (.ints true .u8 (xs ++ List.replicate m.toNat 0)))) := by
  obtain ⟨e, i, hB⟩ := byteT_spec ht
  have h4 : (n + m.toNat ≤ 140737488355328 ∧ n + m.toNat ≤ 4611686018427387904) := by omega
  obtain ⟨q, rfl⟩ := Int.eq_ofNat_of_zero_le h0
  simp only [Int.toNat_natCast] at *
  have hu2 : ∃ kk, P.underlying t2 = some (.int kk) := by
    unfold intT at hk
    split at hk
    · rename_i kk hkk; exact ⟨kk, hkk⟩
    · cases hk
  obtain ⟨kk, hu2⟩ := hu2
  have hz : lzeros [Value.int IntKind.u8 0] q = (List.replicate q (0 : Int)).map (Value.int IntKind.u8) := by rw [replicate_lzeros]; simp
  have ho := all_one .u8 (List.replicate q 0)
  have hzz := toInts_map .u8 (List.replicate q (0 : Int))
  simp [lbuiltin, lappend, hB.u, hB.info, hB.zero, hi, zeroSrc, hu2, hB.size, hB.bytes, cellsOf, h4, hb, Blk.rw, Blk.esz, Blk.len, hn, hz]
  simp at hzz
  simp [hzz, isOne]
end
end Go.Lite
