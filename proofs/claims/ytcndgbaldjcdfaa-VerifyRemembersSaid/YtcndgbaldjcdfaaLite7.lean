/- Lite, part 7: the model does what the abstract operation says: conversions, slices, fields, elements, assertions. -/
import Derived.Test.YtcndgbaldjcdfaaLite6
import Derived.Laws.MakeOwn
import Derived.Laws.BytesString
import Derived.Laws.IdiomStrings
import Derived.Laws.AppendOwn
import Derived.Laws.Slices
namespace Go.Lite
open Go
set_option linter.unusedSimpArgs false
set_option linter.unusedVariables false

section
variable {P : Program} {E : Env} {μ : List Info} {H : Hp} {w : World}

theorem foldl_push (xs : List Int) : ∀ s : ByteArray, xs.foldl (fun r n => r.push (UInt8.ofNat n.toNat)) s = ⟨(s.data.toList ++ bytesOf xs).toArray⟩ := by
  induction xs with
  | nil => intro s; simp [bytesOf]
  | cons x xs ih =>
    intro s
    rw [List.foldl_cons, ih]
    simp [bytesOf, ByteArray.push]

theorem lconv_sound {src dst : TypeId} {a a' u : Value} {H' : Hp} (h : lconv P src dst a H = some (.val u H')) (ha : VR μ a a') (hR : Rel P E μ H w) : DidV P E μ (convert src dst a') w u H' := by
  unfold lconv at h
  split at h
  case h_1 d k k' n h1 h2 =>
    cases ha; cases h
    refine DidV.same (v' := .int k (k.wrap n)) ?_ (.int _ _) hR
    simp [convert, run_underlying h1, run_underlying h2, Conv.intToInt]
  case h_2 d s h1 h2 =>
    cases ha; cases h
    refine DidV.same (v' := .string s) ?_ (.string _) hR
    cases d <;> simp [convert, run_underlying h1, run_underlying h2]
  case h_3 e s h1 h2 =>
    cases ha
    split at h
    · rename_i hu
      have hu := u_u8 hu
      simp [lnew] at h
      obtain ⟨rfl, rfl⟩ := h
      have hrun := run_bytes_of_string (P := P) w src dst e s h1 h2 hu
      have hge := grownCap_ge w s.size 0 e
      have hR' := hR.drew (w.drawn + 1)
      have hnew := hR'.newRow (x := .ints true .u8 (s.data.toList.map fun c => (c.toNat : Int))) (C := bytesRow s (grownCap w s.size 0 e)) e
        (fz := ((bytesRow s (grownCap w s.size 0 e)).size, (bytesRow s (grownCap w s.size 0 e)).size + 1)) rfl
        (by simp [Blk.row, bytesRow]) (fun k v hk => by
          simp only [Blk.row, List.map_map] at hk
          rw [List.getElem?_map] at hk
          cases hs : s.data.toList[k]? with
          | none => rw [hs] at hk; cases hk
          | some c =>
            rw [hs] at hk
            simp at hk; subst hk
            have hlt : k < s.data.size := by
              rcases Nat.lt_or_ge k s.data.size with h3 | h3
              · exact h3
              · rw [List.getElem?_eq_none (by simpa using h3)] at hs; cases hs
            refine ⟨_, bytesRow_at s _ k hlt, ?_⟩
            have : s.data[k] = c := by
              have := List.getElem?_eq_getElem (l := s.data.toList) (i := k) (by simpa using hlt)
              rw [hs] at this
              simpa using this.symm
            rw [this]
            exact .int _ _) (fun k hk hc => by omega)
      refine ⟨_, _, _, hrun, Ext.snoc μ _, ?_, hnew⟩
      refine VR.sl (last_info hR' _) hge (.inr ⟨by simp, ?_⟩)
      have hsz : (bytesRow s (grownCap w s.size 0 e)).size = grownCap w s.size 0 e := by
        have : s.data.size = s.size := rfl
        simp [bytesRow, this]; omega
      simp [Blk.esz, hsz]
    · cases h
  case h_4 e a n c h1 h2 =>
    split at h
    · rename_i hu
      have hu := u_u8 hu
      split at h
      · cases ha; cases h
        refine DidV.same (v' := .string ⟨#[]⟩) ?_ (.string _) hR
        simp [convert, run_underlying h1, run_underlying h2, run_underlying hu, Conv.bytesToString]
        rfl
      · rename_i b o
        cases ha with
        | sl hi hn hc =>
          rename_i c' a' i
          split at h
          · rename_i h0; subst h0; cases h
            refine DidV.same (v' := .string ⟨#[]⟩) ?_ (.string _) hR
            rw [run_convert_bytes_string w src dst e _ _ _ h1 hu h2]
            have hl : (loadCells a' 0).run P w = .ok (([] : List Int).map (Value.int .u8)).toArray w := by simp [loadCells, loadCellsFrom]
            rw [run_bytesToString w a' 0 c' [] hl]
            rfl
          · rename_i h0
            split at h
            · rename_i r xs hx
              split at h
              · rename_i hle
                cases h
                rcases hc with hc | ⟨rfl, hc⟩
                · subst hc; omega
                · refine DidV.same (v' := .string ⟨(bytesOf ((xs.drop o).take n)).toArray⟩) ?_ (.string _) hR
                  rw [run_convert_bytes_string w src dst e _ _ _ h1 hu h2]
                  have hsub : (Blk.ints r .u8 xs).sub o n = some (((xs.drop o).take n).map (.int .u8)) := by simp [Blk.sub, hle.1]
                  obtain ⟨l', h5, h6, _⟩ := hR.cells hx hsub hi
                  have hl' : l' = ((xs.drop o).take n).map (.int .u8) := by
                    apply List.ext_getElem?
                    intro k
                    rcases Nat.lt_or_ge k (((xs.drop o).take n).map (Value.int .u8)).length with hk | hk
                    · obtain ⟨v', a1, a2⟩ := h6.at_ (List.getElem?_eq_getElem hk)
                      rw [a1, List.getElem?_eq_getElem hk]
                      rw [List.getElem_map] at a2 ⊢
                      cases a2; rfl
                    · rw [List.getElem?_eq_none hk, List.getElem?_eq_none (by rw [← h6.1]; exact hk)]
                  rw [hl'] at h5
                  rw [run_bytesToString w _ n c' _ h5, foldl_push]
                  rfl
              · cases h
            · cases h
      · cases h
    · cases h
  case h_5 => cases h
end
end Go.Lite
