/- Lite, part 4: the model does what the abstract operation says: values and memory. -/
import Derived.Test.YtcndgbaldjcdfaaLite3
import Derived.Laws.Entries
import Derived.Laws.Cells
import Derived.Laws.IdiomCopy
namespace Go.Lite
open Go
set_option linter.unusedSimpArgs false
set_option linter.unusedVariables false

/-- A step that gives a value. -/
def DidV (P : Program) (E : Env) (μ : List Info) (s : Sem Value) (w : World) (v : Value) (H' : Hp) : Prop :=
  ∃ v' w' μ', s.run P w = .ok v' w' ∧ Ext μ μ' ∧ VR μ' v v' ∧ Rel P E μ' H' w'

section
variable {P : Program} {E : Env} {μ : List Info} {H : Hp} {w : World}

theorem DidV.same {s : Sem Value} {v v' : Value} (h : s.run P w = .ok v' w) (hv : VR μ v v') (hR : Rel P E μ H w) : DidV P E μ s w v H := ⟨v', w, μ, h, Ext.refl μ, hv, hR⟩

theorem run_info {t : TypeId} {i : TypeInfo} (h : P.info? t = some i) : (typeInfo t).run P w = .ok i w := by simp [typeInfo, h]
theorem run_sizeT {t : TypeId} {n : Nat} (h : szT P t = some n) : (sizeOf t).run P w = .ok n w := by
  unfold szT at h
  cases hi : P.info? t with
  | none => simp [hi] at h
  | some i => simp [hi] at h; subst h; simp [sizeOf, run_info hi]
theorem run_aggT {t : TypeId} {g : Bool} (h : aggT P t = some g) : (isAgg t).run P w = .ok g w := by
  unfold aggT at h
  cases hd : P.underlying t with
  | none => simp [hd] at h
  | some d =>
    rw [hd] at h
    cases d <;> simp at h <;> subst h <;> simp [isAgg, run_underlying hd]
theorem run_zeroT {t : TypeId} {z : Value} (h : lzero P t = some z) : (zeroValue t).run P w = .ok z w ∧ closedV z = true := by
  unfold lzero at h
  cases hi : P.info? t with
  | none => simp [hi] at h
  | some i =>
    cases hz : i.zero with
    | none => simp [hi, hz] at h
    | some y =>
      simp [hi, hz] at h
      obtain ⟨hc, rfl⟩ := h
      exact ⟨by simp [zeroValue, run_info hi, hz], hc⟩
theorem closed_VR {v : Value} (h : closedV v = true) : VR μ v v := by
  unfold closedV at h
  cases v with
  | agg c =>
    have := LR.of_scal μ h
    exact VR.agg rfl fun k v v' a b => this.2 k v v' (by simpa [cellsOf] using a) (by simpa [cellsOf] using b)
  | _ => exact VR.of_scal μ (by simpa [cellsOf] using h)

theorem cell_row (x : Blk) (k : Nat) : x.cell k = x.row[k]? := by
  cases x <;> simp [Blk.cell, Blk.row]
theorem len_row (x : Blk) : x.len = x.row.length := by cases x <;> simp [Blk.len, Blk.row]
theorem sub_row {x : Blk} {o n : Nat} {l : List Value} (h : x.sub o n = some l) : o + n ≤ x.row.length ∧ l = (x.row.drop o).take n := by
  cases x with
  | cells r e cs =>
    simp only [Blk.sub] at h
    split at h
    · rename_i hl; cases h; exact ⟨by simpa [Blk.row] using hl, rfl⟩
    · cases h
  | ints r k xs =>
    simp only [Blk.sub] at h
    split at h
    · rename_i hl; cases h; exact ⟨by simpa [Blk.row] using hl, by simp [Blk.row, List.map_take, List.map_drop]⟩
    · cases h
  | map es => simp [Blk.sub] at h
  | iter s p => simp [Blk.sub] at h

/-- What a row of cells says of the world. -/
theorem BR.row {i : Info} {x : Blk} (h : BR μ i w x) (hx : 0 < x.row.length ∨ x.isRow = true) : ∃ C e fz, w.heap[i.blk]? = some (.cells C e fz) ∧ C.size = i.cap ∧ x.esz = i.esz ∧ i.base + x.row.length ≤ C.size ∧
      (∀ (k : Nat) (v : Value), x.row[k]? = some v → ∃ v', C[i.base + k]? = some v' ∧ VR μ v v') ∧
      (x.rw = true → ∀ k, i.base ≤ k → k < C.size → ¬ (fz.1 ≤ k ∧ k < fz.2)) := by
  cases x with
  | cells => exact h
  | ints => exact h
  | map es => simp [Blk.row, Blk.isRow] at hx
  | iter s p => simp [Blk.row, Blk.isRow] at hx

theorem cell_at {C : Array Value} {e : TypeId} {fz : Nat × Nat} {b o : Nat} (h : w.heap[b]? = some (.cells C e fz)) : w.cell? ⟨b, o, none⟩ = C[o]? := by
  simp [World.cell?, h]

theorem Rel.cell (hR : Rel P E μ H w) {b o : Nat} {x : Blk} {v : Value} (hb : H.f b = some x) (hv : x.row[o]? = some v) {i : Info} (hi : μ[b]? = some i) :
    ∃ v', w.cell? ⟨i.blk, i.base + o, none⟩ = some v' ∧ VR μ v v' := by
  obtain ⟨j, hj, hbr⟩ := hR.blk b x hb
  rw [hi] at hj; cases hj
  have hlt : 0 < x.row.length := by
    rcases Nat.lt_or_ge 0 x.row.length with h1 | h1
    · exact h1
    · rw [List.getElem?_eq_none (by omega)] at hv; cases hv
  obtain ⟨C, e, fz, h1, h2, h3, h4, h5, h6⟩ := hbr.row (.inl hlt)
  obtain ⟨v', a, b'⟩ := h5 o v hv
  exact ⟨v', by rw [cell_at h1]; exact a, b'⟩

theorem add_mk (b o n : Nat) : (⟨b, o, none⟩ : Addr).add n = ⟨b, o + n, none⟩ := by
  unfold Addr.add; split
  · rename_i h; simp [h]
  · rfl

/-- Some cells loaded. -/
theorem Rel.cells (hR : Rel P E μ H w) {b o n : Nat} {x : Blk} {l : List Value} (hb : H.f b = some x) (hl : x.sub o n = some l) {i : Info} (hi : μ[b]? = some i) :
    ∃ l', (loadCells ⟨i.blk, i.base + o, none⟩ n).run P w = .ok l'.toArray w ∧ LR μ l l' ∧ ∀ (j : Nat) (v : Value), l'[j]? = some v → w.cell? ⟨i.blk, i.base + o + j, none⟩ = some v := by
  obtain ⟨hn, rfl⟩ := sub_row hl
  have hlen : ((x.row.drop o).take n).length = n := by simp; omega
  have hc : ∀ k : Nat, k < n → ∃ v', w.cell? ⟨i.blk, i.base + o + k, none⟩ = some v' ∧ VR μ (x.row.getD (o + k) undef) v' := fun k hk => by
    have : o + k < x.row.length := by omega
    obtain ⟨v', a, c⟩ := hR.cell hb (o := o + k) (v := x.row[o + k]) (List.getElem?_eq_getElem this) hi
    exact ⟨v', by rw [Nat.add_assoc]; exact a, by simpa [List.getD, List.getElem?_eq_getElem this] using c⟩
  have hmk : ∀ m : Nat, m ≤ n → ∃ l' : List Value, l'.length = m ∧ ∀ (k : Nat) (v' : Value), l'[k]? = some v' → w.cell? ⟨i.blk, i.base + o + k, none⟩ = some v' ∧ VR μ (x.row.getD (o + k) undef) v' := by
    intro m
    induction m with
    | zero => intro _; exact ⟨[], rfl, fun k v' h => by simp at h⟩
    | succ m ih =>
      intro hm
      obtain ⟨l', h1, h2⟩ := ih (by omega)
      obtain ⟨v', a, c⟩ := hc m (by omega)
      refine ⟨l' ++ [v'], by simp [h1], fun k u hu => ?_⟩
      rcases Nat.lt_or_ge k m with hk | hk
      · rw [List.getElem?_append_left (by omega)] at hu
        exact h2 k u hu
      · rw [List.getElem?_append_right (by omega)] at hu
        have hkm : k = m := by
          rcases Nat.lt_or_ge (k - l'.length) 1 with h3 | h3
          · omega
          · rw [List.getElem?_eq_none (by simpa using h3)] at hu; cases hu
        subst hkm
        simp [h1] at hu
        subst hu
        exact ⟨a, c⟩
  obtain ⟨l', h1, h2⟩ := hmk n (Nat.le_refl n)
  refine ⟨l', ?_, ⟨by rw [hlen, h1], fun k v v' a c => ?_⟩, fun j v hj => (h2 j v hj).1⟩
  · have := run_loadCells_list (P := P) w ⟨i.blk, i.base + o, none⟩ l' (fun j v hj => by rw [add_mk]; exact (h2 j v hj).1)
    rw [h1] at this
    exact this
  · have hk := (h2 k v' c).2
    rw [List.getElem?_take] at a
    split at a
    · rw [List.getElem?_drop] at a
      simpa [List.getD, a] using hk
    · cases a

theorem addr_inv {v v' : Value} {b o : Nat} (h : addr0 v = some (b, o)) (hv : VR μ v v') : ∃ i, μ[b]? = some i ∧ v' = .pointer (some ⟨i.blk, i.base + o, none⟩) := by
  unfold addr0 at h
  split at h
  · cases h
    cases hv with
    | ptr hi => exact ⟨_, hi, rfl⟩
  · cases h

theorem lload_sound {t : TypeId} {v v' u : Value} {H' : Hp} (h : lload P t v H = some (.val u H')) (hv : VR μ v v') (hR : Rel P E μ H w) :
    H' = H ∧ ∃ u', (Instr.loadAt t v').run P w = .ok u' w ∧ VR μ u u' := by
  simp only [lload, Option.bind_eq_some_iff] at h
  obtain ⟨⟨b, o⟩, h1, x, h2, g, h3, h4⟩ := h
  obtain ⟨i, hi, rfl⟩ := addr_inv h1 hv
  cases g with
  | true =>
    simp only [if_true, Option.bind_eq_some_iff] at h4
    obtain ⟨n, h5, l, h6, h7⟩ := h4
    simp at h7
    obtain ⟨rfl, rfl⟩ := h7
    obtain ⟨l', h8, h9, _⟩ := hR.cells h2 h6 hi
    exact ⟨rfl, _, by simp [Instr.loadAt, Instr.sureAddr, loadVar, run_aggT h3, run_sizeT h5, h8], VR.mk_agg h9⟩
  | false =>
    simp only [Bool.false_eq_true, if_false, Option.bind_eq_some_iff] at h4
    obtain ⟨c, h5, h7⟩ := h4
    simp at h7
    obtain ⟨rfl, rfl⟩ := h7
    rw [cell_row] at h5
    obtain ⟨v', a, d⟩ := hR.cell h2 h5 hi
    exact ⟨rfl, v', by simp [Instr.loadAt, Instr.sureAddr, loadVar, run_aggT h3, a], d⟩

/-- A row's cell laid anew. -/
theorem setc_row {x y : Blk} {o : Nat} {v : Value} (h : x.setc o v = some y) : o < x.row.length ∧ y.row = x.row.set o v ∧ isOne v = true ∧ x.rw = true ∧ y.rw = true ∧ y.esz = x.esz ∧ x.isRow = true ∧ y.isRow = true := by
  unfold Blk.setc at h
  split at h
  · split at h
    · rename_i hc; cases h; simp at hc
      exact ⟨hc.1, rfl, hc.2, rfl, rfl, rfl, rfl, rfl⟩
    · cases h
  · rename_i k xs
    split at h
    · split at h
      · rename_i hc; cases h; obtain ⟨rfl, hc⟩ := hc
        exact ⟨by simpa [Blk.row] using hc, by simp [Blk.row, List.map_set], rfl, rfl, rfl, rfl, rfl, rfl⟩
      · cases h
    · cases h
  · cases h

theorem oneCell_of {v : Value} (h : isOne v = true) : v.oneCell' = true := by cases v <;> first | rfl | (simp [isOne] at h)

theorem heap_setCell_self {b o : Nat} {C : Array Value} {e : TypeId} {fz : Nat × Nat} {v : Value} (h : w.heap[b]? = some (.cells C e fz)) : (w.setCell ⟨b, o, none⟩ v).heap[b]? = some (.cells (C.setIfInBounds o v) e fz) := by
  simp [World.setCell, Array.getElem?_modify, h]
theorem heap_setCell_far {b o c : Nat} {v : Value} (h : c ≠ b) : (w.setCell ⟨b, o, none⟩ v).heap[c]? = w.heap[c]? := by
  simp only [World.setCell, Array.getElem?_modify]
  rw [if_neg (fun e => h e.symm)]

/-- One cell stored. -/
theorem Rel.store (hR : Rel P E μ H w) {b o : Nat} {x y : Blk} {v v' : Value} (hb : H.f b = some x) (hy : x.setc o v = some y) (hv : VR μ v v') {i : Info} (hi : μ[b]? = some i) :
    (Go.store ⟨i.blk, i.base + o, none⟩ v').run P w = .ok () (w.setCell ⟨i.blk, i.base + o, none⟩ v') ∧ Rel P E μ (H.set b y) (w.setCell ⟨i.blk, i.base + o, none⟩ v') := by
  obtain ⟨ho, hrow, hone, hrx, hry, hes, hxr, hyr⟩ := setc_row hy
  obtain ⟨j, hj, hbr⟩ := hR.blk b x hb
  rw [hi] at hj; cases hj
  obtain ⟨C, e, fz, h1, h2, h3, h4, h5, h6⟩ := hbr.row (.inr hxr)
  have hlt : i.base + o < C.size := by omega
  have hcell : w.cell? ⟨i.blk, i.base + o, none⟩ = some C[i.base + o] := by rw [cell_at h1]; exact Array.getElem?_eq_getElem hlt
  have hfz : w.frozen? ⟨i.blk, i.base + o, none⟩ = false := by
    have := h6 hrx (i.base + o) (by omega) hlt
    simp only [World.frozen?, h1]
    simp only [Bool.and_eq_false_iff, decide_eq_false_iff_not]
    rcases Nat.lt_or_ge (i.base + o) fz.1 with h7 | h7
    · left; omega
    · right; intro h8; exact this ⟨h7, h8⟩
  refine ⟨?_, hR.turn hb hrx hi hry (by simp [World.setCell]) (by simp [World.setCell]) (by simp [World.setCell]) (by simp [World.setCell]) (fun c hc => heap_setCell_far hc) ?_⟩
  · rw [run_store P w _ v' _ (oneCell_of (by rw [VR.isOne hv]; exact hone))]
    simp [hcell, hfz]
  · have hmain : ∃ C e fz, (w.setCell ⟨i.blk, i.base + o, none⟩ v').heap[i.blk]? = some (.cells C e fz) ∧ C.size = i.cap ∧ y.esz = i.esz ∧ i.base + y.row.length ≤ C.size ∧
      (∀ (k : Nat) (v : Value), y.row[k]? = some v → ∃ v', C[i.base + k]? = some v' ∧ VR μ v v') ∧
      (y.rw = true → ∀ k, i.base ≤ k → k < C.size → ¬ (fz.1 ≤ k ∧ k < fz.2)) := by
      refine ⟨_, e, fz, heap_setCell_self h1, by simp [h2], hes.trans h3, by simp [hrow]; omega, fun k u hu => ?_, fun _ k ha hb' => h6 hrx k ha (by simpa using hb')⟩
      rw [hrow, List.getElem?_set] at hu
      split at hu
      · rename_i hk; subst hk
        simp [ho] at hu; subst hu
        exact ⟨v', by simp [hlt], hv⟩
      · rename_i hk
        obtain ⟨u', a, c⟩ := h5 k u hu
        exact ⟨u', by rw [Array.getElem?_setIfInBounds_ne (by omega)]; exact a, c⟩
    cases y with
    | cells => exact hmain
    | ints => exact hmain
    | map es => simp [Blk.isRow] at hyr
    | iter s p => simp [Blk.isRow] at hyr

theorem Hp.set_set (H : Hp) (b : Nat) (x y : Blk) : (H.set b x).set b y = H.set b y := by
  simp only [Hp.set]
  congr 1
  funext j
  simp only [upd]
  split <;> rfl
theorem Hp.set_f (H : Hp) (b : Nat) (x : Blk) : (H.set b x).f b = some x := by simp [Hp.set, upd]

/-- Some cells stored. -/
theorem Rel.stores : ∀ (l l' : List Value) (o i0 : Nat) {H : Hp} {w : World} {b : Nat} {x y : Blk} {i : Info}, Rel P E μ H w → H.f b = some x → x.setcs (o + i0) l = some y → LR μ l l' → μ[b]? = some i →
    ∃ w', (storeCells ⟨i.blk, i.base + o, none⟩ l' i0).run P w = .ok () w' ∧ (l = [] → w' = w ∧ y = x) ∧ (l ≠ [] → Rel P E μ (H.set b y) w')
  | [], l', o, i0, H, w, b, x, y, i, hR, hb, hy, hl, hi => by
    have : l' = [] := List.eq_nil_of_length_eq_zero hl.1.symm
    subst this
    simp [Blk.setcs] at hy
    exact ⟨w, by simp [storeCells], fun _ => ⟨rfl, hy.symm⟩, fun h => absurd rfl h⟩
  | v :: r, l', o, i0, H, w, b, x, y, i, hR, hb, hy, hl, hi => by
    match l', hl with
    | v' :: r', hl =>
      simp only [Blk.setcs, Option.bind_eq_some_iff] at hy
      obtain ⟨z, hz, hy⟩ := hy
      have hv : VR μ v v' := hl.2 0 v v' rfl rfl
      have hr : LR μ r r' := ⟨by have := hl.1; simpa using this, fun k a c p q => hl.2 (k + 1) a c (by simpa using p) (by simpa using q)⟩
      obtain ⟨h1, h2⟩ := hR.store hb hz hv hi
      obtain ⟨w', h3, h4, h5⟩ := Rel.stores r r' o (i0 + 1) h2 (Hp.set_f H b z) hy hr hi
      refine ⟨w', ?_, fun h => absurd h (by simp), fun _ => ?_⟩
      · have hadd : (⟨i.blk, i.base + o, none⟩ : Addr).add i0 = ⟨i.blk, i.base + (o + i0), none⟩ := by rw [add_mk, Nat.add_assoc]
        simp only [storeCells, Sem.run_bind, hadd, h1, Result.andThen_ok, h3]
      · by_cases hrn : r = []
        · obtain ⟨rfl, rfl⟩ := h4 hrn
          exact h2
        · have := h5 hrn
          rw [Hp.set_set] at this
          exact this
    | [], hl => exact absurd hl.1 (by simp)

theorem Hp.set_same (H : Hp) (b : Nat) (x : Blk) (h : H.f b = some x) : H.set b x = H := by
  cases H with
  | mk n f =>
    simp only [Hp.set]
    congr 1
    funext j
    simp only [upd]
    split
    · rename_i e; subst e; exact h.symm
    · rfl

theorem lstore_sound {t : TypeId} {a v a' v' u : Value} {H' : Hp} (h : lstore P t a v H = some (.val u H')) (ha : VR μ a a') (hv : VR μ v v') (hR : Rel P E μ H w) :
    u = undef ∧ ∃ w', (Instr.storeAt t a' v').run P w = .ok () w' ∧ Rel P E μ H' w' := by
  simp only [lstore, Option.bind_eq_some_iff] at h
  obtain ⟨⟨b, o⟩, h1, x, h2, n, h3, h4⟩ := h
  obtain ⟨i, hi, rfl⟩ := addr_inv h1 ha
  simp only at h4
  split at h4
  · rename_i hn
    simp only [Option.bind_eq_some_iff] at h4
    obtain ⟨y, h5, h6⟩ := h4
    simp at h6
    obtain ⟨rfl, rfl⟩ := h6
    have hl := hv.cells
    obtain ⟨w', h7, h8, h9⟩ := Rel.stores (cellsOf v) (cellsOf v') o 0 hR h2 (by simpa using h5) hl hi
    refine ⟨rfl, w', ?_, ?_⟩
    · have hsz : v'.cells.size = n := by rw [← Array.length_toList, cellsOf_eq, ← hl.1, hn]
      have hc : v'.cells.toList = cellsOf v' := cellsOf_eq v'
      simp [Instr.storeAt, Instr.sureAddr, storeVar, run_sizeT h3, hsz, hc, h7]
    · by_cases he : cellsOf v = []
      · obtain ⟨rfl, rfl⟩ := h8 he
        rw [Hp.set_same H b _ h2]; exact hR
      · exact h9 he
  · cases h4
end
end Go.Lite
