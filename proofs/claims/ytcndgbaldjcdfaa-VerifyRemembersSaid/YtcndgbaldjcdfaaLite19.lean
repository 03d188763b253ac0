/- Lite, part 19: what came in, read into the abstract heap: cells, slices, arguments. -/
import Derived.Test.YtcndgbaldjcdfaaLite18
namespace Go.Lite
open Go Go.ChangeShapes Go.WideShapes Go.Deep
set_option linter.unusedSimpArgs false
set_option linter.unusedVariables false

section
variable {H : Type} {enc : TypeId × Value → H} {P : Program} {W : World}

/-- Cells are read in, one by one. -/
def ReadIn (P : Program) (W : World) (ls : List TypeId) (cs : List Value) : Prop :=
  ∀ μ Hh, Rel P (envOf W) μ Hh W → ∃ μ' H' vs, Ext μ μ' ∧ Rel P (envOf W) μ' H' W ∧ Hh.le H' ∧ LR μ' vs cs ∧ ∀ (j : Nat) (u : TypeId) (v : Value), ls[j]? = some u → vs[j]? = some v → Sh P H' u v

theorem readIn_list : ∀ (ls : List TypeId) (cs : List Value), cs.length = ls.length → (∀ (j : Nat) u c, ls[j]? = some u → cs[j]? = some c → ReadIn P W [u] [c]) → ReadIn P W ls cs
  | [], cs, hl, _ => fun μ Hh hR => by
    have : cs = [] := List.eq_nil_of_length_eq_zero hl
    subst this
    exact ⟨μ, Hh, [], Ext.refl μ, hR, Hp.le.refl Hh, LR.nil μ, fun j u v h => by simp at h⟩
  | u :: ls, cs, hl, h => fun μ Hh hR => by
    cases cs with
    | nil => simp at hl
    | cons c cs =>
      obtain ⟨μ1, H1, vs1, e1, r1, l1, lr1, s1⟩ := h 0 u c rfl rfl μ Hh hR
      obtain ⟨μ2, H2, vs2, e2, r2, l2, lr2, s2⟩ := readIn_list ls cs (by simpa using hl) (fun j u' c' hu hc => h (j + 1) u' c' (by simpa using hu) (by simpa using hc)) μ1 H1 r1
      have hv1 : vs1.length = 1 := lr1.1
      match vs1, hv1 with
      | [v], _ =>
        refine ⟨μ2, H2, v :: vs2, e1.trans e2, r2, l1.trans l2, LR.append (LR.mono e2 lr1) lr2, fun j u' v' hu hv => ?_⟩
        cases j with
        | zero => simp at hu hv; subst hu; subst hv; exact (s1 0 _ _ rfl rfl).mono l2
        | succ j => exact s2 j u' v' (by simpa using hu) (by simpa using hv)

theorem readIn_scal {u : TypeId} {c : Value} (hs : scal c = true) (h : ∀ H', Sh P H' u c) : ReadIn P W [u] [c] := fun μ Hh hR =>
  ⟨μ, Hh, [c], Ext.refl μ, hR, Hp.le.refl Hh, LR.of_scal μ (by simp [hs]), fun j u' v hu hv => by
    cases j with
    | zero => simp at hu hv; subst hu; subst hv; exact h Hh
    | succ j => simp at hu⟩

theorem flat_get {l : List TypeId} {n i j : Nat} (hi : i < n) (hj : j < l.length) : (List.replicate n l).flatten[i * l.length + j]? = l[j]? := by
  induction n generalizing i with
  | zero => omega
  | succ n ih =>
    rw [List.replicate_succ, List.flatten_cons]
    cases i with
    | zero => rw [Nat.zero_mul, Nat.zero_add, List.getElem?_append_left hj]
    | succ i =>
      rw [List.getElem?_append_right (by rw [Nat.succ_mul]; omega)]
      rw [show (i + 1) * l.length + j - l.length = i * l.length + j by rw [Nat.succ_mul]; omega]
      exact ih (by omega)

/-- Some block of the heap has cells. -/
def HasCells (W : World) : Prop := ∃ (b : Nat) (C : Array Value) (e : TypeId) (fz : Nat × Nat), W.heap[b]? = some (Obj.cells C e fz)

theorem row_block {a : Addr} {m : Nat} (hm : 0 < m) (h : ∀ j, j < m → ∃ c, W.cell? (a.add j) = some c) : a.spot = none ∧ ∃ C e fz, W.heap[a.block]? = some (Obj.cells C e fz) ∧ a.off + m ≤ C.size ∧ ∀ j, j < m → W.cell? (a.add j) = C[a.off + j]? := by
  obtain ⟨c, hc⟩ := h 0 hm
  rw [show a.add 0 = a by simp [Addr.add]] at hc
  have hs := World.cell?_spot hc
  have hadd : ∀ j, a.add j = ⟨a.block, a.off + j, none⟩ := fun j => by
    obtain ⟨b, o, s⟩ := a
    simp only at hs; subst hs
    unfold Addr.add
    split
    · rename_i h0; subst h0; rfl
    · rfl
  unfold World.cell? at hc
  split at hc
  · rename_i C e fz hh
    have hcell : ∀ j, W.cell? (a.add j) = C[a.off + j]? := fun j => by
      rw [hadd j]; unfold World.cell?; simp only [hh]; rfl
    refine ⟨hs, C, e, fz, hh, ?_, fun j _ => hcell j⟩
    obtain ⟨c', hc'⟩ := h (m - 1) (by omega)
    rw [hcell] at hc'
    have := (Array.getElem?_eq_some_iff.1 hc').1
    omega
  · cases hc

theorem readIn_trod (hC : HasCells W) : ∀ (fuel : Nat) (u : TypeId) (c : Value) (x : DataW H × List MemPlace), LeafT P u → DataW.trod enc P W 0 (fun _ => true) true fuel u [c] = some x → ReadIn P W [u] [c] := by
  intro fuel
  induction fuel using Nat.strongRecOn with
  | ind fuel ih =>
    intro u c x hL ht
    rcases hL with hu | ⟨k, hu⟩ | hu | ⟨e, k, l, hu, hl, hlc, hl0⟩
    · obtain ⟨s, hc, _, hs⟩ := DataW.trod_string hu ht
      simp at hc; subst hc
      exact readIn_scal rfl fun H' => .str s hu hs
    · obtain ⟨n, hc, _, hw⟩ := DataW.trod_int hu ht
      simp at hc; subst hc
      exact readIn_scal rfl fun H' => .int n hu hw
    · obtain ⟨b, hc, _⟩ := DataW.trod_bool hu ht
      simp at hc; subst hc
      exact readIn_scal rfl fun H' => .bool b hu
    · rcases DataW.trod_slice hu ht with ⟨hc, _⟩ | ⟨a, len, cap, elems, rest, n, hf, hc, _, _, hlen, hcap, hel, hget, hspare, _⟩
      · simp at hc; subst hc
        exact readIn_scal rfl fun H' => .nil hu
      · simp at hc; subst hc
        obtain ⟨hrl, hrest⟩ := hspare rfl
        rw [← hlc] at hget hrest
        -- each element up to the capacity
        have hall : ∀ i, i < cap → ∃ cs' y, W.cells? 0 (a.add (i * l.length)) l.length = some cs' ∧ DataW.trod enc P W 0 (fun _ => true) true n e cs' = some y := fun i hi => by
          rcases Nat.lt_or_ge i len with h1 | h1
          · have := hget i h1
            rw [List.getElem?_eq_getElem (by omega)] at this
            obtain ⟨cs', h2, h3⟩ := Option.bind_eq_some_iff.1 this
            exact ⟨cs', _, h2, h3⟩
          · have := hrest (i - len) (by omega)
            rw [show len + (i - len) = i by omega, List.getElem?_eq_getElem (by omega)] at this
            obtain ⟨cs', h2, h3⟩ := Option.bind_eq_some_iff.1 this
            exact ⟨cs', _, h2, h3⟩
        have hcell : ∀ j, j < cap * l.length → ∃ c, W.cell? (a.add j) = some c := fun j hj => by
          have hi : j / l.length < cap := (Nat.div_lt_iff_lt_mul hl0).2 hj
          obtain ⟨cs', y, h1, _⟩ := hall _ hi
          obtain ⟨_, h2, h3⟩ := World.cells?_some h1
          have h4 := h3 (j % l.length) (Nat.mod_lt _ hl0)
          rw [add_add, show j / l.length * l.length + j % l.length = j by rw [Nat.mul_comm]; exact Nat.div_add_mod j l.length] at h4
          rw [List.getElem?_eq_getElem (by rw [h2]; exact Nat.mod_lt _ hl0)] at h4
          exact ⟨_, h4⟩
        -- the row as a list
        let cs := (List.range (len * l.length)).map fun j => (W.cell? (a.add j)).getD undef
        have hcsl : cs.length = len * l.length := by simp [cs]
        have hle : len * l.length ≤ cap * l.length := Nat.mul_le_mul_right _ hlen
        have hcs : ∀ j, j < len * l.length → W.cell? (a.add j) = cs[j]? := fun j hj => by
          obtain ⟨c, hc⟩ := hcell j (by omega)
          simp [cs, hj, hc]
        have hread : CellsRead enc P W n (List.replicate len l).flatten cs := by
          refine cellsRead_rep len cs hcsl fun i hi => ?_
          obtain ⟨cs', y, h1, h2⟩ := hall i (by omega)
          obtain ⟨_, h3, h4⟩ := World.cells?_some h1
          have e1 : (cs.drop (i * l.length)).take l.length = cs' := by
            have hb : i * l.length + l.length ≤ len * l.length := by rw [← Nat.succ_mul]; exact Nat.mul_le_mul_right _ hi
            refine List.ext_getElem? fun j => ?_
            rcases Nat.lt_or_ge j l.length with hj | hj
            · rw [List.getElem?_take, if_pos hj, List.getElem?_drop, ← hcs _ (by omega), ← h4 j hj, add_add]
            · rw [List.getElem?_eq_none (by rw [List.length_take]; omega), List.getElem?_eq_none (by omega)]
          rw [e1]
          exact cellsRead_of_trod k e l n cs' y hl h2
        have hlist : ReadIn P W (List.replicate len l).flatten cs := readIn_list _ _ hread.1 fun j u c hu hc => by
          obtain ⟨h1, n', x, h2, h3⟩ := hread.2 j u c hu hc
          exact ih n' (by omega) u c x h1 h3
        intro μ Hh hR
        obtain ⟨μ1, H1, vs, e1, r1, l1, lr1, s1⟩ := hlist μ Hh hR
        have hvl : vs.length = len * l.length := lr1.1.trans hcsl
        -- where the row lies
        obtain ⟨i, o, hko, hilt, hbr, hsl⟩ : ∃ (i : Info) (o : Obj), W.heap[i.blk]? = some o ∧ i.blk < W.heap.size ∧ (∀ μ2, Ext μ1 μ2 → BR μ2 i W (.cells false l.length vs)) ∧
            (cap = 0 ∨ (a = ⟨i.blk, i.base + 0, none⟩ ∧ i.base + 0 + cap * i.esz ≤ i.cap)) := by
          rcases Nat.eq_zero_or_pos cap with h0 | h0
          · obtain ⟨b, C, e', fz, hb⟩ := hC
            have h1 : len = 0 := by omega
            have : vs = [] := List.eq_nil_of_length_eq_zero (by rw [hvl, h1, Nat.zero_mul])
            subst this
            exact ⟨⟨b, 0, l.length, C.size⟩, _, hb, (Array.getElem?_eq_some_iff.1 hb).1, fun μ2 _ => ⟨C, e', fz, hb, rfl, rfl, by simp [Blk.row], fun k v h => by simp [Blk.row] at h, fun h => by cases h⟩, .inl h0⟩
          · obtain ⟨hs, C, e', fz, hb, hsz, hcc⟩ := row_block (W := W) (a := a) (m := cap * l.length) (Nat.mul_pos h0 hl0) hcell
            refine ⟨⟨a.block, a.off, l.length, C.size⟩, _, hb, (Array.getElem?_eq_some_iff.1 hb).1, fun μ2 hx => ⟨C, e', fz, hb, rfl, rfl, ?_, fun k v hk => ?_, fun h => by cases h⟩, .inr ⟨?_, ?_⟩⟩
            · show a.off + vs.length ≤ C.size
              omega
            · have hk : vs[k]? = some v := hk
              have hkl : k < len * l.length := by rw [← hvl]; exact (List.getElem?_eq_some_iff.1 hk).1
              have h5 := hcs k hkl
              rw [hcc k (by omega)] at h5
              have h6 : cs[k]? = some cs[k] := List.getElem?_eq_getElem (by omega)
              exact ⟨_, h5.trans h6, (lr1.2 k v _ hk h6).mono hx⟩
            · obtain ⟨b, o, s⟩ := a
              simp only at hs; subst hs; rfl
            · exact hsz
        have hext := Ext.snoc μ1 i
        have hlast : (μ1 ++ [i])[H1.n]? = some i := by rw [← r1.len]; simp
        have r2 := Rel.ro r1 (x := .cells false l.length vs) (i := i) (o := o) hko hilt (hbr _ hext) rfl
        have l2 := Hp.le.new (H := H1) (.cells false l.length vs) r1.lt_n
        refine ⟨μ1 ++ [i], H1.new (.cells false l.length vs), [.slice (some ⟨H1.n, 0, none⟩) len cap], e1.trans hext, r2, l1.trans l2,
          LR.cons (.sl hlast hlen hsl) (LR.nil _), fun j u' v hu' hv => ?_⟩
        cases j with
        | succ j => simp at hu'
        | zero =>
          simp at hu' hv; subst hu'; subst hv
          refine .row hu hl hl0 (by omega) hvl (by simp [Hp.new, upd]) fun i' j' u2 v2 hi' hj' hv' => ?_
          have hj2 := (List.getElem?_eq_some_iff.1 hj').1
          exact (s1 (i' * l.length + j') u2 v2 (by rw [flat_get hi' hj2]; exact hj') hv').mono l2

/-- An argument: its cells. -/
theorem readIn_arg (hC : HasCells W) {t : TypeId} {v : Value} {d : DataW H} {ps : List MemPlace} {k : Nat} {l : List TypeId} (hl : leafs P k t = some l) (h : DataW.Trod enc P W 0 (fun _ => true) true t v d ps) : ReadIn P W l (cellsOf v) := by
  obtain ⟨fuel, hf⟩ := h
  rw [cellsOf_eq] at hf
  have hr := cellsRead_of_trod k t l fuel _ _ hl hf
  exact readIn_list _ _ hr.1 fun j u c hu hc => by
    obtain ⟨h1, n, x, _, h3⟩ := hr.2 j u c hu hc
    exact readIn_trod hC n u c x h1 h3

/-- A value of the abstract side for the cells read in. -/
def valOf (agg : Bool) (vs : List Value) : Value := if agg then .agg vs.toArray else vs.headD undef
end
end Go.Lite
