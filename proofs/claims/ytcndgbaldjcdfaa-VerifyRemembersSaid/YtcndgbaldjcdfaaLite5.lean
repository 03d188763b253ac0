/- Lite, part 5: the model does what the abstract operation says: what makes new blocks; structs and slices. -/
import Derived.Test.YtcndgbaldjcdfaaLite4
import Derived.Laws.IdiomStrings
namespace Go.Lite
open Go
set_option linter.unusedSimpArgs false
set_option linter.unusedVariables false

section
variable {P : Program} {E : Env} {μ : List Info} {H : Hp} {w : World}

theorem Rel.newRow (hR : Rel P E μ H w) {x : Blk} {C : Array Value} (e : TypeId) {fz : Nat × Nat} (hx : x.isRow = true) (hlen : x.row.length ≤ C.size)
    (hrow : ∀ (k : Nat) (v : Value), x.row[k]? = some v → ∃ v', C[k]? = some v' ∧ VR μ v v') (hfz : ∀ k, k < C.size → ¬ (fz.1 ≤ k ∧ k < fz.2)) :
    Rel P E (μ ++ [⟨w.heap.size, 0, x.esz, C.size⟩]) (H.new x) { w with heap := w.heap.push (.cells C e fz) } := by
  refine hR.new _ _ rfl x ?_
  have hmain : ∃ C' e' fz', ({ w with heap := w.heap.push (.cells C e fz) } : World).heap[w.heap.size]? = some (.cells C' e' fz') ∧ C'.size = C.size ∧ x.esz = x.esz ∧ 0 + x.row.length ≤ C'.size ∧
      (∀ (k : Nat) (v : Value), x.row[k]? = some v → ∃ v', C'[0 + k]? = some v' ∧ VR (μ ++ [⟨w.heap.size, 0, x.esz, C.size⟩]) v v') ∧
      (x.rw = true → ∀ k, 0 ≤ k → k < C'.size → ¬ (fz'.1 ≤ k ∧ k < fz'.2)) :=
    ⟨C, e, fz, by simp, rfl, rfl, by omega, fun k v hk => by obtain ⟨v', a, b⟩ := hrow k v hk; exact ⟨v', by simpa using a, b.mono (Ext.snoc μ _)⟩, fun _ k _ hk => hfz k hk⟩
  cases x with
  | cells => exact hmain
  | ints => exact hmain
  | map es => simp [Blk.isRow] at hx
  | iter s p => simp [Blk.isRow] at hx

theorem last_info (hR : Rel P E μ H w) (i : Info) : (μ ++ [i])[H.n]? = some i := by rw [← hR.len]; simp

/-- A variable of its own, new. -/
theorem newVar_sound {t : TypeId} {v v' : Value} (hv : VR μ v v') (hR : Rel P E μ H w) :
    DidV P E μ (do pure (.pointer (some (← newVar t v')))) w (.pointer (some ⟨H.n, 0, none⟩)) (H.new (.cells true 1 (cellsOf v))) := by
  have hl := hv.cells
  have h := hR.newRow (x := .cells true 1 (cellsOf v)) (C := v'.cells) t (fz := (0, 0)) rfl (by simp only [Blk.row]; rw [hl.1, ← cellsOf_eq]; simp)
    (fun k u hu => by obtain ⟨u', a, b⟩ := hl.at_ hu; exact ⟨u', by rw [← cellsOf_eq] at a; simpa using a, b⟩) (fun k _ h => by simp at h)
  exact ⟨.pointer (some ⟨w.heap.size, 0, none⟩), _, _, by simp [newVar, Go.newRow], Ext.snoc μ _, VR.ptr (last_info hR _), h⟩

theorem alloc_sound {e : TypeId} {z : Value} (hz : lzero P e = some z) (hR : Rel P E μ H w) :
    DidV P E μ (Instr.alloc e true (.tuple #[])) w (.pointer (some ⟨H.n, 0, none⟩)) (H.new (.cells true 1 (cellsOf z))) := by
  obtain ⟨h1, h2⟩ := run_zeroT (w := w) hz
  obtain ⟨v', w', μ', h3, h4⟩ := newVar_sound (t := e) (closed_VR (μ := μ) h2) hR
  refine ⟨v', w', μ', ?_, h4⟩
  simp only [Sem.run_bind, Sem.run_pure] at h3
  simp [Instr.alloc, h1, h3]

/-- Parts laid into cells. -/
theorem foldl_set : ∀ (l : List Value) (k o : Nat) (cs : Array Value), (l.zipIdx k).foldl (fun a (p : Value × Nat) => a.setIfInBounds (o + p.2) p.1) cs =
    (cs.toList.take (o + k) ++ (l.take (cs.size - (o + k))) ++ cs.toList.drop (o + k + l.length)).toArray ∨ cs.size < o + k + l.length
  | [], k, o, cs => by left; simp
  | v :: r, k, o, cs => by
    rcases Nat.lt_or_ge cs.size (o + k + (v :: r).length) with h | h
    · exact .inr h
    · left
      simp only [List.length_cons] at h
      rcases foldl_set r (k + 1) o (cs.setIfInBounds (o + k) v) with h1 | h1
      · simp only [List.zipIdx_cons, List.foldl_cons, h1]
        congr 1
        apply List.ext_getElem?
        intro j
        simp only [Array.size_setIfInBounds, Array.toList_setIfInBounds]
        have e1 : (r.take (cs.size - (o + (k + 1)))) = r := List.take_of_length_le (by omega)
        have e2 : ((v :: r).take (cs.size - (o + k))) = v :: r := List.take_of_length_le (by simp; omega)
        rw [e1, e2]
        simp only [List.getElem?_append, List.length_append, List.length_take, List.length_set, Array.length_toList, List.getElem?_take, List.getElem?_drop, List.getElem?_set, List.length_cons]
        by_cases c1 : j < o + k
        · rw [if_pos (by omega), if_pos (by omega), if_pos (by omega), if_neg (by omega), if_pos (by omega), if_pos (by omega), if_pos (by omega)]
        · by_cases c2 : j = o + k
          · subst c2
            rw [if_pos (by omega), if_pos (by omega), if_pos (by omega), if_pos (by omega), if_pos (by omega), if_pos (by omega), if_neg (by omega)]
            have : o + k - min (o + k) cs.size = 0 := by omega
            rw [this]; rfl
          · by_cases c3 : j < o + k + (r.length + 1)
            · rw [if_pos (by omega), if_neg (by omega), if_pos (by omega), if_neg (by omega)]
              have e3 : j - min (o + k) cs.size = (j - min (o + (k + 1)) cs.size) + 1 := by omega
              rw [e3, List.getElem?_cons_succ]
            · rw [if_neg (by omega), if_neg (by omega), if_neg (by omega)]
              congr 1
              omega
      · simp at h1; omega

theorem lfill_sound (place : Nat → Option (Nat × Nat)) : ∀ (parts parts' : List (Nat × Value)) (cs cs' r : List Value), parts.map (·.1) = parts'.map (·.1) → LR μ (parts.map (·.2)) (parts'.map (·.2)) → LR μ cs cs' →
    lfill place cs parts = some r → ∃ r', Instr.fill place cs'.toArray parts' = some r'.toArray ∧ LR μ r r'
  | [], [], cs, cs', r, _, _, hc, h => by simp [lfill] at h; subst h; exact ⟨cs', by simp [Instr.fill], hc⟩
  | [], _ :: _, _, _, _, h, _, _, _ => by simp at h
  | _ :: _, [], _, _, _, h, _, _, _ => by simp at h
  | (i, v) :: p, (i', v') :: p', cs, cs', r, hi, hp, hc, h => by
    simp at hi
    obtain ⟨rfl, hi⟩ := hi
    have hv : VR μ v v' := hp.2 0 v v' rfl rfl
    have hpr : LR μ (p.map (·.2)) (p'.map (·.2)) := ⟨by have := hp.1; simpa using this, fun k a b x y => hp.2 (k + 1) a b (by simpa using x) (by simpa using y)⟩
    simp only [lfill, Option.bind_eq_some_iff] at h
    obtain ⟨⟨off, size⟩, h1, h2⟩ := h
    simp only at h2
    split at h2
    · rename_i hc2
      obtain ⟨hsz, hle⟩ := hc2
      have hl := hv.cells
      have hcs := hc.1
      obtain ⟨r', h3, h4⟩ := lfill_sound place p p' _ (cs'.take off ++ cellsOf v' ++ cs'.drop (off + size)) r hi hpr (((hc.take off).append hl).append (hc.drop _)) h2
      refine ⟨r', ?_, h4⟩
      have hvs : v'.cells.size = size := by rw [← Array.length_toList, cellsOf_eq, ← hl.1, hsz]
      simp only [Instr.fill, h1]
      rw [if_neg (by simp [hvs]; omega)]
      rw [← h3]
      congr 1
      rw [← Array.foldl_toList, Array.toList_zipIdx]
      rcases foldl_set v'.cells.toList 0 off cs'.toArray with h5 | h5
      · simp only [Nat.add_zero] at h5
        refine Eq.trans h5 ?_
        have : (cellsOf v').take (cs'.length - off) = cellsOf v' := List.take_of_length_le (by rw [← hl.1]; omega)
        simp [cellsOf_eq, this, ← hl.1, hsz]
      · simp [cellsOf_eq, ← hl.1] at h5; omega
    · cases h2

theorem lplaces_sound : ∀ (fs : List Field) (l : List (Nat × Nat)), lplaces P fs = some l → (fs.mapM fun f => do pure (f.offset, ← sizeOf f.type) : Sem (List (Nat × Nat))).run P w = .ok l w
  | [], l, h => by simp [lplaces] at h; subst h; simp
  | f :: r, l, h => by
    simp only [lplaces, Option.bind_eq_some_iff] at h
    obtain ⟨n, h1, l', h2, h3⟩ := h
    simp at h3; subst h3
    have ih := lplaces_sound r l' h2
    simp only [List.mapM_cons, Sem.run_bind, run_sizeT h1, Result.andThen_ok, Sem.run_pure, ih]

theorem run_placesA {fs : Array Field} {l : List (Nat × Nat)} (h : lplaces P fs.toList = some l) : (fs.mapM fun f => do pure (f.offset, ← sizeOf f.type) : Sem (Array (Nat × Nat))).run P w = .ok l.toArray w := by
  have := lplaces_sound (w := w) fs.toList l h
  rw [Array.mapM_eq_mapM_toList]
  simp only [Sem.run_map, this, Result.andThen_ok]

theorem lbuild_sound {t : TypeId} {parts parts' : List (Nat × Value)} {u : Value} {H' : Hp} (h : lbuild P t parts H = some (.val u H')) (hi : parts.map (·.1) = parts'.map (·.1)) (hp : LR μ (parts.map (·.2)) (parts'.map (·.2))) :
    H' = H ∧ ∃ u', (Instr.build t parts'.toArray).run P w = .ok u' w ∧ VR μ u u' := by
  simp only [lbuild, Option.bind_eq_some_iff] at h
  obtain ⟨z, h1, h2⟩ := h
  obtain ⟨hz, hcl⟩ := run_zeroT (w := w) h1
  have hzl : LR μ (cellsOf z) (cellsOf z) := (closed_VR hcl).cells
  have hzc : z.cells = (cellsOf z).toArray := by rw [← cellsOf_eq]
  split at h2
  · rename_i fields hu
    simp only [Option.bind_eq_some_iff] at h2
    obtain ⟨ps, h3, cs, h4, h5⟩ := h2
    simp at h5
    obtain ⟨rfl, rfl⟩ := h5
    obtain ⟨r', h6, h7⟩ := lfill_sound _ parts parts' _ _ cs hi hp hzl h4
    refine ⟨rfl, _, ?_, VR.mk_agg h7⟩
    have hpl : (fun i : Nat => ps.toArray[i]?) = fun i : Nat => ps[i]? := by funext i; simp
    simp only [Instr.build, Sem.run_bind, hz, Result.andThen_ok, run_underlying hu, run_placesA h3, hzc, hpl, h6, Sem.run_pure]
  · rename_i n elem hu
    simp only [Option.bind_eq_some_iff] at h2
    obtain ⟨m, h3, cs, h4, h5⟩ := h2
    simp at h5
    obtain ⟨rfl, rfl⟩ := h5
    obtain ⟨r', h6, h7⟩ := lfill_sound _ parts parts' _ _ cs hi hp hzl h4
    refine ⟨rfl, _, ?_, VR.mk_agg h7⟩
    simp only [Instr.build, Sem.run_bind, hz, Result.andThen_ok, run_underlying hu, run_sizeT h3, hzc, h6, Sem.run_pure]
  · cases h2

theorem toInts_row : ∀ (k : IntKind) (cs : List Value) (xs : List Int), toInts k cs = some xs → cs = xs.map (.int k)
  | _, [], xs, h => by simp [toInts] at h; subst h; rfl
  | k, v :: r, xs, h => by
    cases v with
    | int k' n =>
      simp only [toInts] at h
      split at h
      · rename_i e; subst e
        cases hr : toInts k' r with
        | none => simp [hr] at h
        | some ys => simp [hr] at h; subst h; rw [toInts_row k' r ys hr]; rfl
      · cases h
    | _ => simp [toInts] at h

theorem mkRow_row (elem : TypeId) (n : Nat) (cs : List Value) : (mkRow P elem n cs).row = cs ∧ (mkRow P elem n cs).isRow = true ∧ (mkRow P elem n cs).rw = true := by
  unfold mkRow
  split
  · split
    · rename_i xs hx; exact ⟨by simp [Blk.row, toInts_row _ _ _ hx], rfl, rfl⟩
    · exact ⟨rfl, rfl, rfl⟩
  · exact ⟨rfl, rfl, rfl⟩

/-- The size of a whole number's type is one cell. -/
theorem intT_some {t : TypeId} {k : IntKind} (h : intT P t = some k) : P.underlying t = some (.int k) ∧ szT P t = some 1 := by
  unfold intT at h
  split at h
  · rename_i k' hu
    split at h
    · rename_i hs; cases h; exact ⟨hu, hs⟩
    · cases h
  · cases h
theorem mkRow_esz {elem : TypeId} {n : Nat} (hn : szT P elem = some n) (cs : List Value) : (mkRow P elem n cs).esz = n := by
  unfold mkRow
  split
  · rename_i k hk
    have := (intT_some hk).2
    rw [this] at hn; cases hn
    split <;> rfl
  · rfl

theorem zeros_get : ∀ (z : List Value) (n : Nat), 0 < z.length → ((Array.range (n * z.length)).map (z.toArray[· % z.toArray.size]!)).toList = lzeros z n
  | z, 0, hz => by simp [lzeros]
  | z, n + 1, hz => by
    have ih := zeros_get z n hz
    apply List.ext_getElem?
    intro j
    simp only [lzeros]
    rcases Nat.lt_or_ge j z.length with hj | hj
    · rw [List.getElem?_append_left hj]
      have h1 : j < (n + 1) * z.length := by rw [Nat.add_mul]; omega
      simp [h1, Nat.mod_eq_of_lt hj, hj]
    · rw [List.getElem?_append_right hj, ← ih]
      have hm : (j - z.length) % z.length = j % z.length := by
        conv => rhs; rw [show j = (j - z.length) + z.length by omega, Nat.add_mod_right]
      by_cases h1 : j < (n + 1) * z.length
      · have h2 : j - z.length < n * z.length := by rw [Nat.add_mul] at h1; omega
        simp [h1, h2, hm]
      · have h2 : ¬ j - z.length < n * z.length := by rw [Nat.add_mul] at h1; omega
        simp [h1, h2]

theorem lzeros_VR : ∀ (z : List Value) (n : Nat), LR μ z z → LR μ (lzeros z n) (lzeros z n)
  | _, 0, _ => LR.nil μ
  | z, n + 1, h => h.append (lzeros_VR z n h)

theorem lbuildSlice_sound {t : TypeId} {n : Nat} {parts parts' : List (Nat × Value)} {u : Value} {H' : Hp} (h : lbuildSlice P t n parts H = some (.val u H')) (hi : parts.map (·.1) = parts'.map (·.1))
    (hp : LR μ (parts.map (·.2)) (parts'.map (·.2))) (hR : Rel P E μ H w) : DidV P E μ (Instr.buildSlice t n parts'.toArray) w u H' := by
  unfold lbuildSlice at h
  split at h
  · rename_i elem hu
    simp only [Option.bind_eq_some_iff] at h
    obtain ⟨m, h1, z, h2, h3⟩ := h
    obtain ⟨hz, hcl⟩ := run_zeroT (w := w) h2
    split at h3
    · rename_i hc
      obtain ⟨hle, hzn⟩ := hc
      simp only [Option.bind_eq_some_iff, lnew] at h3
      obtain ⟨cs, h4, h5⟩ := h3
      simp at h5
      obtain ⟨rfl, rfl⟩ := h5
      have hzl : LR μ (cellsOf z) (cellsOf z) := (closed_VR hcl).cells
      obtain ⟨r', h6, h7⟩ := lfill_sound _ parts parts' _ _ cs hi hp (lzeros_VR _ n hzl) h4
      obtain ⟨m1, m2, m3⟩ := mkRow_row (P := P) elem m cs
      have hnew := hR.newRow (x := mkRow P elem m cs) (C := r'.toArray) elem (fz := (0, 0)) m2 (by rw [m1]; simp [h7.1])
        (fun k v hk => by rw [m1] at hk; obtain ⟨v', a, b⟩ := h7.at_ hk; exact ⟨v', by simpa using a, b⟩) (fun k _ h => by simp at h)
      refine ⟨.slice (some ⟨w.heap.size, 0, none⟩) n n, _, _, ?_, Ext.snoc μ _, ?_, hnew⟩
      · have hlen : ∀ q, (lzeros (cellsOf z) q).length = q * m := fun q => by
          induction q with
          | zero => simp [lzeros]
          | succ q ih => simp [lzeros, ih, hzn, Nat.add_mul]; omega
        unfold Instr.buildSlice
        simp only [Sem.run_bind, run_underlying hu, Result.andThen_ok, run_sizeT h1]
        rw [if_neg (by omega)]
        by_cases h0 : n * m = 0
        · have hnil : lzeros (cellsOf z) n = [] := List.eq_nil_of_length_eq_zero (by rw [hlen, h0])
          have hcell : ∀ f : Nat → Value, (Array.range (n * m)).map f = (lzeros (cellsOf z) n).toArray := fun f => by rw [h0, hnil]; simp
          rw [if_pos h0]
          simp only [Sem.run_bind, Sem.run_pure, Result.andThen_ok, hcell, h6, Go.newRow, run_newObj]
        · have hzp : 0 < (cellsOf z).length := by
            rw [hzn]
            rcases Nat.eq_zero_or_pos m with hm | hm
            · subst hm; simp at h0
            · exact hm
          have hg := zeros_get (cellsOf z) n hzp
          rw [hzn] at hg
          have hzc : z.cells = (cellsOf z).toArray := by rw [← cellsOf_eq]
          have hcell : (Array.range (n * m)).map (fun x => z.cells[x % z.cells.size]!) = (lzeros (cellsOf z) n).toArray := by rw [← hg, hzc]
          rw [if_neg h0]
          simp only [Sem.run_bind, hz, Sem.run_pure, Result.andThen_ok, hcell, h6, Go.newRow, run_newObj]
      · refine VR.sl (last_info hR _) (Nat.le_refl n) (.inr ⟨by simp, ?_⟩)
        simp only [mkRow_esz h1]
        have : r'.length = n * m := by
          rw [← h7.1]
          have hlf : ∀ (ps : List (Nat × Value)) (a b : List Value), lfill (fun i => some (i * m, m)) a ps = some b → b.length = a.length := by
            intro ps
            induction ps with
            | nil => intro a b h; simp [lfill] at h; rw [h]
            | cons p ps ih =>
              intro a b h
              obtain ⟨i, v⟩ := p
              simp only [lfill, Option.bind_some] at h
              split at h
              · rename_i hc
                rw [ih _ _ h]
                simp [hc.1]
                omega
              · cases h
          rw [hlf _ _ _ h4]
          have hlen : ∀ q, (lzeros (cellsOf z) q).length = q * m := fun q => by
            induction q with
            | zero => simp [lzeros]
            | succ q ih => simp [lzeros, ih, hzn, Nat.add_mul]; omega
          exact hlen n
        simp [this]
    · cases h3
  · cases h
end
end Go.Lite
