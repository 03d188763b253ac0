/- Lite, part 12: maps are written, and entries are taken away. -/
import Derived.Test.YtcndgbaldjcdfaaLite11
namespace Go.Lite
open Go
set_option linter.unusedSimpArgs false
set_option linter.unusedVariables false

section
variable {P : Program} {E : Env} {μ : List Info} {H : Hp} {w : World}

theorem perm_mid {α : Type} (l : List α) (j : Nat) (hj : j < l.length) : l.Perm (l[j] :: (l.take j ++ l.drop (j + 1))) := by
  have h : l = l.take j ++ l[j] :: l.drop (j + 1) := by rw [← List.drop_eq_getElem_cons hj, List.take_append_drop]
  have h2 : (l.take j ++ l[j] :: l.drop (j + 1)).Perm (l[j] :: (l.take j ++ l.drop (j + 1))) := List.perm_middle
  rw [← h] at h2
  exact h2
theorem perm_set_mid {α : Type} (l : List α) (j : Nat) (hj : j < l.length) (x : α) : (l.set j x).Perm (x :: (l.take j ++ l.drop (j + 1))) := by
  have h : l.set j x = l.take j ++ x :: l.drop (j + 1) := List.set_eq_take_append_cons_drop .. |>.trans (by simp [hj])
  rw [h]
  exact List.perm_middle
theorem perm_set {α : Type} {l L : List α} (hp : l.Perm L) {j i : Nat} {e x : α} (hj : l[j]? = some e) (hi : L[i]? = some e) : (l.set j x).Perm (L.set i x) := by
  obtain ⟨hj1, hj2⟩ := List.getElem?_eq_some_iff.1 hj
  obtain ⟨hi1, hi2⟩ := List.getElem?_eq_some_iff.1 hi
  have h1 := perm_mid l j hj1
  have h2 := perm_mid L i hi1
  rw [hj2] at h1
  rw [hi2] at h2
  have h3 := List.Perm.cons_inv ((h1.symm.trans hp).trans h2)
  exact ((perm_set_mid l j hj1 x).trans (h3.cons x)).trans (perm_set_mid L i hi1 x).symm
theorem perm_erase {α : Type} {l L : List α} (hp : l.Perm L) {j i : Nat} {e : α} (hj : l[j]? = some e) (hi : L[i]? = some e) : (l.eraseIdx j).Perm (L.eraseIdx i) := by
  obtain ⟨hj1, hj2⟩ := List.getElem?_eq_some_iff.1 hj
  obtain ⟨hi1, hi2⟩ := List.getElem?_eq_some_iff.1 hi
  have h1 := perm_mid l j hj1
  have h2 := perm_mid L i hi1
  rw [hj2] at h1
  rw [hi2] at h2
  rw [List.eraseIdx_eq_take_drop_succ, List.eraseIdx_eq_take_drop_succ]
  exact List.Perm.cons_inv ((h1.symm.trans hp).trans h2)

theorem lput_spec (k v : Value) : ∀ es : List (Value × Value), ((∀ p : Value × Value, p ∈ es → isKey k p.1 = false) ∧ lput k v es = es ++ [(k, v)]) ∨ ∃ j p, es[j]? = some p ∧ isKey k p.1 = true ∧ lput k v es = es.set j (k, v)
  | [] => .inl ⟨(fun p hp => by cases hp), rfl⟩
  | (a, u) :: r => by
    simp only [lput]
    cases hk : isKey k a with
    | true => right; exact ⟨0, (a, u), rfl, hk, rfl⟩
    | false =>
      rcases lput_spec k v r with ⟨h1, h2⟩ | ⟨j, p, h1, h2, h3⟩
      · left; refine ⟨fun p hp => ?_, by simp [h2]⟩
        rcases List.mem_cons.1 hp with rfl | hp
        · exact hk
        · exact h1 p hp
      · right; exact ⟨j + 1, p, by simpa using h1, h2, by simp [h3]⟩
theorem ldel_spec (k : Value) : ∀ es : List (Value × Value), ((∀ p : Value × Value, p ∈ es → isKey k p.1 = false) ∧ ldel k es = es) ∨ ∃ j p, es[j]? = some p ∧ isKey k p.1 = true ∧ ldel k es = es.eraseIdx j
  | [] => .inl ⟨(fun p hp => by cases hp), rfl⟩
  | (a, u) :: r => by
    simp only [ldel]
    cases hk : isKey k a with
    | true => right; exact ⟨0, (a, u), rfl, hk, rfl⟩
    | false =>
      rcases ldel_spec k r with ⟨h1, h2⟩ | ⟨j, p, h1, h2, h3⟩
      · left; refine ⟨fun p hp => ?_, by simp [h2]⟩
        rcases List.mem_cons.1 hp with rfl | hp
        · exact hk
        · exact h1 p hp
      · right; exact ⟨j + 1, p, by simpa using h1, h2, by simp [h3]⟩

/-- Which of the model's entries an abstract one is. -/
theorem MR.entry {es : List (Value × Value)} {A : Array MapEntry} {c : Nat} (h : MR μ es A c) : ∃ l : List MapEntry, l.Perm A.toList ∧ es.length = l.length ∧
    (∀ (k : Nat) (x : Value × Value) (e : MapEntry), es[k]? = some x → l[k]? = some e → e.key = x.1 ∧ scal x.1 = true ∧ VR μ x.2 e.val) := h.perm

theorem MR.set_ {es : List (Value × Value)} {A : Array MapEntry} {c : Nat} (h : MR μ es A c) {k v v' : Value} (hks : scal k = true) (hv : VR μ v v') {j i : Nat} {p : Value × Value} {e : MapEntry} (hj : es[j]? = some p) (hpk : isKey k p.1 = true) (hi : A.toList[i]? = some e)
    (hek : isKey k e.key = true) : MR μ (es.set j (k, v)) (A.modify i fun e => { e with key := k, val := v' }) c := by
  obtain ⟨l, hp, hl, hr⟩ := h.perm
  have hjl := (List.getElem?_eq_some_iff.1 hj).1
  have hjl2 : j < l.length := by omega
  have hlj := List.getElem?_eq_getElem hjl2
  have h1 := hr j p _ hj hlj
  have hlm : l[j] ∈ A.toList := hp.subset (List.getElem_mem hjl2)
  have hee : l[j] = e := h.unique hlm (List.mem_of_getElem? hi) (by rw [h1.1]; exact hpk) hek
  have hil := (List.getElem?_eq_some_iff.1 hi).1
  have hAt : (A.modify i fun e => { e with key := k, val := v' }).toList = A.toList.set i { e with key := k, val := v' } := by
    rw [Array.toList_modify]
    apply List.ext_getElem?
    intro q
    rw [List.getElem?_modify, List.getElem?_set]
    split
    · rename_i e1; subst e1; rw [hi]; simp [hil]
    · simp
  have hke := isKey_eq hek
  have hkp := isKey_eq hpk
  refine ⟨⟨l.set j { e with key := k, val := v' }, ?_, by simp [hl], fun q x f hx hf => ?_⟩, ?_, ?_, ?_⟩
  · rw [hAt]; exact perm_set hp (by rw [hlj, hee]) hi
  · rw [List.getElem?_set] at hx hf
    split at hx
    · rename_i e1; subst e1
      simp [hjl] at hx; simp [hjl2] at hf
      subst hx; subst hf
      exact ⟨rfl, hks, hv⟩
    · rename_i e1
      rw [if_neg e1] at hf
      exact hr q x f hx hf
  · have : (es.set j (k, v)).map (·.1) = es.map (·.1) := by
      rw [List.map_set]
      have : (es.map (·.1))[j]? = some k := by rw [List.getElem?_map, hj]; simp [← hkp]
      apply List.ext_getElem?
      intro q
      rw [List.getElem?_set]
      split
      · rename_i e1; subst e1; rw [this]; simp [hjl]
      · rfl
    rw [this]; exact h.keys
  · have : (A.modify i fun e => { e with key := k, val := v' }).toList.map (·.born) = A.toList.map (·.born) := by
      rw [hAt, List.map_set]
      apply List.ext_getElem?
      intro q
      rw [List.getElem?_set]
      split
      · rename_i e1; subst e1; rw [List.getElem?_map, hi]; simp; simpa using hil
      · rfl
    rw [this]; exact h.born
  · intro f hf
    rw [hAt] at hf
    rcases List.mem_or_eq_of_mem_set hf with hf | rfl
    · exact h.lt f hf
    · exact h.lt e (List.mem_of_getElem? hi)

theorem MR.push_ {es : List (Value × Value)} {A : Array MapEntry} {c : Nat} (h : MR μ es A c) {k v v' : Value} (hks : scal k = true) (hkk : ∀ a, a = k → isKey k a = true) (hv : VR μ v v') (hno : ∀ p : Value × Value, p ∈ es → isKey k p.1 = false) :
    MR μ (es ++ [(k, v)]) (A.push { key := k, val := v', born := c }) (c + 1) := by
  obtain ⟨l, hp, hl, hr⟩ := h.perm
  refine ⟨⟨l ++ [{ key := k, val := v', born := c }], by rw [Array.toList_push]; exact hp.append_right _, by simp [hl], fun q x f hx hf => ?_⟩, ?_, ?_, ?_⟩
  · rcases Nat.lt_or_ge q es.length with hq | hq
    · rw [List.getElem?_append_left hq] at hx
      rw [List.getElem?_append_left (by omega)] at hf
      exact hr q x f hx hf
    · rw [List.getElem?_append_right hq] at hx
      rw [List.getElem?_append_right (by omega), ← hl] at hf
      have : q - es.length = 0 := by
        rcases Nat.lt_or_ge (q - es.length) 1 with h3 | h3
        · omega
        · rw [List.getElem?_eq_none (by simpa using h3)] at hx; cases hx
      rw [this] at hx hf
      simp at hx hf
      subst hx; subst hf
      exact ⟨rfl, hks, hv⟩
  · rw [List.map_append, List.pairwise_append]
    refine ⟨h.keys, by simp, fun a ha b hb => ?_⟩
    simp at hb; subst hb
    obtain ⟨p, hp1, rfl⟩ := List.mem_map.1 ha
    intro e
    have := hno p hp1
    rw [hkk _ e] at this; cases this
  · rw [Array.toList_push, List.map_append, List.pairwise_append]
    refine ⟨h.born, by simp, fun a ha b hb => ?_⟩
    simp at hb; subst hb
    obtain ⟨p, hp1, rfl⟩ := List.mem_map.1 ha
    have := h.lt p hp1
    omega
  · intro e he
    rw [Array.toList_push] at he
    rcases List.mem_append.1 he with he | he
    · have := h.lt e he; omega
    · simp at he; subst he; simp

theorem MR.erase_ {es : List (Value × Value)} {A : Array MapEntry} {c : Nat} (h : MR μ es A c) {k : Value} {j i : Nat} {p : Value × Value} {e : MapEntry} (hj : es[j]? = some p) (hpk : isKey k p.1 = true) (hi : A.toList[i]? = some e) (hek : isKey k e.key = true) :
    MR μ (es.eraseIdx j) (A.eraseIdxIfInBounds i) c := by
  obtain ⟨l, hp, hl, hr⟩ := h.perm
  have hjl := (List.getElem?_eq_some_iff.1 hj).1
  have hjl2 : j < l.length := by omega
  have hlj := List.getElem?_eq_getElem hjl2
  have h1 := hr j p _ hj hlj
  have hee : l[j] = e := h.unique (hp.subset (List.getElem_mem hjl2)) (List.mem_of_getElem? hi) (by rw [h1.1]; exact hpk) hek
  have hil := (List.getElem?_eq_some_iff.1 hi).1
  have hAt : (A.eraseIdxIfInBounds i).toList = A.toList.eraseIdx i := by
    have h3 : i < A.size := by simpa using hil
    rw [Array.eraseIdxIfInBounds, dif_pos h3, Array.toList_eraseIdx]
  refine ⟨⟨l.eraseIdx j, ?_, by simp [List.length_eraseIdx, hl], fun q x f hx hf => ?_⟩, ?_, ?_, ?_⟩
  · rw [hAt]; exact perm_erase hp (by rw [hlj, hee]) hi
  · rw [List.getElem?_eraseIdx] at hx hf
    split at hx
    · rename_i h3; rw [if_pos h3] at hf; exact hr q x f hx hf
    · rename_i h3; rw [if_neg h3] at hf; exact hr _ x f hx hf
  · have := h.keys
    exact this.sublist ((List.eraseIdx_sublist es j).map _)
  · rw [hAt]; exact h.born.sublist ((List.eraseIdx_sublist _ i).map _)
  · intro f hf
    rw [hAt] at hf
    exact h.lt f ((List.eraseIdx_sublist _ i).subset hf)

theorem keyOk_scal {key : TypeId} {k : Value} (hk : keyOk P key k = true) : scal k = true ∧ (∀ a, a = k → isKey k a = true) ∧ Instr.sameBits 10000 k k = true := by
  unfold keyOk at hk
  split at hk <;> first | cases hk | skip
  · exact ⟨rfl, (fun a e => by subst e; simp [isKey, sameKey]), by simp [Instr.sameBits, ba_beq]⟩
  · exact ⟨rfl, (fun a e => by subst e; simp [isKey, sameKey]), by simp [Instr.sameBits]⟩

theorem lmapUpdate_sound {t : TypeId} {x k v x' k' v' u : Value} {H' : Hp} (h : lmapUpdate P t x k v H = some (.val u H')) (hx : VR μ x x') (hk : VR μ k k') (hv : VR μ v v') (hR : Rel P E μ H w) :
    u = undef ∧ ∃ w', (Instr.mapUpdate t x' k' v').run P w = .ok () w' ∧ Rel P E μ H' w' := by
  unfold lmapUpdate at h
  split at h
  · rename_i key e0 b hu
    split at h
    · rename_i hko
      obtain ⟨hks, hkk, hbits⟩ := keyOk_scal hko
      have := (hk.scal_eq hks).symm
      subst this
      obtain ⟨d, hud⟩ := keyOk_und hko
      simp only [Option.bind_eq_some_iff] at h
      obtain ⟨es, h1, h⟩ := h
      split at h
      · rename_i hok
        simp at h
        obtain ⟨rfl, rfl⟩ := h
        cases hx with
        | map hi =>
          rename_i ii
          obtain ⟨A, c, h2, h3, h4⟩ := hR.map h1 hi
          refine ⟨rfl, ?_⟩
          have hturn : ∀ A' c', MR μ (lput k v es) A' c' → Rel P E μ (H.set b (.map (lput k v es))) { w with heap := w.heap.setIfInBounds ii.blk (.map A' c') } := fun A' c' hm =>
            hR.turn (mapAt_some h1) rfl hi rfl rfl rfl rfl (by simp) (fun c hc => heap_set_far hc) ⟨A', c', heap_set_self h3, hm⟩
          have hset : ∀ A' c', (setObj ii.blk (.map A' c')).run P w = .ok () { w with heap := w.heap.setIfInBounds ii.blk (.map A' c') } := fun A' c' => run_setObj h3 (fun _ _ _ => by simp)
          rcases findNow_spec A.toList 0 (h4.keysNow hud hko hok) with ⟨g1, g2⟩ | ⟨i, e, g1, g2, g3⟩
          · rcases lput_spec k v es with ⟨q1, q2⟩ | ⟨j, p, q1, q2, q3⟩
            · refine ⟨_, ?_, hturn (A.push { key := k, val := v', born := c }) (c + 1) (by rw [q2]; exact h4.push_ hks hkk hv q1)⟩
              unfold Instr.mapUpdate
              simp only [Sem.run_bind, run_underlying hu, Result.andThen_ok, h2, run_checkKey hko, Instr.findKey, run_underlying hud, g1, Sem.run_pure, hset]
            · exfalso
              obtain ⟨l, hp, hl, hr⟩ := h4.perm
              have hjl := (List.getElem?_eq_some_iff.1 q1).1
              have h5 := hr j p _ q1 (List.getElem?_eq_getElem (by omega))
              have h6 := g2 _ (hp.subset (List.getElem_mem (by omega : j < l.length)))
              rw [h5.1, q2] at h6; cases h6
          · rcases lput_spec k v es with ⟨q1, q2⟩ | ⟨j, p, q1, q2, q3⟩
            · exfalso
              obtain ⟨l, hp, hl, hr⟩ := h4.perm
              have hm : e ∈ l := hp.symm.subset (List.mem_of_getElem? g1)
              obtain ⟨j, hj⟩ := List.getElem?_of_mem hm
              have hjl : j < es.length := by rw [hl]; exact (List.getElem?_eq_some_iff.1 hj).1
              have h5 := hr j _ e (List.getElem?_eq_getElem hjl) hj
              have h6 := q1 _ (List.getElem_mem hjl)
              rw [← h5.1, g2] at h6; cases h6
            · refine ⟨_, ?_, hturn (A.modify i fun e => { e with key := k, val := v' }) c (by rw [q3]; exact h4.set_ hks hv q1 q2 g1 g2)⟩
              have hAi : A[i]? = some e := by simpa using g1
              have hst : (Instr.keyThatStays (((A[i]?).map (·.key)).getD k) k).run P w = .ok k w := by
                rw [hAi]
                simp only [Option.map_some, Option.getD_some, ← isKey_eq g2, Instr.keyThatStays, hbits, if_true, Sem.run_pure]
              unfold Instr.mapUpdate
              simp only [Sem.run_bind, run_underlying hu, Result.andThen_ok, h2, run_checkKey hko, Instr.findKey, run_underlying hud, g3, Sem.run_pure, Nat.zero_add, hst, hset]
      · cases h
    · cases h
  · cases h

theorem ldelete_sound {ts : List TypeId} {ty : TypeId} {x k x' k' u : Value} {H' : Hp} (h : ldelete P ts [x, k] H = some (.val u H')) (hx : VR μ x x') (hk : VR μ k k') (hR : Rel P E μ H w) :
    DidV P E μ (Builtin.delete_ ts.toArray ty #[x', k']) w u H' := by
  unfold ldelete at h
  split at h
  · rename_i t r r0 k0 e
    cases e
    split at h
    · rename_i key e0 hu
      split at h
      · rename_i hko
        obtain ⟨hks, hkk, hbits⟩ := keyOk_scal hko
        have := (hk.scal_eq hks).symm
        subst this
        obtain ⟨d, hud⟩ := keyOk_und hko
        split at h
        · cases hx
          simp at h
          obtain ⟨rfl, rfl⟩ := h
          refine DidV.same (v' := .tuple #[]) ?_ (VR.mk_tuple (LR.nil μ)) hR
          unfold Builtin.delete_
          simp [run_underlying hu, run_checkKey hko]
        · rename_i b
          simp only [Option.bind_eq_some_iff] at h
          obtain ⟨es, h1, h⟩ := h
          split at h
          · rename_i hok
            simp at h
            obtain ⟨rfl, rfl⟩ := h
            cases hx with
            | map hi =>
              rename_i ii
              obtain ⟨A, c, h2, h3, h4⟩ := hR.map h1 hi
              have hturn : ∀ A' c', MR μ (ldel k es) A' c' → Rel P E μ (H.set b (.map (ldel k es))) { w with heap := w.heap.setIfInBounds ii.blk (.map A' c') } := fun A' c' hm =>
                hR.turn (mapAt_some h1) rfl hi rfl rfl rfl rfl (by simp) (fun c hc => heap_set_far hc) ⟨A', c', heap_set_self h3, hm⟩
              have hset : ∀ A' c', (setObj ii.blk (.map A' c')).run P w = .ok () { w with heap := w.heap.setIfInBounds ii.blk (.map A' c') } := fun A' c' => run_setObj h3 (fun _ _ _ => by simp)
              rcases findNow_spec A.toList 0 (h4.keysNow hud hko hok) with ⟨g1, g2⟩ | ⟨i, e, g1, g2, g3⟩
              · rcases ldel_spec k es with ⟨q1, q2⟩ | ⟨j, p, q1, q2, q3⟩
                · refine ⟨.tuple #[], _, μ, ?_, Ext.refl μ, VR.mk_tuple (LR.nil μ), hturn A c (by rw [q2]; exact h4)⟩
                  unfold Builtin.delete_
                  simp [run_underlying hu, h2, run_checkKey hko, Instr.findKey, run_underlying hud, g1, hset]
                · exfalso
                  obtain ⟨l, hp, hl, hr⟩ := h4.perm
                  have hjl := (List.getElem?_eq_some_iff.1 q1).1
                  have h5 := hr j p _ q1 (List.getElem?_eq_getElem (by omega))
                  have h6 := g2 _ (hp.subset (List.getElem_mem (by omega : j < l.length)))
                  rw [h5.1, q2] at h6; cases h6
              · rcases ldel_spec k es with ⟨q1, q2⟩ | ⟨j, p, q1, q2, q3⟩
                · exfalso
                  obtain ⟨l, hp, hl, hr⟩ := h4.perm
                  have hm : e ∈ l := hp.symm.subset (List.mem_of_getElem? g1)
                  obtain ⟨j, hj⟩ := List.getElem?_of_mem hm
                  have hjl : j < es.length := by rw [hl]; exact (List.getElem?_eq_some_iff.1 hj).1
                  have h5 := hr j _ e (List.getElem?_eq_getElem hjl) hj
                  have h6 := q1 _ (List.getElem_mem hjl)
                  rw [← h5.1, g2] at h6; cases h6
                · refine ⟨.tuple #[], _, μ, ?_, Ext.refl μ, VR.mk_tuple (LR.nil μ), hturn (A.eraseIdxIfInBounds i) c (by rw [q3]; exact h4.erase_ q1 q2 g1 g2)⟩
                  unfold Builtin.delete_
                  simp [run_underlying hu, h2, run_checkKey hko, Instr.findKey, run_underlying hud, g3, hset]
          · cases h
      · cases h
    · cases h
  · cases h
end
end Go.Lite
