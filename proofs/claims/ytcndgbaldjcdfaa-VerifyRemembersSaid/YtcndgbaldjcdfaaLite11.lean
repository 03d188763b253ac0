/- Lite, part 11: the model does what the abstract operation says: maps. -/
import Derived.Test.YtcndgbaldjcdfaaLite10
namespace Go.Lite
open Go
set_option linter.unusedSimpArgs false
set_option linter.unusedVariables false

section
variable {P : Program} {E : Env} {μ : List Info} {H : Hp} {w : World}

theorem ba_beq (s b : ByteArray) : (s == b) = (s.data.toList == b.data.toList) := by
  show (s.data == b.data) = _
  rw [Bool.eq_iff_iff]
  simp
theorem isKey_eq {k a : Value} (h : isKey k a = true) : k = a := by
  unfold isKey sameKey at h
  split at h
  · rename_i a b
    have h1 : a.data.toList = b.data.toList := by simpa using h
    have : a = b := by apply ByteArray.ext; exact Array.ext' h1
    rw [this]
  · rename_i k1 a1 k2 b1
    split at h
    · rename_i e; subst e
      have hh : a1 = b1 := by simpa using h
      rw [hh]
    · simp at h
  · simp at h
theorem sameNow_key {key : TypeId} {k a : Value} {d : TypeDesc} (hu : P.underlying key = some d) (hk : keyOk P key k = true) (hs : (sameKey k a).isSome = true) : Instr.sameNow d k a = some (isKey k a) := by
  unfold keyOk at hk
  rw [hu] at hk
  split at hk
  · rename_i s e
    cases e
    cases a <;> simp [sameKey] at hs
    rename_i b
    simp only [Instr.sameNow, isKey, sameKey, ba_beq]
    cases (s.data.toList == b.data.toList) <;> rfl
  · rename_i k' k'' n e
    cases e
    cases a <;> simp [sameKey] at hs
    rename_i k3 m
    subst hs
    simp [Instr.sameNow, isKey, sameKey]
  · cases hk

/-- The entry of a key among the model's. -/
theorem findNow_spec {d : TypeDesc} {k : Value} : ∀ (l : List MapEntry) (i0 : Nat), (∀ e ∈ l, Instr.sameNow d k e.key = some (isKey k e.key)) →
    (Instr.findNow d k l i0 = some none ∧ ∀ e ∈ l, isKey k e.key = false) ∨ ∃ i e, l[i]? = some e ∧ isKey k e.key = true ∧ Instr.findNow d k l i0 = some (some (i0 + i, e.val))
  | [], i0, _ => .inl ⟨rfl, fun e he => by cases he⟩
  | e :: r, i0, h => by
    have h0 := h e (by simp)
    cases hk : isKey k e.key with
    | true => right; exact ⟨0, e, rfl, hk, by simp [Instr.findNow, h0, hk]⟩
    | false =>
      rcases findNow_spec r (i0 + 1) (fun x hx => h x (by simp [hx])) with ⟨h1, h2⟩ | ⟨i, x, h1, h2, h3⟩
      · left; exact ⟨by simp [Instr.findNow, h0, hk, h1], fun x hx => by
          rcases List.mem_cons.1 hx with rfl | hx
          · exact hk
          · exact h2 x hx⟩
      · right; exact ⟨i + 1, x, by simpa using h1, h2, by simp [Instr.findNow, h0, hk, h3]; omega⟩

theorem run_checkKey {empty : Bool} {key : TypeId} {k : Value} (hk : keyOk P key k = true) : (Instr.checkKey empty 10000 key k).run P w = .ok () w := by
  have : ∀ n : Nat, (Instr.checkKey empty (n + 1) key k).run P w = .ok () w := fun n => by
    unfold keyOk at hk
    cases hu : P.underlying key with
    | none => simp [hu] at hk
    | some d =>
      rw [hu] at hk
      split at hk
      · rename_i e; cases e; simp [Instr.checkKey, run_underlying hu]
      · rename_i e; cases e; simp [Instr.checkKey, run_underlying hu]
      · cases hk
  exact this 9999

theorem keyOk_und {key : TypeId} {k : Value} (hk : keyOk P key k = true) : ∃ d, P.underlying key = some d := by
  unfold keyOk at hk
  cases hu : P.underlying key with
  | none => simp [hu] at hk
  | some d => exact ⟨d, rfl⟩

/-- The model's entries and the abstract ones. -/
theorem MR.find {es : List (Value × Value)} {A : Array MapEntry} {c : Nat} (h : MR μ es A c) {k : Value} : 
    (lfind k es = none → ∀ e ∈ A.toList, isKey k e.key = false) ∧ (∀ v, lfind k es = some v → ∃ e ∈ A.toList, isKey k e.key = true ∧ VR μ v e.val) ∧ (A.toList.map (·.key)).Pairwise (fun a b => a ≠ b) := by
  obtain ⟨l, hp, hl, hr⟩ := h.perm
  have hkeys : l.map (·.key) = es.map (·.1) := by
    apply List.ext_getElem?
    intro j
    rw [List.getElem?_map, List.getElem?_map]
    rcases Nat.lt_or_ge j es.length with hj | hj
    · have hj2 : j < l.length := by omega
      rw [List.getElem?_eq_getElem hj, List.getElem?_eq_getElem hj2]
      simp [(hr j _ _ (List.getElem?_eq_getElem hj) (List.getElem?_eq_getElem hj2)).1]
    · rw [List.getElem?_eq_none hj, List.getElem?_eq_none (by omega)]; rfl
  have hspec : ∀ (es : List (Value × Value)), (lfind k es = none → ∀ p : Value × Value, p ∈ es → isKey k p.1 = false) ∧ (∀ v, lfind k es = some v → ∃ (j : Nat) (p : Value × Value), es[j]? = some p ∧ isKey k p.1 = true ∧ p.2 = v) := by
    intro es
    induction es with
    | nil => exact ⟨(fun _ p hp => by cases hp), (fun v hv => by simp [lfind] at hv)⟩
    | cons p r ih =>
      obtain ⟨a, u⟩ := p
      refine ⟨fun h q hq => ?_, fun v hv => ?_⟩
      · simp only [lfind] at h
        split at h
        · cases h
        · rename_i hne
          rcases List.mem_cons.1 hq with rfl | hq
          · simpa using hne
          · exact ih.1 h q hq
      · simp only [lfind] at hv
        split at hv
        · rename_i he; cases hv; exact ⟨0, (a, u), rfl, he, rfl⟩
        · obtain ⟨j, q, h1, h2, h3⟩ := ih.2 v hv
          exact ⟨j + 1, q, by simpa using h1, h2, h3⟩
  refine ⟨fun hn e he => ?_, fun v hv => ?_, ?_⟩
  · have he2 : e ∈ l := hp.symm.subset he
    obtain ⟨j, hj⟩ := List.getElem?_of_mem he2
    have hj2 : j < es.length := by rw [hl]; exact (List.getElem?_eq_some_iff.1 hj).1
    have h1 := hr j es[j] e (List.getElem?_eq_getElem hj2) hj
    rw [h1.1]
    exact (hspec es).1 hn _ (List.getElem_mem hj2)
  · obtain ⟨j, p, h1, h2, h3⟩ := (hspec es).2 v hv
    have hj2 : j < l.length := by rw [← hl]; exact (List.getElem?_eq_some_iff.1 h1).1
    have h4 := hr j p l[j] h1 (List.getElem?_eq_getElem hj2)
    refine ⟨l[j], hp.subset (List.getElem_mem hj2), by rw [h4.1]; exact h2, by rw [← h3]; exact h4.2.2⟩
  · have := h.keys
    rw [← hkeys] at this
    exact (hp.map (·.key)).pairwise_iff (fun h => Ne.symm h) |>.1 this

theorem MR.unique {es : List (Value × Value)} {A : Array MapEntry} {c : Nat} (h : MR μ es A c) {k : Value} {e e' : MapEntry} (he : e ∈ A.toList) (he' : e' ∈ A.toList) (hk : isKey k e.key = true) (hk' : isKey k e'.key = true) : e = e' := by
  have hpw := (h.find (k := k)).2.2
  have h1 := isKey_eq hk
  have h2 := isKey_eq hk'
  obtain ⟨i, hi⟩ := List.getElem?_of_mem he
  obtain ⟨j, hj⟩ := List.getElem?_of_mem he'
  have hil := (List.getElem?_eq_some_iff.1 hi).1
  have hjl := (List.getElem?_eq_some_iff.1 hj).1
  rcases Nat.lt_trichotomy i j with hij | hij | hij
  · have := List.pairwise_iff_getElem.1 hpw i j (by simpa using hil) (by simpa using hjl) hij
    simp [(List.getElem?_eq_some_iff.1 hi).2, (List.getElem?_eq_some_iff.1 hj).2] at this
    exact absurd (h1.symm.trans h2) this
  · subst hij; rw [hi] at hj; cases hj; rfl
  · have := List.pairwise_iff_getElem.1 hpw j i (by simpa using hjl) (by simpa using hil) hij
    simp [(List.getElem?_eq_some_iff.1 hi).2, (List.getElem?_eq_some_iff.1 hj).2] at this
    exact absurd (h2.symm.trans h1) this

theorem MR.keysNow {es : List (Value × Value)} {A : Array MapEntry} {c : Nat} (h : MR μ es A c) {key : TypeId} {k : Value} {d : TypeDesc} (hu : P.underlying key = some d) (hk : keyOk P key k = true) (ho : keysOk k es = true) :
    ∀ e ∈ A.toList, Instr.sameNow d k e.key = some (isKey k e.key) := by
  intro e he
  obtain ⟨l, hp, hl, hr⟩ := h.perm
  have he2 : e ∈ l := hp.symm.subset he
  obtain ⟨j, hj⟩ := List.getElem?_of_mem he2
  have hj2 : j < es.length := by rw [hl]; exact (List.getElem?_eq_some_iff.1 hj).1
  have h1 := hr j es[j] e (List.getElem?_eq_getElem hj2) hj
  have h2 := List.all_eq_true.1 ho es[j] (List.getElem_mem hj2)
  exact sameNow_key hu hk (by rw [h1.1]; exact h2)

theorem llookup_sound {t : TypeId} {x k x' k' u : Value} {ok : Bool} {H' : Hp} (h : llookup P t x k ok H = some (.val u H')) (hx : VR μ x x') (hk : VR μ k k') (hR : Rel P E μ H w) :
    H' = H ∧ ∃ u', (Instr.lookup t x' k' ok).run P w = .ok u' w ∧ VR μ u u' := by
  unfold llookup at h
  split at h
  · rename_i key elem r hu
    split at h
    · rename_i hko
      have hks : scal k = true := by unfold keyOk at hko; split at hko <;> first | rfl | cases hko
      have := (hk.scal_eq hks).symm
      subst this
      obtain ⟨d, hud⟩ := keyOk_und hko
      simp only [Option.bind_eq_some_iff] at h
      obtain ⟨es, h1, h⟩ := h
      split at h
      · cases h
      · rename_i hok
        have hok : keysOk k es = true := by simpa using hok
        have hfin : ∀ (A : Array MapEntry) , (∀ r : Option (Nat × Value), Instr.findNow d k A.toList 0 = some r → (Instr.lookup t x' k ok).run P w = ((match r with | some (_, v) => (pure (v, true) : Sem (Value × Bool)) | none => do pure (← zeroValue elem, false)).run P w).andThen fun p w => .ok (if ok then .tuple #[p.1, .bool p.2] else p.1) w) →
            (Instr.findNow d k A.toList 0 = some none ∧ lfind k es = none ∨ ∃ i v v', Instr.findNow d k A.toList 0 = some (some (i, v')) ∧ lfind k es = some v ∧ VR μ v v') → H' = H ∧ ∃ u', (Instr.lookup t x' k ok).run P w = .ok u' w ∧ VR μ u u' := by
          intro A hpre hf
          rcases hf with ⟨g1, g2⟩ | ⟨i, v, v', g1, g2, g3⟩
          · rw [g2] at h
            simp only [Option.bind_eq_some_iff] at h
            obtain ⟨z, hz, h⟩ := h
            simp at h
            obtain ⟨rfl, rfl⟩ := h
            obtain ⟨z1, z2⟩ := run_zeroT (w := w) hz
            refine ⟨rfl, if ok then .tuple #[z, .bool false] else z, by rw [hpre none g1]; simp [z1], ?_⟩
            cases ok
            · simpa using closed_VR z2
            · simpa using VR.mk_tuple (LR.cons (closed_VR z2) (LR.cons (.bool false) (LR.nil μ)))
          · rw [g2] at h
            simp at h
            obtain ⟨rfl, rfl⟩ := h
            refine ⟨rfl, if ok then .tuple #[v', .bool true] else v', by rw [hpre _ g1]; simp, ?_⟩
            cases ok
            · simpa using g3
            · simpa using VR.mk_tuple (LR.cons g3 (LR.cons (.bool true) (LR.nil μ)))
        cases hx with
        | map0 =>
          simp at h1; subst h1
          refine hfin #[] (fun r hr => ?_) (.inl ⟨rfl, rfl⟩)
          unfold Instr.lookup
          simp only [Sem.run_bind, run_underlying hu, Result.andThen_ok, run_checkKey hko, Instr.findKey, run_underlying hud, hr, Sem.run_pure]
          cases r with
          | none => cases hq : (zeroValue elem).run P w <;> simp [hq, Result.andThen]
          | some v => simp
        | map hi =>
          obtain ⟨A, c, h2, h3, h4⟩ := hR.map h1 hi
          refine hfin A (fun r hr => ?_) ?_
          · unfold Instr.lookup
            simp only [Sem.run_bind, run_underlying hu, Result.andThen_ok, h2, run_checkKey hko, Instr.findKey, run_underlying hud, hr, Sem.run_pure]
            cases r with
          | none => cases hq : (zeroValue elem).run P w <;> simp [hq, Result.andThen]
          | some v => simp
          · obtain ⟨f1, f2, f3⟩ := h4.find (k := k)
            rcases findNow_spec A.toList 0 (h4.keysNow hud hko hok) with ⟨g1, g2⟩ | ⟨i, e, g1, g2, g3⟩
            · left
              refine ⟨g1, ?_⟩
              cases hf : lfind k es with
              | none => rfl
              | some v =>
                obtain ⟨e, he, hke, _⟩ := f2 v hf
                rw [g2 e he] at hke; cases hke
            · right
              cases hf : lfind k es with
              | none =>
                have := f1 hf e (List.mem_of_getElem? g1)
                rw [this] at g2; cases g2
              | some v =>
                obtain ⟨e', he', hke', hv⟩ := f2 v hf
                have := h4.unique he' (List.mem_of_getElem? g1) hke' g2
                subst this
                exact ⟨0 + i, v, _, g3, rfl, hv⟩
    · cases h
  · cases h
end
end Go.Lite
