/- Lite, part 8: the model does what the abstract operation says: make, slices, fields, elements, assertions. -/
import Derived.Test.YtcndgbaldjcdfaaLite7
namespace Go.Lite
open Go
set_option linter.unusedSimpArgs false
set_option linter.unusedVariables false

section
variable {P : Program} {E : Env} {μ : List Info} {H : Hp} {w : World}

theorem szT_info {t : TypeId} {i : TypeInfo} (h : P.info? t = some i) : szT P t = some i.size := by simp [szT, h]
theorem lzero_info {t : TypeId} {z : Value} {i : TypeInfo} (h : lzero P t = some z) (hi : P.info? t = some i) : i.zero = some z := by
  unfold lzero at h
  cases hz : i.zero with
  | none => simp [hi, hz] at h
  | some y =>
    simp [hi, hz] at h
    rw [h.2]

theorem lzeros_len (z : List Value) (m : Nat) (hz : z.length = m) : ∀ q, (lzeros z q).length = q * m
  | 0 => by simp [lzeros]
  | q + 1 => by simp [lzeros, lzeros_len z m hz q, hz, Nat.add_mul]; omega

theorem lzeros_take (z : List Value) : ∀ (a b : Nat) (k : Nat) (v : Value), a ≤ b → (lzeros z a)[k]? = some v → (lzeros z b)[k]? = some v
  | 0, b, k, v, _, h => by simp [lzeros] at h
  | a + 1, 0, k, v, hab, h => by omega
  | a + 1, b + 1, k, v, hab, h => by
    simp only [lzeros] at h ⊢
    rcases Nat.lt_or_ge k z.length with hk | hk
    · rw [List.getElem?_append_left hk] at h ⊢; exact h
    · rw [List.getElem?_append_right hk] at h ⊢
      exact lzeros_take z a b _ v (by omega) h

theorem madeCells_eq {z : Value} {m n : Nat} (hz : (cellsOf z).length = m) : (madeCells z.cells (n * m)).toList = lzeros (cellsOf z) n := by
  rcases Nat.eq_zero_or_pos m with h0 | h0
  · subst h0
    have : lzeros (cellsOf z) n = [] := List.eq_nil_of_length_eq_zero (by rw [lzeros_len _ 0 hz]; simp)
    rw [this]
    simp [madeCells]
  · have := zeros_get (cellsOf z) n (by omega)
    rw [hz] at this
    have hzc : z.cells = (cellsOf z).toArray := by rw [← cellsOf_eq]
    rw [← this, madeCells, hzc]

theorem replicate_lzeros (v : Value) : ∀ n, lzeros [v] n = List.replicate n v
  | 0 => rfl
  | n + 1 => by simp [lzeros, replicate_lzeros v n, List.replicate_succ]

theorem lmakeSlice_sound {t : TypeId} {a b a' b' u : Value} {H' : Hp} (h : lmakeSlice P t a b H = some (.val u H')) (ha : VR μ a a') (hb : VR μ b b') (hR : Rel P E μ H w) : DidV P E μ (Instr.makeSlice t a' b') w u H' := by
  unfold lmakeSlice at h
  split at h
  case h_1 elem k n k' m hu =>
    cases ha; cases hb
    simp only [Option.bind_eq_some_iff] at h
    obtain ⟨i, hi, z, hz, h⟩ := h
    split at h
    · rename_i hc
      obtain ⟨hn0, hnm, hm63, hby, hzl⟩ := hc
      have hcl := (run_zeroT (w := w) hz).2
      have hrun := run_make (P := P) w t elem i z hu hi (lzero_info hz hi) k k' n m hn0 hnm hby hm63
      have hzz := closed_VR (μ := μ) hcl
      have hkey : ∀ x : Blk, x.isRow = true → x.row = lzeros (cellsOf z) n.toNat → x.esz = i.size → u = .slice (some ⟨H.n, 0, none⟩) n.toNat n.toNat → H' = H.new x → DidV P E μ (Instr.makeSlice t (.int k n) (.int k' m)) w u H' := by
        intro x hx hrow hes hu' hH
        subst hu'; subst hH
        have hmc : (madeCells z.cells (m.toNat * i.size)).toList = lzeros (cellsOf z) m.toNat := madeCells_eq hzl
        have hms : (madeCells z.cells (m.toNat * i.size)).size = m.toNat * i.size := size_madeCells _ _
        have hnew := hR.newRow (x := x) (C := madeCells z.cells (m.toNat * i.size)) elem (fz := (0, 0)) hx
          (by rw [hrow, lzeros_len _ _ hzl, hms]; exact Nat.mul_le_mul_right _ (by omega))
          (fun j v hv => by
            rw [hrow] at hv
            have h1 := lzeros_take _ n.toNat m.toNat j v (by omega) hv
            have h2 := (lzeros_VR (cellsOf z) m.toNat hzz.cells).at_ h1
            obtain ⟨v', h3, h4⟩ := h2
            exact ⟨v', by rw [← hmc] at h3; simpa using h3, h4⟩) (fun j _ h => by simp at h)
        refine ⟨_, _, _, hrun, Ext.snoc μ _, ?_, hnew⟩
        exact VR.sl (last_info hR _) (by omega) (.inr ⟨by simp, by simp [hes, hms]⟩)
      split at h
      · rename_i _ k2 k3 v hk2
        split at h
        · rename_i hkk; subst hkk
          simp [lnew] at h
          refine hkey (.ints true k2 (List.replicate n.toNat v)) rfl ?_ ?_ h.1.symm h.2.symm
          · simp only [Blk.row, cellsOf, replicate_lzeros, List.map_replicate]
          · have h1 := (intT_some hk2).2
            rw [szT_info hi] at h1
            simp at h1
            simp [Blk.esz, h1]
        · cases h
      · simp [lnew] at h
        exact hkey (.cells true i.size (lzeros (cellsOf _) n.toNat)) rfl rfl rfl h.1.symm h.2.symm
    · cases h
  · cases h

/-- A bound of a slice. -/
theorem bound_some {n m : Nat} {v v' : Value} {r d : Nat} {c : BoundsCode} (h : lbound n (some v) d = some r) (hv : VR μ v v') (hnm : n ≤ m) : (Instr.sliceBound v' m c).run P w = .ok r w ∧ r ≤ n := by
  unfold lbound at h
  split at h
  · cases ‹some v = none›
  · rename_i k i e
    cases e
    cases hv
    split at h
    · rename_i hi; cases h
      exact ⟨by simp [Instr.sliceBound, asIntOf, hi.1]; omega, by omega⟩
    · cases h
  · cases h

/-- Options of values, one by one. -/
def OR (μ : List Info) : Option Value → Option Value → Prop
  | none, none => True
  | some v, some v' => VR μ v v'
  | _, _ => False

theorem bounds_sound {isS : Bool} {n c' m h l : Nat} {lo hi mx lo' hi' mx' : Option Value} (hlo : OR μ lo lo') (hhi : OR μ hi hi') (hmx : OR μ mx mx') (hn : n ≤ c')
    (h1 : lbound n mx n = some m) (h2 : lbound (if mx.isSome then m else n) hi n = some h) (h3 : lbound h lo 0 = some l) (h4 : (mx.isSome && hi.isNone) = false) :
    ∃ m', (Instr.sliceBounds isS n c' lo' hi' mx').run P w = .ok (l, h, m') w ∧ l ≤ h ∧ h ≤ n ∧ h ≤ m' ∧ m' ≤ c' := by
  have hl : ∀ cd, (match lo' with | some v => Instr.sliceBound v h cd | none => (pure 0 : Sem Nat)).run P w = .ok l w ∧ l ≤ h := by
    intro cd
    cases lo with
    | none => cases lo' with
      | none => simp [lbound] at h3; subst h3; exact ⟨rfl, Nat.zero_le _⟩
      | some v => simp [OR] at hlo
    | some v => cases lo' with
      | none => simp [OR] at hlo
      | some v' => exact bound_some h3 hlo (Nat.le_refl _)
  cases mx with
  | none =>
    cases mx' with
    | some v => simp [OR] at hmx
    | none =>
      simp [lbound] at h1; subst h1
      simp only [Option.isSome_none, Bool.false_eq_true, if_false] at h2
      refine ⟨c', ?_, (hl .sliceB).2, ?_⟩
      · cases hi with
        | none => cases hi' with
          | some v => simp [OR] at hhi
          | none =>
            simp [lbound] at h2; subst h2
            have := (hl .sliceB).1
            cases lo' <;> simp only [Instr.sliceBounds, Sem.run_bind, Sem.run_pure, Result.andThen_ok, Option.isSome_none, Bool.false_eq_true, if_false] at this ⊢
            · injection this with e _; subst e; rfl
            · simp only [this, Result.andThen_ok]
        | some v => cases hi' with
          | none => simp [OR] at hhi
          | some v' =>
            obtain ⟨h5, h6⟩ := bound_some (P := P) (w := w) (c := if isS then .sliceAcap else .sliceAlen) h2 hhi hn
            have := (hl .sliceB).1
            cases lo' <;> simp only [Instr.sliceBounds, Sem.run_bind, Sem.run_pure, Result.andThen_ok, h5, Option.isSome_none, Bool.false_eq_true, if_false] at this ⊢
            · injection this with e _; subst e; rfl
            · simp only [this, Result.andThen_ok]
      · cases hi with
        | none => simp [lbound] at h2; subst h2; omega
        | some v => cases hi' with
          | none => simp [OR] at hhi
          | some v' =>
            obtain ⟨h5, h6⟩ := bound_some (P := P) (w := w) (c := .sliceAcap) h2 hhi hn
            omega
  | some mv =>
    cases mx' with
    | none => simp [OR] at hmx
    | some mv' =>
      obtain ⟨h5, h6⟩ := bound_some (P := P) (w := w) (c := if isS then .slice3Acap else .slice3Alen) h1 hmx hn
      cases hi with
      | none => simp at h4
      | some v => cases hi' with
        | none => simp [OR] at hhi
        | some v' =>
          simp only [Option.isSome_some, if_true] at h2
          obtain ⟨h7, h8⟩ := bound_some (P := P) (w := w) (c := .slice3B) h2 hhi (Nat.le_refl m)
          have := (hl .slice3C).1
          refine ⟨m, ?_, (hl .slice3C).2, by omega, by omega, by omega⟩
          cases lo' <;> simp only [Instr.sliceBounds, Sem.run_bind, Sem.run_pure, Result.andThen_ok, h5, h7, Option.isSome_some, if_true] at this ⊢
          · injection this with e _; subst e; rfl
          · simp only [this, Result.andThen_ok]

theorem lslice_sound {t : TypeId} {x x' u : Value} {lo hi mx lo' hi' mx' : Option Value} {H' : Hp} (h : lslice P t x lo hi mx H = some (.val u H')) (hx : VR μ x x') (hlo : OR μ lo lo') (hhi : OR μ hi hi') (hmx : OR μ mx mx') (hR : Rel P E μ H w) :
    H' = H ∧ ∃ u', (Instr.slice t x' lo' hi' mx').run P w = .ok u' w ∧ VR μ u u' := by
  unfold lslice at h
  split at h
  case h_1 s hu =>
    cases hx
    split at h
    · cases h
    · rename_i hm
      cases mx with
      | some v => simp at hm
      | none =>
        cases mx' with
        | some v => simp [OR] at hmx
        | none =>
          simp only [Option.bind_eq_some_iff] at h
          obtain ⟨hh, h1, l, h2, h3⟩ := h
          simp at h3
          obtain ⟨rfl, rfl⟩ := h3
          obtain ⟨m', h4, h5, h6, _⟩ := bounds_sound (P := P) (w := w) (isS := false) (n := s.size) (c' := s.size) (m := s.size) (mx := none) (mx' := none) hlo hhi trivial (Nat.le_refl _) (by simp [lbound]) (by simpa using h1) h2 rfl
          refine ⟨rfl, .string (s.extract l hh), ?_, ?_⟩
          · simp only [Instr.slice, Sem.run_bind, run_underlying hu, Result.andThen_ok, Option.isSome_none, Bool.false_eq_true, if_false, h4, Sem.run_pure]
          · rw [extract_eq]; exact .string _
  case h_2 elem a n c hu =>
    simp only [Option.bind_eq_some_iff] at h
    obtain ⟨m, h1, hh, h2, l, h3, h⟩ := h
    split at h
    · cases h
    · rename_i h4
      have h4 : (mx.isSome && hi.isNone) = false := by cases mx <;> cases hi <;> simp_all
      simp only [Option.bind_eq_some_iff] at h
      obtain ⟨sz, hs, h⟩ := h
      split at h
      · cases hx
        simp at h
        obtain ⟨rfl, rfl⟩ := h
        obtain ⟨m', h5, h6, h7, h8, h9⟩ := bounds_sound (P := P) (w := w) (isS := true) hlo hhi hmx (Nat.le_refl 0) h1 h2 h3 h4
        have hz : l = 0 ∧ hh = 0 ∧ m' = 0 := by omega
        obtain ⟨rfl, rfl, rfl⟩ := hz
        refine ⟨rfl, .slice none 0 0, ?_, .sl0⟩
        simp only [Instr.slice, Sem.run_bind, run_underlying hu, Result.andThen_ok, h5, run_sizeT hs, Sem.run_pure]
        simp
      · rename_i b o
        simp only [Option.bind_eq_some_iff] at h
        obtain ⟨y, h5, h⟩ := h
        split at h
        · rename_i hes
          simp at h
          obtain ⟨rfl, rfl⟩ := h
          cases hx with
          | sl hi2 hn2 hc2 =>
            rename_i c' a' i
            obtain ⟨m', h6, h7, h8, h9, h10⟩ := bounds_sound (P := P) (w := w) (isS := true) hlo hhi hmx hn2 h1 h2 h3 h4
            refine ⟨rfl, .slice (if m' = l then some a' else (some a').map (·.add (l * sz))) (hh - l) (m' - l), ?_, ?_⟩
            · simp only [Instr.slice, Sem.run_bind, run_underlying hu, Result.andThen_ok, h6, run_sizeT hs, Sem.run_pure]
            · split
              · rename_i e; subst e
                exact VR.sl hi2 (by omega) (.inl (by omega))
              · rename_i hne
                refine VR.sl hi2 (by omega) ?_
                rcases hc2 with hc2 | ⟨rfl, hc2⟩
                · left; omega
                · right
                  obtain ⟨j, hj, hbr⟩ := hR.blk b y h5
                  rw [hi2] at hj; cases hj
                  obtain ⟨C, e, fz, _, _, h11, _⟩ := hbr.row (.inr hes.2)
                  rw [hes.1] at h11
                  refine ⟨(add_mk _ _ _).trans (by rw [Nat.add_assoc]), ?_⟩
                  rw [← h11] at hc2 ⊢
                  have : l * sz + (m' - l) * sz = m' * sz := by rw [← Nat.add_mul]; congr 1; omega
                  have h12 : m' * sz ≤ c' * sz := Nat.mul_le_mul_right _ h10
                  omega
        · cases h
      · cases h
  · cases h

theorem lsliceAt_sound {t : TypeId} {x x' u : Value} {lo hi mx lo' hi' mx' : Option Value} {H' : Hp} (h : lsliceAt P t x lo hi mx H = some (.val u H')) (hx : VR μ x x') (hlo : OR μ lo lo') (hhi : OR μ hi hi') (hmx : OR μ mx mx') (hR : Rel P E μ H w) :
    H' = H ∧ ∃ u', (Instr.sliceAt t x' lo' hi' mx').run P w = .ok u' w ∧ VR μ u u' := by
  unfold lsliceAt at h
  split at h
  case h_1 n elem hu =>
    simp only [Option.bind_eq_some_iff] at h
    obtain ⟨⟨b, o⟩, h1, y, h2, sz, h3, m, h4, hh, h5, l, h6, h⟩ := h
    obtain ⟨i, hi2, rfl⟩ := addr_inv h1 hx
    simp only at h
    split at h
    · cases h
    · rename_i hc
      simp only [Bool.or_eq_true, Bool.and_eq_true, decide_eq_true_eq, Bool.not_eq_true', not_or, not_and, Bool.not_eq_true, ne_eq, Decidable.not_not, Nat.not_lt] at hc
      obtain ⟨⟨⟨c1, c2⟩, c3⟩, c4⟩ := hc
      simp at h
      obtain ⟨rfl, rfl⟩ := h
      have h4' : (mx.isSome && hi.isNone) = false := by cases mx <;> cases hi <;> simp_all
      have h5' : lbound (if mx.isSome then m else n) hi n = some hh := by
        cases mx with
        | none => simp [lbound] at h4; subst h4; simpa using h5
        | some v => simpa using h5
      obtain ⟨m', h7, h8, h9, h10, h11⟩ := bounds_sound (P := P) (w := w) (isS := false) hlo hhi hmx (Nat.le_refl n) h4 h5' h6 h4'
      refine ⟨rfl, .slice (some (if m' = l then ⟨i.blk, i.base + o, none⟩ else (⟨i.blk, i.base + o, none⟩ : Addr).add (l * sz))) (hh - l) (m' - l), ?_, ?_⟩
      · simp only [Instr.sliceAt, Sem.run_bind, run_underlying hu, Result.andThen_ok, Instr.sureAddr, h7, run_sizeT h3, Sem.run_pure]
      · obtain ⟨j, hj, hbr⟩ := hR.blk b y h2
        rw [hi2] at hj; cases hj
        have hrow : y.isRow = true := by cases hq : y.isRow <;> simp_all
        obtain ⟨C, e, fz, _, hcs, h12, h13, _⟩ := hbr.row (.inr hrow)
        rw [len_row] at c3
        split
        · rename_i e; subst e
          exact VR.sl hi2 (by omega) (.inl (by omega))
        · refine VR.sl hi2 (by omega) (.inr ⟨(add_mk _ _ _).trans (by rw [Nat.add_assoc]), ?_⟩)
          have hsz : sz = i.esz := by rw [← h12]; exact c2
          rw [← hsz]
          have : l * sz + (m' - l) * sz = m' * sz := by rw [← Nat.add_mul]; congr 1; omega
          have h14 : m' * sz ≤ n * sz := Nat.mul_le_mul_right _ h11
          omega
  case h_2 d hd hu =>
    obtain ⟨h1, u', h2, h3⟩ := lslice_sound h hx hlo hhi hmx hR
    refine ⟨h1, u', ?_, h3⟩
    rw [← h2]
    cases d <;> first | exact absurd rfl (hd _ _) | simp [Instr.sliceAt, run_underlying hu]
  case h_3 => cases h

theorem lfieldAddr_sound {s : TypeId} {x x' u : Value} {f : Nat} {H' : Hp} (h : lfieldAddr P s x f H = some (.val u H')) (hx : VR μ x x') : H' = H ∧ ∃ u', (Instr.fieldAt s x' f).run P w = .ok u' w ∧ VR μ u u' := by
  unfold lfieldAddr at h
  split at h
  · rename_i fields hu
    simp only [Option.bind_eq_some_iff] at h
    obtain ⟨⟨b, o⟩, h1, fl, h2, n, h3, h⟩ := h
    obtain ⟨i, hi, rfl⟩ := addr_inv h1 hx
    simp only at h
    split at h
    · cases h
    · rename_i hn
      simp at h
      obtain ⟨rfl, rfl⟩ := h
      refine ⟨rfl, .pointer (some ⟨i.blk, i.base + o + fl.offset, none⟩), ?_, by rw [Nat.add_assoc]; exact VR.ptr hi⟩
      simp only [Instr.fieldAt, Sem.run_bind, run_underlying hu, Result.andThen_ok, h2, Instr.sureAddr, Sem.run_pure, fieldPlace, run_sizeT h3, if_neg hn, add_mk]
  · cases h

theorem lpart_sound {t : TypeId} {cs cs' : List Value} {o : Nat} {v : Value} (h : lpart P t cs o = some v) (hc : LR μ cs cs') : ∃ v', (part t cs'.toArray o).run P w = .ok v' w ∧ VR μ v v' := by
  simp only [lpart, Option.bind_eq_some_iff] at h
  obtain ⟨g, h1, h2⟩ := h
  cases g with
  | true =>
    simp only [if_true, Option.bind_eq_some_iff] at h2
    obtain ⟨n, h3, h4⟩ := h2
    simp at h4; subst h4
    refine ⟨.agg ((cs'.drop o).take n).toArray, ?_, VR.mk_agg ((hc.drop o).take n)⟩
    simp only [part, Sem.run_bind, run_aggT h1, Result.andThen_ok, if_true, run_sizeT h3, Sem.run_pure]
    congr 3
    apply Array.ext'
    simp [List.extract_eq_take_drop]
  | false =>
    simp only [Bool.false_eq_true, if_false] at h2
    obtain ⟨v', h3, h4⟩ := hc.at_ h2
    refine ⟨v', ?_, h4⟩
    simp [part, run_aggT h1, h3]

theorem lfield_sound {t : TypeId} {x x' u : Value} {f : Nat} {H' : Hp} (h : lfield P t x f H = some (.val u H')) (hx : VR μ x x') : H' = H ∧ ∃ u', (Instr.field t x' f).run P w = .ok u' w ∧ VR μ u u' := by
  unfold lfield at h
  split at h
  · rename_i fields cs hu
    simp only [Option.bind_eq_some_iff] at h
    obtain ⟨fl, h1, v, h2, h3⟩ := h
    simp at h3
    obtain ⟨rfl, rfl⟩ := h3
    obtain ⟨cs', rfl, hl⟩ := hx.agg_inv
    obtain ⟨v', h4, h5⟩ := lpart_sound (w := w) h2 hl
    refine ⟨rfl, v', ?_, h5⟩
    have h4 : (part fl.type cs' fl.offset).run P w = .ok v' w := by simpa using h4
    simp only [Instr.field, Sem.run_bind, run_underlying hu, Result.andThen_ok, h1, asAgg, Sem.run_pure, h4]
  · cases h

theorem lindexAddr_sound {t : TypeId} {x ix x' ix' u : Value} {H' : Hp} (h : lindexAddr P t x ix H = some (.val u H')) (hx : VR μ x x') (hix : VR μ ix ix') (hR : Rel P E μ H w) : H' = H ∧ ∃ u', (Instr.indexAt t x' ix').run P w = .ok u' w ∧ VR μ u u' := by
  unfold lindexAddr at h
  split at h
  case h_1 n elem k j hu =>
    cases hix
    simp only [Option.bind_eq_some_iff] at h
    obtain ⟨⟨b, o⟩, h1, sz, h2, h⟩ := h
    obtain ⟨i, hi, rfl⟩ := addr_inv h1 hx
    simp only at h
    split at h
    · rename_i hc
      simp at h
      obtain ⟨rfl, rfl⟩ := h
      refine ⟨rfl, .pointer (some ⟨i.blk, i.base + o + j.toNat * sz, none⟩), ?_, by rw [Nat.add_assoc]; exact VR.ptr hi⟩
      simp only [Instr.indexAt, asIntOf, Sem.run_bind, Sem.run_pure, Result.andThen_ok, run_underlying hu, Instr.sureAddr, if_pos hc, run_sizeT h2, add_mk]
    · cases h
  case h_2 elem b o n c k j hu =>
    cases hix
    cases hx with
    | sl hi hn hc =>
      rename_i c' a' i
      simp only [Option.bind_eq_some_iff] at h
      obtain ⟨sz, h2, h⟩ := h
      split at h
      · rename_i hj
        simp at h
        obtain ⟨rfl, rfl⟩ := h
        rcases hc with hc | ⟨rfl, hc⟩
        · omega
        · refine ⟨rfl, .pointer (some ⟨i.blk, i.base + o + j.toNat * sz, none⟩), ?_, by rw [Nat.add_assoc]; exact VR.ptr hi⟩
          simp only [Instr.indexAt, asIntOf, Sem.run_bind, Sem.run_pure, Result.andThen_ok, run_underlying hu, if_pos hj, run_sizeT h2, add_mk]
      · cases h
  case h_3 => cases h

theorem lindex_sound {t : TypeId} {x ix x' ix' u : Value} {H' : Hp} (h : lindex P t x ix H = some (.val u H')) (hx : VR μ x x') (hix : VR μ ix ix') : H' = H ∧ ∃ u', (Instr.index t x' ix').run P w = .ok u' w ∧ VR μ u u' := by
  unfold lindex at h
  split at h
  case h_1 n elem cs k j hu =>
    cases hix
    obtain ⟨cs', rfl, hl⟩ := hx.agg_inv
    simp only [Option.bind_eq_some_iff] at h
    obtain ⟨sz, h2, h⟩ := h
    split at h
    · rename_i hj
      simp only [Option.bind_eq_some_iff] at h
      obtain ⟨v, h3, h4⟩ := h
      simp at h4
      obtain ⟨rfl, rfl⟩ := h4
      obtain ⟨v', h5, h6⟩ := lpart_sound (w := w) h3 hl
      refine ⟨rfl, v', ?_, h6⟩
      have h5 : (part elem cs' (j.toNat * sz)).run P w = .ok v' w := by simpa using h5
      simp only [Instr.index, asIntOf, Sem.run_bind, Sem.run_pure, Result.andThen_ok, run_underlying hu, if_pos hj, run_sizeT h2, h5]
    · cases h
  case h_2 s k j hu =>
    cases hix; cases hx
    split at h
    · rename_i hj
      simp only [Option.bind_eq_some_iff] at h
      obtain ⟨c, h3, h4⟩ := h
      simp at h4
      obtain ⟨rfl, rfl⟩ := h4
      refine ⟨rfl, _, ?_, .int _ _⟩
      have : s[j.toNat]? = some c := by
        have hlt : j.toNat < s.data.toList.length := by
          rcases Nat.lt_or_ge j.toNat s.data.toList.length with h5 | h5
          · exact h5
          · rw [List.getElem?_eq_none h5] at h3; cases h3
        have hlt2 : j.toNat < s.size := by simpa using hlt
        rw [getElem?_pos s j.toNat hlt2]
        rw [List.getElem?_eq_getElem hlt] at h3
        injection h3 with h3
        rw [← h3]
        simp
        rfl
      simp [Instr.index, asIntOf, run_underlying hu, hj, this]
    · cases h
  case h_3 => cases h

theorem lassert_sound {x x' u : Value} {xt t : TypeId} {ok : Bool} {H' : Hp} (h : lassert P x t ok H = some (.val u H')) (hx : VR μ x x') : H' = H ∧ ∃ u', (Instr.typeAssert x' xt t ok).run P w = .ok u' w ∧ VR μ u u' := by
  unfold lassert at h
  split at h
  · cases h
  · rename_i d t' v hd hu
    cases hx with
    | iface hv =>
      rename_i v'
      split at h
      · rename_i e; subst e
        simp at h
        obtain ⟨rfl, rfl⟩ := h
        refine ⟨rfl, if ok then .tuple #[v', .bool true] else v', ?_, ?_⟩
        · cases d <;> first | exact absurd rfl (hd _) | simp [Instr.typeAssert, run_underlying hu]
        · cases ok
          · simpa using hv
          · simpa using VR.mk_tuple (LR.cons hv (LR.cons (.bool true) (LR.nil μ)))
      · rename_i hne
        split at h
        · rename_i hok; subst hok
          simp only [Option.bind_eq_some_iff] at h
          obtain ⟨z, hz, h⟩ := h
          simp at h
          obtain ⟨rfl, rfl⟩ := h
          obtain ⟨h1, h2⟩ := run_zeroT (w := w) hz
          refine ⟨rfl, .tuple #[z, .bool false], ?_, by simpa using VR.mk_tuple (LR.cons (closed_VR h2) (LR.cons (.bool false) (LR.nil μ)))⟩
          cases d <;> first | exact absurd rfl (hd _) | simp [Instr.typeAssert, run_underlying hu, hne, h1]
        · cases h
  · rename_i d hd hu
    cases hx
    split at h
    · rename_i hok; subst hok
      simp only [Option.bind_eq_some_iff] at h
      obtain ⟨z, hz, h⟩ := h
      simp at h
      obtain ⟨rfl, rfl⟩ := h
      obtain ⟨h1, h2⟩ := run_zeroT (w := w) hz
      refine ⟨rfl, .tuple #[z, .bool false], ?_, by simpa using VR.mk_tuple (LR.cons (closed_VR h2) (LR.cons (.bool false) (LR.nil μ)))⟩
      cases d <;> first | exact absurd rfl (hd _) | simp [Instr.typeAssert, run_underlying hu, h1]
    · cases h
  · cases h
end
end Go.Lite
