/- Lite, part 13: the model does what the abstract operation says: every operation. -/
import Derived.Test.YtcndgbaldjcdfaaLite12
namespace Go.Lite
open Go
set_option linter.unusedSimpArgs false
set_option linter.unusedVariables false

section
variable {P : Program} {E : Env} {μ : List Info} {H : Hp} {w : World} {fr : Frame} {a : Act}

/-- The slots, one by one. -/
def FR (μ : List Info) (fr : Frame) (a : Act) : Prop := LR μ fr a.tmps.toList

theorem undef_VR : VR μ undef undef := VR.mk_tuple (LR.nil μ)

theorem ao_sound {x : Operand} {v : Value} (h : ao P H fr x = some v) (hF : FR μ fr a) (hR : Rel P E μ H w) : VR μ v (a.eval x) := by
  cases x with
  | tmp t =>
    simp [ao] at h; subst h
    simp only [Act.eval]
    rcases Nat.lt_or_ge t fr.length with ht | ht
    · have h1 := List.getElem?_eq_getElem ht
      obtain ⟨v', h2, h3⟩ := hF.at_ h1
      have h4 : a.tmps.getD t undef = v' := by
        have : a.tmps[t]? = some v' := by simpa using h2
        simp [Array.getD_eq_getD_getElem?, this]
      rw [h4]
      simpa [List.getD, h1] using h3
    · have h1 : fr[t]? = none := List.getElem?_eq_none ht
      have h2 : a.tmps[t]? = none := by
        rw [Array.getElem?_eq_none]
        have := hF.1
        simp at this
        omega
      simp only [Array.getD_eq_getD_getElem?, h2, h1, List.getD_eq_getElem?_getD, Option.getD_none]
      exact undef_VR
  | const c =>
    simp [ao] at h
    obtain ⟨hc, rfl⟩ := h
    exact closed_VR hc
  | global g =>
    simp [ao] at h
    obtain ⟨hg, rfl⟩ := h
    obtain ⟨i, h1, h2, h3⟩ := hR.glob g hg
    have := VR.ptr (o := 0) h1
    rw [h2, h3] at this
    exact this
  | func f =>
    simp [ao] at h; subst h
    exact VR.mk_func (f := []) (f' := []) (c := []) (c' := []) (LR.nil μ) (LR.nil μ)

theorem aos_sound : ∀ {xs : List Operand} {vs : List Value}, aos P H fr xs = some vs → FR μ fr a → Rel P E μ H w → LR μ vs (xs.map a.eval)
  | [], vs, h, _, _ => by simp [aos] at h; subst h; exact LR.nil μ
  | x :: r, vs, h, hF, hR => by
    simp only [aos, Option.bind_eq_some_iff] at h
    obtain ⟨v, h1, l, h2, h3⟩ := h
    simp at h3; subst h3
    exact LR.cons (ao_sound h1 hF hR) (aos_sound h2 hF hR)

theorem mapO_sound : ∀ {ps : List (Nat × Operand)} {l : List (Nat × Value)}, mapO (ao P H fr) ps = some l → FR μ fr a → Rel P E μ H w → l.map (·.1) = (ps.map fun (i, x) => (i, a.eval x)).map (·.1) ∧ LR μ (l.map (·.2)) ((ps.map fun (i, x) => (i, a.eval x)).map (·.2))
  | [], l, h, _, _ => by simp [mapO] at h; subst h; exact ⟨rfl, LR.nil μ⟩
  | (i, x) :: r, l, h, hF, hR => by
    simp only [mapO, Option.bind_eq_some_iff] at h
    obtain ⟨v, h1, l', h2, h3⟩ := h
    simp at h3; subst h3
    obtain ⟨h4, h5⟩ := mapO_sound h2 hF hR
    exact ⟨by simp at h4 ⊢; exact h4, by simpa using LR.cons (ao_sound h1 hF hR) h5⟩

theorem optO_sound {x : Option Operand} {v : Option Value} (h : optO (ao P H fr) x = some v) (hF : FR μ fr a) (hR : Rel P E μ H w) : OR μ v (x.map a.eval) := by
  cases x with
  | none => simp [optO] at h; subst h; trivial
  | some x =>
    simp only [optO, Option.bind_eq_some_iff] at h
    obtain ⟨u, h1, h2⟩ := h
    simp at h2; subst h2
    exact ao_sound h1 hF hR

/-- What the model does at an operation that the abstract run has taken. -/
def LDid (P : Program) (E : Env) (μ : List Info) (H : Hp) (a : Act) (o : Oper) (w : World) : LRes → Prop
  | .val v H' => ∃ nx v' w' μ', (execOp a.eval o).run P w = .ok nx w' ∧ (nx = .value v' ∨ (nx = .skip ∧ v' = undef)) ∧ Ext μ μ' ∧ VR μ' v v' ∧ Rel P E μ' H' w'
  | .call f args H' => H' = H ∧ ∃ args' : Array Value, (execOp a.eval o).run P w = (callFunc f args').run P w ∧ LR μ args args'.toList

theorem LDid.of_V {o : Oper} {v : Value} {H' : Hp} {s : Sem Value} (hs : execOp a.eval o = (do pure (.value (← s)))) (h : DidV P E μ s w v H') : LDid P E μ H a o w (.val v H') := by
  obtain ⟨v', w', μ', h1, h2, h3, h4⟩ := h
  exact ⟨.value v', v', w', μ', by rw [hs]; simp only [Sem.run_bind, h1, Result.andThen_ok, Sem.run_pure], .inl rfl, h2, h3, h4⟩
theorem LDid.of_pure {o : Oper} {v v' : Value} {H' : Hp} {s : Sem Value} (hs : execOp a.eval o = (do pure (.value (← s)))) (h : s.run P w = .ok v' w) (hv : VR μ v v') (hR : Rel P E μ H' w) : LDid P E μ H a o w (.val v H') :=
  LDid.of_V hs (DidV.same h hv hR)
theorem LDid.of_U {o : Oper} {H' : Hp} {s : Sem Unit} (hs : execOp a.eval o = (do s; pure .skip)) (h : ∃ w', s.run P w = .ok () w' ∧ Rel P E μ H' w') : LDid P E μ H a o w (.val undef H') := by
  obtain ⟨w', h1, h2⟩ := h
  exact ⟨.skip, undef, w', μ, by rw [hs]; simp only [Sem.run_bind, h1, Result.andThen_ok, Sem.run_pure], .inr ⟨rfl, rfl⟩, Ext.refl μ, undef_VR, h2⟩

theorem lmethod_run {t : TypeId} {name : String} {g : FuncId} {v : Value} (h : lmethod P t name = some g) : ∀ n : Nat, (method (n + 1) t v name).run P w = .ok (g, v) w := by
  intro n
  simp only [lmethod, Option.bind_eq_some_iff] at h
  obtain ⟨i, hi, m, hm, h⟩ := h
  split at h
  · rename_i hp
    simp only [Option.bind_eq_some_iff] at h
    obtain ⟨⟨g', ptr⟩, hf, h⟩ := h
    have hpath : m.path.toList = [] := by
      have : m.path = #[] := by simpa using hp
      rw [this]
    have hfind : i.methods.find? (fun x => x.name == name) = some m := by rw [← hm, Array.find?_toList]
    unfold method
    simp only [Sem.run_bind, run_info hi, Result.andThen_ok, hfind, hpath, follow, Sem.run_pure, hf]
    simp only at h
    split at h
    · rename_i e hu
      split at h
      · rename_i hptr; subst hptr
        simp at h; subst h
        simp [receiverAt, run_underlying hu, Place.get]
      · cases h
    · rename_i d hnp hu
      split at h
      · cases h
      · rename_i hptr
        simp at h; subst h
        have : ptr = false := by simpa using hptr
        subst this
        cases d <;> first | exact absurd rfl (hnp _) | simp [receiverAt, run_underlying hu, Place.get]
    · cases h
  · cases h

theorem types_pos : ∃ n, P.types.size + Made.depth = n + 1 := by
  have : 0 < Made.depth := by decide
  exact ⟨P.types.size + Made.depth - 1, by omega⟩

theorem LR.cons_inv {x : Value} {xs l : List Value} (h : LR μ (x :: xs) l) : ∃ y ys, l = y :: ys ∧ VR μ x y ∧ LR μ xs ys := by
  cases l with
  | nil => exact absurd h.1 (by simp)
  | cons y ys => exact ⟨y, ys, rfl, h.2 0 x y rfl rfl, ⟨by have := h.1; simpa using this, fun k a c p q => h.2 (k + 1) a c (by simpa using p) (by simpa using q)⟩⟩
theorem LR.nil_inv {l : List Value} (h : LR μ [] l) : l = [] := List.eq_nil_of_length_eq_zero h.1.symm

theorem onlyVal_some {x : Option LRes} {r : LRes} (h : onlyVal x = some r) : ∃ v H', r = .val v H' ∧ x = some (.val v H') := by
  unfold onlyVal at h
  split at h
  · cases h; exact ⟨_, _, rfl, rfl⟩
  · cases h

theorem lbuiltin_sound {b : Builtin} {ts : Array TypeId} {ty : TypeId} {cs : Array Bool} {args args' : List Value} {v : Value} {H' : Hp} (h : lbuiltin P b ts.toList args H = some (.val v H')) (hargs : LR μ args args') (hR : Rel P E μ H w) :
    ∃ s : Sem Value, builtin b ts ty cs args'.toArray = (do pure (.value (← s))) ∧ DidV P E μ s w v H' := by
  unfold lbuiltin at h
  split at h
  · split at h
    · rename_i t ts' x xs hts
      obtain ⟨y, ys, rfl, hx, _⟩ := hargs.cons_inv
      refine ⟨_, rfl, ?_⟩
      have h2 := llen_sound (ty := ty) (ts := ts') (rest := ys) h hx hR
      have hta : ts = (t :: ts').toArray := by rw [← hts]
      rw [hta]
      exact h2
    · cases h
  · refine ⟨_, rfl, ?_⟩
    have h0 := h
    unfold lappend at h
    split at h
    · rename_i t t2 s x hts
      obtain ⟨s', ys, rfl, hs, hr⟩ := hargs.cons_inv
      obtain ⟨x', zs, rfl, hx, hr2⟩ := hr.cons_inv
      have := hr2.nil_inv
      subst this
      have hta : ts = #[t, t2] := by have : ts = ts.toList.toArray := rfl
                                     rw [this, hts]
      rw [hta]
      rw [hts] at h0
      exact lappend_sound h0 hs hx hR
    · cases h
  · refine ⟨_, rfl, ?_⟩
    have h0 := h
    unfold lcopy at h
    split at h
    · rename_i t r d x hts
      obtain ⟨d', ys, rfl, hd, hr⟩ := hargs.cons_inv
      obtain ⟨x', zs, rfl, hx, hr2⟩ := hr.cons_inv
      have := hr2.nil_inv
      subst this
      have hta : ts = ts.toList.toArray := rfl
      rw [hta]
      exact lcopy_sound h0 hd hx hR
    · cases h
  · refine ⟨_, rfl, ?_⟩
    simp only [Option.bind_eq_some_iff] at h
    obtain ⟨u, h1, h2⟩ := h
    simp at h2
    obtain ⟨rfl, rfl⟩ := h2
    obtain ⟨h3, h4⟩ := lmin_sound (P := P) (w := w) (ts := ts) (ty := ty) h1 hargs
    exact DidV.same h3 (VR.of_scal μ h4) hR
  · refine ⟨_, rfl, ?_⟩
    simp only [Option.bind_eq_some_iff] at h
    obtain ⟨u, h1, h2⟩ := h
    simp at h2
    obtain ⟨rfl, rfl⟩ := h2
    obtain ⟨h3, h4⟩ := lmax_sound (P := P) (w := w) (ts := ts) (ty := ty) h1 hargs
    exact DidV.same h3 (VR.of_scal μ h4) hR
  · refine ⟨_, rfl, ?_⟩
    have h0 := h
    unfold ldelete at h
    split at h
    · rename_i t r r0 k hts
      obtain ⟨d', ys, rfl, hd, hr⟩ := hargs.cons_inv
      obtain ⟨x', zs, rfl, hx, hr2⟩ := hr.cons_inv
      have := hr2.nil_inv
      subst this
      have hta : ts = ts.toList.toArray := rfl
      rw [hta]
      exact ldelete_sound h0 hd hx hR
    · cases h
  · cases h

theorem lcall_sound {o : Oper} {c : Call} (ho : o.op = .call c) {r : LRes} (h : lcall P fr c H = some r) (hF : FR μ fr a) (hR : Rel P E μ H w) : LDid P E μ H a o w r := by
  simp only [lcall, Option.bind_eq_some_iff] at h
  obtain ⟨args, h1, h⟩ := h
  have hargs := aos_sound h1 hF hR
  have hargsA : (c.args.map a.eval) = (c.args.toList.map a.eval).toArray := Array.ext' (by rw [Array.toList_map])
  split at h
  · -- a builtin
    rename_i b hc
    obtain ⟨v, H', rfl, h2⟩ := onlyVal_some h
    obtain ⟨s, h3, h4⟩ := lbuiltin_sound (ty := o.type) (cs := c.args.map fun | .const _ => true | _ => false) h2 hargs hR
    refine LDid.of_V ?_ h4
    rw [← h3, ← hargsA]
    unfold execOp
    rw [ho]
    simp only [resolve, hc]
    rfl
  · -- a function's value
    rename_i f hc
    simp only [Option.bind_eq_some_iff] at h
    obtain ⟨v, h2, h⟩ := h
    have hv := ao_sound h2 hF hR
    split at h
    · rename_i g first cap
      simp at h; subst h
      obtain ⟨f', c', he, hf', hc'⟩ := hv.func_inv
      refine ⟨rfl, f' ++ c.args.map a.eval ++ c', ?_, ?_⟩
      · unfold execOp
        rw [ho]
        simp only [resolve, hc, he, Deferred.ofValue]
        rfl
      · have := (hf'.append hargs).append hc'
        simpa using this
    · cases h
  · -- a method of what an interface holds
    rename_i recv name hc
    simp only [Option.bind_eq_some_iff] at h
    obtain ⟨v, h2, h⟩ := h
    have hv := ao_sound h2 hF hR
    split at h
    · rename_i t v
      simp only [Option.bind_eq_some_iff] at h
      obtain ⟨g, h3, h⟩ := h
      simp at h; subst h
      cases hq : a.eval recv <;> rw [hq] at hv <;> cases hv
      rename_i v' hv
      refine ⟨rfl, #[v'] ++ c.args.map a.eval, ?_, ?_⟩
      · obtain ⟨n, hn⟩ := types_pos (P := P)
        have hm := lmethod_run (P := P) (w := w) (v := v') h3 n
        rw [← hn] at hm
        have hex : execOp a.eval o = callMethod (.iface t v') name (c.args.map a.eval) := by
          unfold execOp
          rw [ho]
          simp only [resolve, hc, hq]
          show (Sem.bind (Sem.pure _) _) = _
          simp only [Sem.bind, invoke]
          have e1 : ∀ A : Array Value, (#[Value.iface t v'] ++ A)[0]? = some (Value.iface t v') := fun A => by
            rw [Array.getElem?_append_left (by simp)]; rfl
          have e2 : ∀ A : Array Value, (#[Value.iface t v'] ++ A).extract 1 (#[Value.iface t v'] ++ A).size = A := fun A => by
            apply Array.ext'
            simp [List.extract_eq_take_drop]
          rw [e1]
          simp only [e2]
        rw [hex]
        unfold callMethod
        simp only [Sem.run_bind, run_program, Result.andThen_ok, hm]
      · have := LR.cons hv hargs
        simpa using this
    · cases h
end
end Go.Lite
