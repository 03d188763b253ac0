/- Lite, part 14: an operation of the abstract run is one of the model's. -/
import Derived.Test.YtcndgbaldjcdfaaLite13
namespace Go.Lite
open Go
set_option linter.unusedSimpArgs false
set_option linter.unusedVariables false

section
variable {P : Program} {E : Env} {μ : List Info} {H : Hp} {w : World} {fr : Frame} {a : Act}

theorem lnil_sound {v v' u : Value} (h : lnil v = some u) (hv : VR μ v v') : u = v ∧ (∀ x : Operand, a.eval x = v' → ∀ o : Oper, o.op = .nilCheck x → execOp a.eval o = pure (.value v')) := by
  unfold lnil at h
  split at h
  · cases h
  · cases h
  · cases h
  · cases h
  · rename_i h1 h2 h3 h4
    cases h
    refine ⟨rfl, fun x hx o ho => ?_⟩
    unfold execOp
    rw [ho]
    simp only [hx]
    cases hv <;> first | rfl | exact absurd rfl h1 | exact absurd rfl h2 | exact absurd rfl h3 | skip
    rename_i fn f f' c c' _ _ _ _
    cases fn <;> first | rfl | exact absurd rfl (h4 _ _ _)

theorem lop_sound {o : Oper} {r : LRes} (h : lop P o.op fr H = some r) (hF : FR μ fr a) (hR : Rel P E μ H w) : LDid P E μ H a o w r := by
  unfold lop at h
  split at h
  case h_1 c hop => exact lcall_sound hop h hF hR
  case h_2 hnc =>
  obtain ⟨v, H', hr, hh⟩ := onlyVal_some h
  clear h
  subst hr
  have h := hh
  clear hh
  have hex : ∀ op, o.op = op → ∀ s : Sem Value, (∀ o' : Oper, o'.op = op → o'.type = o.type → execOp a.eval o' = (do pure (.value (← s)))) → DidV P E μ s w v H' → LDid P E μ H a o w (.val v H') :=
    fun op ho s hs hd => LDid.of_V (hs o ho rfl) hd
  have hexp : ∀ op, o.op = op → ∀ (s : Sem Value) (v' : Value), (∀ o' : Oper, o'.op = op → o'.type = o.type → execOp a.eval o' = (do pure (.value (← s)))) → s.run P w = .ok v' w → VR μ v v' → H' = H → LDid P E μ H a o w (.val v H') :=
    fun op ho s v' hs hr hv e => by subst e; exact LDid.of_pure (hs o ho rfl) hr hv hR
  cases hop : o.op <;> rw [hop] at h <;> simp only [lop1] at h <;> try (cases h; done)
  case move x =>
    simp only [Option.bind_eq_some_iff] at h
    obtain ⟨u, h1, h2⟩ := h
    simp at h2; obtain ⟨rfl, rfl⟩ := h2
    exact ⟨.value (a.eval x), a.eval x, w, μ, by unfold execOp; rw [hop]; rfl, .inl rfl, Ext.refl μ, ao_sound h1 hF hR, hR⟩
  case assign x =>
    simp only [Option.bind_eq_some_iff] at h
    obtain ⟨u, h1, h2⟩ := h
    simp at h2; obtain ⟨rfl, rfl⟩ := h2
    exact ⟨.value (a.eval x), a.eval x, w, μ, by unfold execOp; rw [hop]; rfl, .inl rfl, Ext.refl μ, ao_sound h1 hF hR, hR⟩
  case pick c x y =>
    simp only [Option.bind_eq_some_iff] at h
    obtain ⟨t, h1, u, h2, z, h3, h4⟩ := h
    have ht := ao_sound h1 hF hR
    split at h4
    · rename_i b
      simp at h4; obtain ⟨rfl, rfl⟩ := h4
      have hb : a.eval c = .bool b := ht.scal_eq rfl
      refine ⟨.value (if b then a.eval x else a.eval y), _, w, μ, ?_, .inl rfl, Ext.refl μ, ?_, hR⟩
      · unfold execOp; rw [hop]; simp [asBool, hb]
      · cases b
        · simpa using ao_sound h3 hF hR
        · simpa using ao_sound h2 hF hR
    · cases h4
  case alloc e =>
    simp only [Option.bind_eq_some_iff, lnew] at h
    obtain ⟨z, h1, h2⟩ := h
    simp at h2; obtain ⟨rfl, rfl⟩ := h2
    exact hex _ hop _ (fun o' ho _ => by unfold execOp; rw [ho]) (alloc_sound h1 hR)
  case box e x =>
    simp only [Option.bind_eq_some_iff, lnew] at h
    obtain ⟨z, h1, h2⟩ := h
    simp at h2; obtain ⟨rfl, rfl⟩ := h2
    exact hex _ hop (Instr.box e (a.eval x)) (fun o' ho _ => by unfold execOp; rw [ho]) (newVar_sound (ao_sound h1 hF hR) hR)
  case build t parts =>
    simp only [Option.bind_eq_some_iff] at h
    obtain ⟨ps, h1, h2⟩ := h
    obtain ⟨h3, h4⟩ := mapO_sound h1 hF hR
    obtain ⟨h5, u', h6, h7⟩ := lbuild_sound (w := w) h2 h3 h4
    refine hexp _ hop (Instr.build t (parts.map fun (i, x) => (i, a.eval x))) u' (fun o' ho _ => by unfold execOp; rw [ho]) ?_ h7 h5
    rw [← h6]; congr 2
    exact Array.ext' (by rw [Array.toList_map])
  case buildSlice t n parts =>
    simp only [Option.bind_eq_some_iff] at h
    obtain ⟨ps, h1, h2⟩ := h
    obtain ⟨h3, h4⟩ := mapO_sound h1 hF hR
    have h5 := lbuildSlice_sound h2 h3 h4 hR
    have he : (parts.map fun (i, x) => (i, a.eval x)) = (parts.toList.map fun (i, x) => (i, a.eval x)).toArray := Array.ext' (by rw [Array.toList_map])
    rw [← he] at h5
    exact hex _ hop _ (fun o' ho _ => by unfold execOp; rw [ho]) h5
  case load t x =>
    simp only [Option.bind_eq_some_iff] at h
    obtain ⟨u, h1, h2⟩ := h
    obtain ⟨h3, u', h4, h5⟩ := lload_sound h2 (ao_sound h1 hF hR) hR
    exact hexp _ hop _ u' (fun o' ho _ => by unfold execOp; rw [ho]) h4 h5 h3
  case store t x y =>
    simp only [Option.bind_eq_some_iff] at h
    obtain ⟨u, h1, z, h2, h3⟩ := h
    obtain ⟨rfl, h4⟩ := lstore_sound h3 (ao_sound h1 hF hR) (ao_sound h2 hF hR) hR
    exact LDid.of_U (by unfold execOp; rw [hop]) h4
  case nilCheck x =>
    simp only [Option.bind_eq_some_iff] at h
    obtain ⟨u, h1, z, h2, h3⟩ := h
    simp at h3; obtain ⟨rfl, rfl⟩ := h3
    obtain ⟨rfl, h4⟩ := lnil_sound (a := a) h2 (ao_sound h1 hF hR)
    exact ⟨.value (a.eval x), a.eval x, w, μ, by rw [h4 x rfl o hop]; rfl, .inl rfl, Ext.refl μ, ao_sound h1 hF hR, hR⟩
  case binOp op t x y yt =>
    simp only [Option.bind_eq_some_iff] at h
    obtain ⟨p, h1, q, h2, u, h3, h4⟩ := h
    simp at h4; obtain ⟨rfl, rfl⟩ := h4
    obtain ⟨h5, h6⟩ := lbin_sound (w := w) h3 (ao_sound h1 hF hR) (ao_sound h2 hF hR)
    exact hexp _ hop _ u (fun o' ho _ => by unfold execOp; rw [ho]) h5 (VR.of_scal μ h6) rfl
  case unOp op t x =>
    simp only [Option.bind_eq_some_iff] at h
    obtain ⟨p, h1, u, h3, h4⟩ := h
    simp at h4; obtain ⟨rfl, rfl⟩ := h4
    obtain ⟨h5, h6⟩ := lun_sound (P := P) (w := w) h3 (ao_sound h1 hF hR)
    exact hexp _ hop _ u (fun o' ho _ => by unfold execOp; rw [ho]) h5 (VR.of_scal μ h6) rfl
  case convert s d x =>
    simp only [Option.bind_eq_some_iff] at h
    obtain ⟨p, h1, h2⟩ := h
    exact hex _ hop _ (fun o' ho _ => by unfold execOp; rw [ho]) (lconv_sound h2 (ao_sound h1 hF hR) hR)
  case makeInterface t x =>
    simp only [Option.bind_eq_some_iff] at h
    obtain ⟨p, h1, h2⟩ := h
    split at h2
    · cases h2
    · rename_i d hd hu
      simp at h2; obtain ⟨rfl, rfl⟩ := h2
      refine hexp _ hop (Instr.makeInterface t (a.eval x)) (.iface t (a.eval x)) (fun o' ho _ => by unfold execOp; rw [ho]) ?_ (.iface (ao_sound h1 hF hR)) rfl
      cases d <;> first | exact absurd rfl (hd _) | simp [Instr.makeInterface, run_underlying hu]
    · cases h2
  case makeFunc fn first cap =>
    simp only [Option.bind_eq_some_iff] at h
    obtain ⟨f, h1, c, h2, h3⟩ := h
    simp at h3; obtain ⟨rfl, rfl⟩ := h3
    have e1 : first.map a.eval = (first.toList.map a.eval).toArray := Array.ext' (by rw [Array.toList_map])
    have e2 : cap.map a.eval = (cap.toList.map a.eval).toArray := Array.ext' (by rw [Array.toList_map])
    exact hexp _ hop (Instr.makeFunc fn (first.map a.eval) (cap.map a.eval)) (.func fn (first.map a.eval) (cap.map a.eval)) (fun o' ho _ => by unfold execOp; rw [ho]) rfl
      (by rw [e1, e2]; exact VR.mk_func (aos_sound h1 hF hR) (aos_sound h2 hF hR)) rfl
  case makeMap t rsv =>
    have hnew : DidV P E μ (do pure (.map (some (← newObj (.map #[] 0)))) : Sem Value) w (.map (some H.n)) (H.new (.map [])) := by
      refine ⟨.map (some w.heap.size), _, _, by simp, Ext.snoc μ _, VR.map (last_info hR ⟨w.heap.size, 0, 1, 0⟩), hR.new (.map #[] 0) ⟨w.heap.size, 0, 1, 0⟩ rfl (.map []) ?_⟩
      exact ⟨#[], 0, by simp, ⟨[], by simp, rfl, fun k x e hx => by simp at hx⟩, by simp, by simp, fun e he => by simp at he⟩
    cases rsv with
    | none =>
      simp only [lnew] at h
      simp at h; obtain ⟨rfl, rfl⟩ := h
      refine hex _ hop (Instr.makeMap t none) (fun o' ho _ => by unfold execOp; rw [ho]; rfl) ?_
      obtain ⟨v', w', μ', g1, g2⟩ := hnew
      refine ⟨v', w', μ', ?_, g2⟩
      rw [← g1]; rfl
    | some x =>
      simp only [Option.bind_eq_some_iff] at h
      obtain ⟨p, h1, h2⟩ := h
      have hp := ao_sound h1 hF hR
      split at h2
      · rename_i k n kk ee hu
        simp only [lnew] at h2
        simp at h2; obtain ⟨rfl, rfl⟩ := h2
        have hx : a.eval x = .int k n := hp.scal_eq rfl
        refine hex _ hop (Instr.makeMap t (some (.int k n))) (fun o' ho _ => by unfold execOp; rw [ho]; simp [hx]) ?_
        obtain ⟨v', w', μ', g1, g2⟩ := hnew
        refine ⟨v', w', μ', ?_, g2⟩
        rw [← g1]
        simp [Instr.makeMap, run_underlying hu, asInt, asIntOf]
      · cases h2
  case makeSlice t l c =>
    simp only [Option.bind_eq_some_iff] at h
    obtain ⟨p, h1, q, h2, h3⟩ := h
    exact hex _ hop _ (fun o' ho _ => by unfold execOp; rw [ho]) (lmakeSlice_sound h3 (ao_sound h1 hF hR) (ao_sound h2 hF hR) hR)
  case slice t x lo hi mx =>
    simp only [Option.bind_eq_some_iff] at h
    obtain ⟨p, h1, lo', h2, hi', h3, mx', h4, h5⟩ := h
    obtain ⟨h6, u', h7, h8⟩ := lsliceAt_sound h5 (ao_sound h1 hF hR) (optO_sound h2 hF hR) (optO_sound h3 hF hR) (optO_sound h4 hF hR) hR
    exact hexp _ hop _ u' (fun o' ho _ => by unfold execOp; rw [ho]) h7 h8 h6
  case fieldAddr s x f =>
    simp only [Option.bind_eq_some_iff] at h
    obtain ⟨p, h1, h2⟩ := h
    obtain ⟨h6, u', h7, h8⟩ := lfieldAddr_sound (w := w) h2 (ao_sound h1 hF hR)
    exact hexp _ hop _ u' (fun o' ho _ => by unfold execOp; rw [ho]) h7 h8 h6
  case field s x f =>
    simp only [Option.bind_eq_some_iff] at h
    obtain ⟨p, h1, h2⟩ := h
    obtain ⟨h6, u', h7, h8⟩ := lfield_sound (w := w) h2 (ao_sound h1 hF hR)
    exact hexp _ hop _ u' (fun o' ho _ => by unfold execOp; rw [ho]) h7 h8 h6
  case indexAddr t x ix =>
    simp only [Option.bind_eq_some_iff] at h
    obtain ⟨p, h1, q, h2, h3⟩ := h
    obtain ⟨h6, u', h7, h8⟩ := lindexAddr_sound (w := w) h3 (ao_sound h1 hF hR) (ao_sound h2 hF hR) hR
    exact hexp _ hop _ u' (fun o' ho _ => by unfold execOp; rw [ho]) h7 h8 h6
  case index t x ix =>
    simp only [Option.bind_eq_some_iff] at h
    obtain ⟨p, h1, q, h2, h3⟩ := h
    obtain ⟨h6, u', h7, h8⟩ := lindex_sound (w := w) h3 (ao_sound h1 hF hR) (ao_sound h2 hF hR)
    exact hexp _ hop _ u' (fun o' ho _ => by unfold execOp; rw [ho]) h7 h8 h6
  case lookup t x k ok =>
    simp only [Option.bind_eq_some_iff] at h
    obtain ⟨p, h1, q, h2, h3⟩ := h
    obtain ⟨h6, u', h7, h8⟩ := llookup_sound h3 (ao_sound h1 hF hR) (ao_sound h2 hF hR) hR
    exact hexp _ hop _ u' (fun o' ho _ => by unfold execOp; rw [ho]) h7 h8 h6
  case mapUpdate t m k x =>
    simp only [Option.bind_eq_some_iff] at h
    obtain ⟨p, h1, q, h2, z, h3, h4⟩ := h
    obtain ⟨rfl, h5⟩ := lmapUpdate_sound h4 (ao_sound h1 hF hR) (ao_sound h2 hF hR) (ao_sound h3 hF hR) hR
    exact LDid.of_U (by unfold execOp; rw [hop]) h5
  case insert t m k x =>
    simp only [Option.bind_eq_some_iff] at h
    obtain ⟨p, h1, q, h2, z, h3, h4⟩ := h
    obtain ⟨rfl, h5⟩ := lmapUpdate_sound h4 (ao_sound h1 hF hR) (ao_sound h2 hF hR) (ao_sound h3 hF hR) hR
    exact LDid.of_U (by unfold execOp; rw [hop]) h5
  case range t x =>
    simp only [Option.bind_eq_some_iff] at h
    obtain ⟨p, h1, h2⟩ := h
    exact hex _ hop _ (fun o' ho _ => by unfold execOp; rw [ho]) (lrange_sound h2 (ao_sound h1 hF hR) hR)
  case next it s =>
    simp only [Option.bind_eq_some_iff] at h
    obtain ⟨p, h1, h2⟩ := h
    exact hex _ hop (Instr.next (a.eval it) s o.type) (fun o' ho ht => by unfold execOp; rw [ho, ht]) (lnext_sound h2 (ao_sound h1 hF hR) hR)
  case typeAssert x xt t ok =>
    simp only [Option.bind_eq_some_iff] at h
    obtain ⟨p, h1, h2⟩ := h
    obtain ⟨h6, u', h7, h8⟩ := lassert_sound (w := w) (xt := xt) h2 (ao_sound h1 hF hR)
    exact hexp _ hop _ u' (fun o' ho _ => by unfold execOp; rw [ho]) h7 h8 h6
  case extract t i =>
    simp only [Option.bind_eq_some_iff] at h
    obtain ⟨p, h1, h2⟩ := h
    have hp := ao_sound h1 hF hR
    split at h2
    · rename_i vs
      simp only [Option.bind_eq_some_iff] at h2
      obtain ⟨u, h3, h4⟩ := h2
      simp at h4; obtain ⟨rfl, rfl⟩ := h4
      obtain ⟨c', he, hl⟩ := hp.tuple_inv
      obtain ⟨u', h5, h6⟩ := hl.at_ (k := i) (by simpa using h3)
      have h5 : c'[i]? = some u' := by simpa using h5
      exact hexp _ hop (Instr.extract (a.eval t) i) u' (fun o' ho _ => by unfold execOp; rw [ho]) (by rw [he]; simp [Instr.extract, h5]) h6 rfl
    · cases h2
end
end Go.Lite
