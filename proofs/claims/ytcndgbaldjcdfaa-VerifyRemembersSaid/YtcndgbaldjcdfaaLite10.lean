/- Lite, part 10: the model does what the abstract operation says: copy, iterators, lengths, least and greatest, maps. -/
import Derived.Test.YtcndgbaldjcdfaaLite9
namespace Go.Lite
open Go
set_option linter.unusedSimpArgs false
set_option linter.unusedVariables false

section
variable {P : Program} {E : Env} {μ : List Info} {H : Hp} {w : World}

theorem run_getObj {r : Nat} {o : Obj} (h : w.heap[r]? = some o) (hc : ∀ C e fz, o ≠ .cells C e fz) : (getObj r).run P w = .ok o w := by
  cases o <;> first | exact absurd rfl (hc _ _ _) | simp only [getObj, Sem.run, h]
theorem run_setObj {r : Nat} {o x : Obj} (h : w.heap[r]? = some o) (hc : ∀ C e fz, o ≠ .cells C e fz) : (setObj r x).run P w = .ok () { w with heap := w.heap.setIfInBounds r x } := by
  cases o <;> first | exact absurd rfl (hc _ _ _) | simp only [setObj, Sem.run, h]
theorem heap_set_self {r : Nat} {o x : Obj} (h : w.heap[r]? = some o) : (w.heap.setIfInBounds r x)[r]? = some x := by
  have hlt : r < w.heap.size := by
    rcases Nat.lt_or_ge r w.heap.size with h1 | h1
    · exact h1
    · rw [Array.getElem?_eq_none h1] at h; cases h
  simp [hlt]
theorem heap_set_far {r c : Nat} {x : Obj} (h : c ≠ r) : (w.heap.setIfInBounds r x)[c]? = w.heap[c]? := Array.getElem?_setIfInBounds_ne (fun e => h e.symm)

theorem lcopy_sound {ts : List TypeId} {ty : TypeId} {d x d' x' u : Value} {H' : Hp} (h : lcopy P ts [d, x] H = some (.val u H')) (hd : VR μ d d') (hx : VR μ x x') (hR : Rel P E μ H w) :
    DidV P E μ (Builtin.copy_ ts.toArray ty #[d', x']) w u H' := by
  unfold lcopy at h
  split at h
  · rename_i t r d0 x0 e
    cases e
    split at h
    · rename_i elem a n c hu
      simp only [Option.bind_eq_some_iff] at h
      obtain ⟨sz, hsz, ⟨m, news⟩, hsrc, h⟩ := h
      obtain ⟨news', hlen, _, hnl, hnm, hfirst⟩ := appSrc_sound hsrc hx hR
      simp only at h
      have hk : Nat.min m n ≤ m := Nat.min_le_left _ _
      have hf := hfirst _ hk
      have hpre : ∀ (a' : Option Addr) (c' : Nat) (w' : World), (match a' with | some a' => storeCells a' (news'.take (Nat.min m n * sz)) | none => (pure () : Sem Unit)).run P w = .ok () w' →
          (Builtin.copy_ (t :: r).toArray ty #[.slice a' n c', x']).run P w = .ok (goInt (Nat.min m n)) w' := by
        intro a' c' w' hst
        unfold Builtin.copy_
        simp only [List.getElem?_toArray, List.getElem?_cons_zero, List.getElem?_cons_succ, Sem.run_bind, run_underlying hu, Result.andThen_ok, hlen, run_sizeT hsz, hf]
        cases a' with
        | none => simp at hst; subst hst; simp
        | some a' => simp only at hst; simp [hst]
      split at h
      · cases hd
        simp at h
        obtain ⟨rfl, rfl⟩ := h
        exact DidV.same (hpre none 0 w rfl) (by have : Nat.min m 0 = 0 := Nat.min_zero m; rw [this]; exact .int _ _) hR
      · rename_i b o
        cases hd with
        | sl hi hn hc =>
          rename_i c' a' i
          split at h
          · rename_i h0
            simp at h
            obtain ⟨rfl, rfl⟩ := h
            refine DidV.same (v' := goInt (Nat.min m n)) (hpre (some a') c' w ?_) (by rw [h0]; exact .int _ _) hR
            rw [h0]; simp [storeCells]
          · rename_i h0
            simp only [Option.bind_eq_some_iff] at h
            obtain ⟨y, h1, y', h2, h3⟩ := h
            simp at h3
            obtain ⟨rfl, rfl⟩ := h3
            rcases hc with hc | ⟨rfl, hc⟩
            · have : n = 0 := by omega
              subst this; simp at h0
            · obtain ⟨w', h4, h5, h6⟩ := Rel.stores (news.take (Nat.min m n * sz)) (news'.take (Nat.min m n * sz)) o 0 hR h1 (by simpa using h2) (hnl.take _) hi
              refine ⟨_, w', μ, hpre (some _) c' w' h4, Ext.refl μ, .int _ _, ?_⟩
              by_cases he : news.take (Nat.min m n * sz) = []
              · obtain ⟨rfl, rfl⟩ := h5 he
                rw [Hp.set_same H b _ h1]; exact hR
              · exact h6 he
      · cases h
    · cases h
  · cases h

theorem lrange_sound {t : TypeId} {x x' u : Value} {H' : Hp} (h : lrange P t x H = some (.val u H')) (hx : VR μ x x') (hR : Rel P E μ H w) : DidV P E μ (Instr.range t x') w u H' := by
  unfold lrange at h
  split at h
  · rename_i s hu
    cases hx
    simp [lnew] at h
    obtain ⟨rfl, rfl⟩ := h
    refine ⟨.pointer (some ⟨w.heap.size, 0, none⟩), _, _, ?_, Ext.snoc μ _, VR.ptr (last_info hR ⟨w.heap.size, 0, 1, 0⟩), hR.new (.stringIter s 0) ⟨w.heap.size, 0, 1, 0⟩ rfl (.iter s 0) ?_⟩
    · simp [Instr.range, run_underlying hu]
    · simp [BR]
  · cases h

theorem lnext_sound {x x' u : Value} {isS : Bool} {ty : TypeId} {H' : Hp} (h : lnext x isS H = some (.val u H')) (hx : VR μ x x') (hR : Rel P E μ H w) : DidV P E μ (Instr.next x' isS ty) w u H' := by
  unfold lnext at h
  split at h
  · rename_i b
    cases hx with
    | ptr hi =>
      rename_i i
      split at h
      · rename_i s pos hb
        obtain ⟨j, hj, hbr⟩ := hR.blk b _ hb
        rw [hi] at hj; cases hj
        obtain ⟨hbase, hbr⟩ := hbr
        have hg := run_getObj (P := P) hbr (fun _ _ _ => by simp)
        split at h
        · rename_i hp
          generalize hde : Utf8.decode s pos = cw at h
          obtain ⟨c, width⟩ := cw
          simp at h
          obtain ⟨rfl, rfl⟩ := h
          have hs := run_setObj (P := P) (x := .stringIter s (pos + width)) hbr (fun _ _ _ => by simp)
          refine ⟨.tuple #[.bool true, goInt pos, .int .i32 c], { w with heap := w.heap.setIfInBounds i.blk (.stringIter s (pos + width)) }, μ, ?_, Ext.refl μ, ?_, hR.turn hb rfl hi rfl rfl rfl rfl (by simp) (fun c hc => heap_set_far hc) ⟨hbase, heap_set_self hbr⟩⟩
          · simp only [Instr.next, Sem.run_bind, hbase, Nat.add_zero, hg, Result.andThen_ok, if_pos hp, hde, hs, Sem.run_pure]
          · exact VR.mk_tuple (LR.cons (.bool true) (LR.cons (.int _ _) (LR.cons (.int _ _) (LR.nil μ))))
        · rename_i hp
          simp at h
          obtain ⟨rfl, rfl⟩ := h
          refine DidV.same (v' := .tuple #[.bool false]) ?_ (VR.mk_tuple (LR.cons (.bool false) (LR.nil μ))) hR
          simp only [Instr.next, Sem.run_bind, hbase, Nat.add_zero, hg, Result.andThen_ok, if_neg hp, Sem.run_pure]
      · cases h
  · cases h

theorem mapAt_some {b : Nat} {es : List (Value × Value)} (h : mapAt H b = some es) : H.f b = some (.map es) := by
  unfold mapAt at h
  split at h
  · cases h; assumption
  · cases h

theorem Rel.map (hR : Rel P E μ H w) {b : Nat} {es : List (Value × Value)} (h : mapAt H b = some es) {i : Info} (hi : μ[b]? = some i) : ∃ A c, (getObj i.blk).run P w = .ok (.map A c) w ∧ w.heap[i.blk]? = some (.map A c) ∧ MR μ es A c := by
  obtain ⟨j, hj, A, c, h1, h2⟩ := hR.blk b _ (mapAt_some h)
  rw [hi] at hj; cases hj
  exact ⟨A, c, run_getObj h1 (fun _ _ _ => by simp), h1, h2⟩

theorem MR.size {es : List (Value × Value)} {A : Array MapEntry} {c : Nat} (h : MR μ es A c) : A.size = es.length := by
  obtain ⟨l, h1, h2, _⟩ := h.perm
  rw [h2, h1.length_eq]; simp

theorem llen_sound {t : TypeId} {ts : List TypeId} {ty : TypeId} {x x' u : Value} {rest : List Value} {H' : Hp} (h : llen P t x H = some (.val u H')) (hx : VR μ x x') (hR : Rel P E μ H w) :
    DidV P E μ (Builtin.len_ (t :: ts).toArray ty (x' :: rest).toArray) w u H' := by
  unfold llen at h
  split at h
  · rename_i s hu
    cases hx; simp at h; obtain ⟨rfl, rfl⟩ := h
    exact DidV.same (v' := goInt s.size) (by simp [Builtin.len_, run_underlying hu]) (.int _ _) hR
  · rename_i n e hu
    simp at h; obtain ⟨rfl, rfl⟩ := h
    exact DidV.same (v' := goInt n) (by simp [Builtin.len_, run_underlying hu]) (.int _ _) hR
  · rename_i a hu
    split at h
    · rename_i n e hu2
      simp at h; obtain ⟨rfl, rfl⟩ := h
      exact DidV.same (v' := goInt n) (by simp [Builtin.len_, run_underlying hu, run_underlying hu2]) (.int _ _) hR
    · cases h
  · rename_i e a n c hu
    cases hx <;> (simp at h; obtain ⟨rfl, rfl⟩ := h)
    · exact DidV.same (v' := goInt 0) (by simp [Builtin.len_, run_underlying hu]) (.int _ _) hR
    · exact DidV.same (v' := goInt n) (by simp [Builtin.len_, run_underlying hu]) (.int _ _) hR
  · rename_i k e hu
    cases hx; simp at h; obtain ⟨rfl, rfl⟩ := h
    exact DidV.same (v' := goInt 0) (by simp [Builtin.len_, run_underlying hu]) (.int _ _) hR
  · rename_i k e b hu
    cases hx with
    | map hi =>
      simp only [Option.bind_eq_some_iff] at h
      obtain ⟨es, h1, h2⟩ := h
      simp at h2; obtain ⟨rfl, rfl⟩ := h2
      obtain ⟨A, c, h3, h4, h5⟩ := hR.map h1 hi
      exact DidV.same (v' := goInt A.size) (by simp [Builtin.len_, run_underlying hu, h3]) (by rw [h5.size]; exact .int _ _) hR
  · cases h

theorem lmin2_run {a b u : Value} (h : lmin2 a b = some u) : (Builtin.min2 a b).run P w = .ok u w ∧ scal a = true ∧ scal b = true ∧ scal u = true := by
  unfold lmin2 at h
  split at h
  · cases h; exact ⟨rfl, rfl, rfl, rfl⟩
  · cases h
    refine ⟨?_, rfl, rfl, rfl⟩
    simp only [Builtin.min2, Op.stringOp, toList_eq, Sem.run_bind, Sem.run_pure, Result.andThen_ok, asBool]
  · cases h
theorem lmax2_run {a b u : Value} (h : lmax2 a b = some u) : (Builtin.max2 a b).run P w = .ok u w ∧ scal a = true ∧ scal b = true ∧ scal u = true := by
  unfold lmax2 at h
  split at h
  · cases h; exact ⟨rfl, rfl, rfl, rfl⟩
  · cases h
    refine ⟨?_, rfl, rfl, rfl⟩
    simp only [Builtin.max2, Op.stringOp, toList_eq, Sem.run_bind, Sem.run_pure, Result.andThen_ok, asBool]
  · cases h
theorem lfold_run {g : Value → Value → Option Value} {s : Value → Value → Sem Value} (hg : ∀ a b u, g a b = some u → (s a b).run P w = .ok u w ∧ scal a = true ∧ scal b = true ∧ scal u = true) :
    ∀ (l l' : List Value) (x u : Value), scal x = true → lfold g x l = some u → LR μ l l' → (l'.foldlM s x).run P w = .ok u w ∧ scal u = true
  | [], l', x, u, hx, h, hl => by
    have : l' = [] := List.eq_nil_of_length_eq_zero hl.1.symm
    subst this
    simp [lfold] at h; subst h
    exact ⟨by simp, hx⟩
  | v :: r, l', x, u, hx, h, hl => by
    match l', hl with
    | v' :: r', hl =>
      simp only [lfold, Option.bind_eq_some_iff] at h
      obtain ⟨y, h1, h2⟩ := h
      obtain ⟨h3, _, h4, h5⟩ := hg _ _ _ h1
      have hv := hl.2 0 v v' rfl rfl
      have hvv := hv.scal_eq h4
      subst hvv
      have hr : LR μ r r' := ⟨by have := hl.1; simpa using this, fun k a c p q => hl.2 (k + 1) a c (by simpa using p) (by simpa using q)⟩
      obtain ⟨h6, h7⟩ := lfold_run hg r r' y u h5 h2 hr
      exact ⟨by simp only [List.foldlM_cons, Sem.run_bind, h3, Result.andThen_ok, h6], h7⟩
    | [], hl => exact absurd hl.1 (by simp)

theorem lmin_sound {ts : Array TypeId} {ty : TypeId} {args args' : List Value} {u : Value} (h : lmin args = some u) (ha : LR μ args args') : (Builtin.min_ ts ty args'.toArray).run P w = .ok u w ∧ scal u = true := by
  match args, args', ha, h with
  | x :: r, x' :: r', ha, h =>
    simp only [lmin] at h
    split at h
    · rename_i hs
      have hx := (ha.2 0 x x' rfl rfl).scal_eq hs
      subst hx
      have hr : LR μ r r' := ⟨by have := ha.1; simpa using this, fun k a c p q => ha.2 (k + 1) a c (by simpa using p) (by simpa using q)⟩
      exact lfold_run (fun a b u h => lmin2_run h) r r' _ u hs h hr
    · cases h
  | [], _, _, h => simp [lmin] at h
  | _ :: _, [], ha, _ => exact absurd ha.1 (by simp)
theorem lmax_sound {ts : Array TypeId} {ty : TypeId} {args args' : List Value} {u : Value} (h : lmax args = some u) (ha : LR μ args args') : (Builtin.max_ ts ty args'.toArray).run P w = .ok u w ∧ scal u = true := by
  match args, args', ha, h with
  | x :: r, x' :: r', ha, h =>
    simp only [lmax] at h
    split at h
    · rename_i hs
      have hx := (ha.2 0 x x' rfl rfl).scal_eq hs
      subst hx
      have hr : LR μ r r' := ⟨by have := ha.1; simpa using this, fun k a c p q => ha.2 (k + 1) a c (by simpa using p) (by simpa using q)⟩
      exact lfold_run (fun a b u h => lmax2_run h) r r' _ u hs h hr
    · cases h
  | [], _, _, h => simp [lmax] at h
  | _ :: _, [], ha, _ => exact absurd ha.1 (by simp)
end
end Go.Lite
