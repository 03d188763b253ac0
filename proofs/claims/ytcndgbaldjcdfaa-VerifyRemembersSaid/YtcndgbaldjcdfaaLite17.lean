/- Lite, part 17: regions whose order is drawn: any order that the program's text leaves open. -/
import Derived.Test.YtcndgbaldjcdfaaLite16
import Derived.Orders
namespace Go.Lite
open Go
set_option linter.unusedSimpArgs false
set_option linter.unusedVariables false

section
variable {P : Program} {ops : Array Oper}

/-- One operation, and what comes behind. -/
def AStep (P : Program) (ops : Array Oper) (i : Nat) (K : Frame → Hp → Prop) (fr : Frame) (H : Hp) : Prop :=
  match ops[i]? with
  | none => K fr H
  | some o => match guardOk ops fr o with
    | true => match lop P o.op fr H with
      | some (.val v H') => K (putF fr o.dst v) H'
      | some (.call f args H') => CO P f args H' fun v H2 => K (putF fr o.dst v) H2
      | none => False
    | false => K (putF fr o.dst undef) H

/-- Any order. -/
def AAny (P : Program) (ops : Array Oper) (Q : Frame → Hp → Prop) : Nat → Array Bool → Frame → Hp → Prop
  | 0, listed, fr, H => Region.ready .any ops listed = [] ∧ Q fr H
  | fuel + 1, listed, fr, H => (Region.ready .any ops listed = [] → Q fr H) ∧
    ∀ i ∈ Region.ready .any ops listed, AStep P ops i (AAny P ops Q fuel (listed.setIfInBounds i true)) fr H

theorem AStep.mono {i : Nat} {K K' : Frame → Hp → Prop} {fr : Frame} {H : Hp} (hk : ∀ fr H, K fr H → K' fr H) (h : AStep P ops i K fr H) : AStep P ops i K' fr H := by
  unfold AStep at *
  split at h
  · exact hk _ _ h
  · split at h
    · split at h
      · exact hk _ _ h
      · exact h.mono fun v H => hk _ _
      · exact h
    · exact hk _ _ h

theorem AStep.sound {i : Nat} {K : Frame → Hp → Prop} {fr : Frame} {H : Hp} {E : Env} {μ : List Info} {w : World} {a : Act} {Qc : Exit → Act → World → Prop} {Kc : Act → World → Prop}
    (h : AStep P ops i K fr H) (hd : a.defers = []) (hR : Rel P E μ H w) (hF : FR μ fr a)
    (hk : ∀ a' w' fr' H' μ', K fr' H' → Ext μ μ' → Rel P E μ' H' w' → FR μ' fr' a' → a'.defers = [] → Kc a' w') : wpOp P ops Qc i Kc a w := by
  unfold AStep at h
  unfold wpOp
  split at h
  · rename_i hn; simp only [hn]; exact hk a w fr H μ h (Ext.refl μ) hR hF hd
  · rename_i o ho
    simp only [ho]
    rw [guard_eq hF]
    split at h
    · rename_i hg
      simp only [hg, if_true]
      left
      split at h
      · rename_i v H' hl
        obtain ⟨nx, v', w', μ', h1, h2, h3, h4, h5⟩ := lop_sound hl hF hR
        have hnext := hk (a.put o.dst v') w' _ _ μ' h h3 h5 (FR.put (LR.mono h3 hF) h4 _) (by rw [put_defers]; exact hd)
        unfold Oper.wp
        rw [h1]
        rcases h2 with rfl | ⟨rfl, rfl⟩
        · exact hnext
        · exact hnext
      · rename_i f args H' hl
        obtain ⟨rfl, args', h1, h2⟩ := lop_sound hl hF hR
        unfold Oper.wp
        rw [h1]
        rcases h E μ w args' hR h2 with ⟨h3, h4⟩ | ⟨v, v', H2, μ', w', h3, q2, q3, q4, q5⟩
        · rw [h3, Oper.upon_enter]
          refine h4.mono fun e w' ⟨v, v', H2, μ', q1, q2, q3, q4, q5⟩ => ?_
          subst q1
          exact hk (a.put o.dst v') w' _ _ μ' q2 q3 q5 (FR.put (LR.mono q3 hF) q4 _) (by rw [put_defers]; exact hd)
        · rw [h3, Oper.upon_value]
          exact hk (a.put o.dst v') w' _ _ μ' q2 q3 q5 (FR.put (LR.mono q3 hF) q4 _) (by rw [put_defers]; exact hd)
      · exact h.elim
    · rename_i hg
      simp only [hg, Bool.false_eq_true, if_false]
      exact hk (a.put o.dst undef) w _ _ μ h (Ext.refl μ) hR (hF.put undef_VR _) (by rw [put_defers]; exact hd)

theorem AAny.sound {Q : Frame → Hp → Prop} : ∀ (fuel : Nat) (listed : Array Bool) (fr : Frame) (H : Hp), AAny P ops Q fuel listed fr H → ∀ (E : Env) (μ : List Info) (w : World) (a : Act) (Qc : Exit → Act → World → Prop),
    a.defers = [] → Rel P E μ H w → FR μ fr a → (∀ a' w' fr' H' μ', Q fr' H' → Ext μ μ' → Rel P E μ' H' w' → FR μ' fr' a' → a'.defers = [] → Qc .normal a' w') → wpAny P .any ops Qc fuel listed a w
  | 0, listed, fr, H, h, E, μ, w, a, Qc, hd, hR, hF, hk => ⟨h.1, hk a w fr H μ h.2 (Ext.refl μ) hR hF hd⟩
  | fuel + 1, listed, fr, H, h, E, μ, w, a, Qc, hd, hR, hF, hk =>
    ⟨fun h0 => hk a w fr H μ (h.1 h0) (Ext.refl μ) hR hF hd, fun i hi => (h.2 i hi).sound hd hR hF fun a' w' fr' H' μ' h1 h2 h3 h4 h5 =>
      AAny.sound fuel _ fr' H' h1 E μ' w' a' Qc h5 h3 h4 fun a2 w2 fr2 H2 μ2 q1 q2 q3 q4 q5 => hk a2 w2 fr2 H2 μ2 q1 (h2.trans q2) q3 q4 q5⟩

theorem TC.drawn {id : Nat} {fr : Frame} {H : Hp} {Q : AX → Frame → Hp → Prop} (hm : P.follows .mixedOrders = true)
    (h : AAny P ops (Q .normal) ops.size (Array.replicate ops.size false) fr H) : TC P (.region id ops true) fr H Q :=
  ⟨fun E μ w a hd hR hF => wp_region_any hm (AAny.sound _ _ _ _ h E μ _ a _ hd (hR.drew _) hF fun a' w' fr' H' μ' h1 h2 h3 h4 h5 => ⟨.normal, fr', H', μ', rfl, h1, h2, h3, h4, h5⟩)⟩

theorem AAny.all {Q : Frame → Hp → Prop} {rs : List Nat} {fuel : Nat} {listed : Array Bool} {fr : Frame} {H : Hp} (hr : Region.ready .any ops listed = rs) (hne : rs ≠ [])
    (h : ∀ i ∈ rs, AStep P ops i (AAny P ops Q fuel (listed.setIfInBounds i true)) fr H) : AAny P ops Q (fuel + 1) listed fr H :=
  ⟨fun h0 => absurd (hr ▸ h0) hne, hr ▸ h⟩
theorem AAny.done {Q : Frame → Hp → Prop} {listed : Array Bool} {fr : Frame} {H : Hp} (hr : Region.ready .any ops listed = []) (h : Q fr H) : ∀ fuel, AAny P ops Q fuel listed fr H
  | 0 => ⟨hr, h⟩
  | _ + 1 => ⟨fun _ => h, by rw [hr]; simp⟩
theorem AStep.val {i : Nat} {o : Oper} {K : Frame → Hp → Prop} {fr : Frame} {H H' : Hp} {v : Value} (hi : ops[i]? = some o) (hg : guardOk ops fr o = true) (hl : lop P o.op fr H = some (.val v H')) (h : K (putF fr o.dst v) H') : AStep P ops i K fr H := by
  unfold AStep; simp only [hi, hg, hl]; exact h
theorem AStep.off {i : Nat} {o : Oper} {K : Frame → Hp → Prop} {fr : Frame} {H : Hp} (hi : ops[i]? = some o) (hg : guardOk ops fr o = false) (h : K (putF fr o.dst undef) H) : AStep P ops i K fr H := by
  unfold AStep; simp only [hi, hg]; exact h
theorem AStep.call {i : Nat} {o : Oper} {K : Frame → Hp → Prop} {fr : Frame} {H H' : Hp} {f : FuncId} {args : List Value} (hi : ops[i]? = some o) (hg : guardOk ops fr o = true) (hl : lop P o.op fr H = some (.call f args H'))
    (h : CO P f args H' fun v H2 => K (putF fr o.dst v) H2) : AStep P ops i K fr H := by
  unfold AStep; simp only [hi, hg, hl]; exact h

/-- What an operation comes to hangs on what it looks at. -/
theorem getD_putF {fr : Frame} {d : Option Tmp} {v : Value} {t : Tmp} (h : ∀ e, d = some e → e ≠ t) : (putF fr d v).getD t undef = fr.getD t undef := by
  cases d with
  | none => rfl
  | some e =>
    have := h e rfl
    simp only [putF, List.getD_eq_getElem?_getD]
    rw [List.getElem?_set_ne this]
theorem ao_putF {H : Hp} {fr : Frame} {d : Option Tmp} {v : Value} {x : Operand} (h : ∀ e, d = some e → x ≠ .tmp e) : ao P H (putF fr d v) x = ao P H fr x := by
  cases x with
  | tmp t => simp only [ao]; rw [getD_putF fun e he => fun h2 => h e he (by subst h2; rfl)]
  | _ => rfl
theorem aos_congr {H : Hp} {fr fr' : Frame} : ∀ {l : List Operand}, (∀ x ∈ l, ao P H fr x = ao P H fr' x) → aos P H fr l = aos P H fr' l
  | [], _ => rfl
  | x :: r, h => by
    simp only [aos]
    rw [h x (by simp), aos_congr fun y hy => h y (by simp [hy])]
theorem mapO_congr {g g' : Operand → Option Value} : ∀ {l : List (Nat × Operand)}, (∀ x ∈ l.map (·.2), g x = g' x) → mapO g l = mapO g' l
  | [], _ => rfl
  | (i, x) :: r, h => by
    simp only [mapO]
    rw [h x (by simp), mapO_congr fun y hy => h y (by simp at hy ⊢; exact .inr hy)]
theorem lop_congr {o : Op} {fr fr' : Frame} {H : Hp} (h : ∀ x ∈ o.operands, ao P H fr x = ao P H fr' x) : lop P o fr H = lop P o fr' H := by
  cases o <;> simp only [Op.operands] at h <;> simp only [lop, lop1, onlyVal]
  case call c =>
    have h1 : aos P H fr c.args.toList = aos P H fr' c.args.toList := aos_congr fun x hx => h x (by simp [Call.operands]; exact .inr (by simpa using hx))
    unfold lcall
    rw [h1]
    cases hc : c.callee with
    | value f => simp only [h f (by simp [Call.operands, hc])]
    | invoke r m => simp only [h r (by simp [Call.operands, hc])]
    | builtin b => rfl
  case build t ps => rw [mapO_congr fun x hx => h x (by simpa using hx)]
  case buildSlice t n ps => rw [mapO_congr fun x hx => h x (by simpa using hx)]
  case makeFunc fn first captured => rw [aos_congr fun x hx => h x (by simp; exact .inl (by simpa using hx)), aos_congr (l := captured.toList) fun x hx => h x (by simp; exact .inr (by simpa using hx))]
  case makeMap t r => cases r <;> simp_all
  case slice t x lo hi mx => cases lo <;> cases hi <;> cases mx <;> simp_all [optO]
  all_goals (first | rfl | (simp_all; done))

theorem lop_put {o : Oper} {fr : Frame} {d : Option Tmp} {v : Value} {H : Hp} (h : ∀ e, d = some e → e ∉ o.looksAt ops) : lop P o.op (putF fr d v) H = lop P o.op fr H :=
  lop_congr fun x hx => ao_putF fun e he hxe => h e he (by
    subst hxe
    exact List.mem_append_left _ (List.mem_filterMap.2 ⟨.tmp e, by simpa using hx, rfl⟩))
theorem guard_put {o : Oper} {fr : Frame} {d : Option Tmp} {v : Value} (h : ∀ e, d = some e → e ∉ o.looksAt ops) : guardOk ops (putF fr d v) o = guardOk ops fr o := by
  unfold guardOk
  cases hg : o.guard with
  | none => rfl
  | some p =>
    obtain ⟨j, want⟩ := p
    simp only
    cases ht : (ops[j]?).bind (·.dst) with
    | none => rfl
    | some t =>
      cases d with
      | none => rfl
      | some e =>
        have hne : e ≠ t := fun he => h e rfl (by subst he; simp [Oper.looksAt, hg, ht])
        simp only [putF, Option.bind_some]
        rw [List.getElem?_set_ne hne]
theorem putF_comm {x y : Option Tmp} {fr : Frame} (v u : Value) (h : ∀ d, x = some d → y ≠ some d) : putF (putF fr x v) y u = putF (putF fr y u) x v := by
  cases x with
  | none => rfl
  | some d => cases y with
    | none => rfl
    | some e =>
      have hne : d ≠ e := fun he => h d rfl (by rw [he])
      simp only [putF]
      exact List.set_comm _ _ hne

/-- An operation's value, wherever the heap is as it must be. -/
def Gives (P : Program) (ops : Array Oper) (I : Hp → Prop) (o : Oper) (v : Value) (fr : Frame) : Prop :=
  (guardOk ops fr o = true ∧ ((∀ H, I H → lop P o.op fr H = some (.val v H)) ∨ ∃ f args, (∀ H, I H → lop P o.op fr H = some (.call f args H)) ∧ ∀ H, I H → CO P f args H fun u H' => u = v ∧ H' = H)) ∨
  (guardOk ops fr o = false ∧ v = undef)
theorem Gives.step {I : Hp → Prop} {i : Nat} {o : Oper} {v : Value} {fr : Frame} {H : Hp} {K : Frame → Hp → Prop} (hi : ops[i]? = some o) (hy : Gives P ops I o v fr) (hI : I H) (h : K (putF fr o.dst v) H) : AStep P ops i K fr H := by
  rcases hy with ⟨hg, hv | ⟨f, args, hv, hc⟩⟩ | ⟨hg, rfl⟩
  · exact AStep.val hi hg (hv H hI) h
  · exact AStep.call hi hg (hv H hI) ((hc H hI).mono fun u H' ⟨e1, e2⟩ => by subst e1; subst e2; exact h)
  · exact AStep.off hi hg h

/-- What an operation leaves as it must be. -/
def Leaves (P : Program) (ops : Array Oper) (I : Hp → Prop) (j : Nat) : Prop := ∀ fr H (K : Frame → Hp → Prop), I H → AStep P ops j K fr H → AStep P ops j (fun fr' H' => I H' ∧ K fr' H') fr H

theorem AStep_put {I : Hp → Prop} {j : Nat} {oi oj : Oper} {v : Value} (hj : ops[j]? = some oj) (hap : oi.apart ops oj = true) (hL : Leaves P ops I j) {K : Frame → Hp → Prop} {fr : Frame} {H : Hp} (hI : I H)
    (hy : Gives P ops I oi v fr) (h : AStep P ops j K (putF fr oi.dst v) H) : AStep P ops j (fun fr' H' => I H' ∧ Gives P ops I oi v fr' ∧ K (putF fr' oi.dst v) H') fr H := by
  obtain ⟨h1, h2, h3⟩ := Oper.apart_spec hap
  have keep : ∀ u, Gives P ops I oi v (putF fr oj.dst u) := fun u => by
    unfold Gives at hy ⊢
    rw [guard_put h3]
    simp only [lop_put h3]
    exact hy
  refine hL fr H _ hI ?_
  unfold AStep at h ⊢
  simp only [hj] at h ⊢
  rw [guard_put h1, lop_put h1] at h
  split at h
  · split at h
    · exact ⟨keep _, by rw [← putF_comm _ _ h2]; exact h⟩
    · exact h.mono fun u H2 hk => ⟨keep _, by rw [← putF_comm _ _ h2]; exact hk⟩
    · exact h
  · exact ⟨keep _, by rw [← putF_comm _ _ h2]; exact h⟩

theorem AAny.first {I : Hp → Prop} {Q : Frame → Hp → Prop} {i : Nat} {oi : Oper} {v : Value} (hi : ops[i]? = some oi) :
    ∀ (fuel : Nat) (listed : Array Bool) (fr : Frame) (H : Hp),
      (∀ j oj, ops[j]? = some oj → j ≠ i → listed.getD j true = false → (∀ e ∈ oj.after, Region.binds .any e = true → e.on ≠ i) → oi.apart ops oj = true ∧ Leaves P ops I j) →
      i ∈ Region.ready .any ops listed → I H → Gives P ops I oi v fr →
      AAny P ops Q fuel (listed.setIfInBounds i true) (putF fr oi.dst v) H → AAny P ops Q (fuel + 1) listed fr H := by
  intro fuel
  induction fuel with
  | zero =>
    intro listed fr H _ hr hI hy h
    refine ⟨fun h0 => (by rw [h0] at hr; cases hr), fun j hj => ?_⟩
    by_cases hji : j = i
    · subst hji; exact hy.step hi hI h
    · have := ready_mono hj hji
      rw [h.1] at this
      cases this
  | succ fuel ih =>
    intro listed fr H hfree hr hI hy h
    refine ⟨fun h0 => (by rw [h0] at hr; cases hr), fun j hj => ?_⟩
    by_cases hji : j = i
    · subst hji; exact hy.step hi hI h
    · have h1 := h.2 j (ready_mono hj hji)
      obtain ⟨hjun, oj, hoj, hall⟩ := mem_ready.1 hj
      have hnot : ∀ e ∈ oj.after, Region.binds .any e = true → e.on ≠ i := fun e he hb heq => by
        have h1 := hall e he hb
        have h0 := (mem_ready.1 hr).1
        rw [heq] at h1
        rcases Nat.lt_or_ge i listed.size with h' | h'
        · simp [h'] at h0 h1; rw [h0] at h1; cases h1
        · simp [Array.getElem?_eq_none h'] at h1
      obtain ⟨hap, hL⟩ := hfree j oj hoj hji hjun hnot
      have h2 := AStep_put hoj hap hL hI hy h1
      have hfree' : ∀ k ok, ops[k]? = some ok → k ≠ i → (listed.setIfInBounds j true).getD k true = false →
          (∀ e ∈ ok.after, Region.binds .any e = true → e.on ≠ i) → oi.apart ops ok = true ∧ Leaves P ops I k := fun k ok hk hki hun hno => by
        refine hfree k ok hk hki ?_ hno
        by_cases hjk : j = k
        · subst hjk; exact hjun
        · rw [getD_set_ne true hjk] at hun; exact hun
      refine AStep.mono (fun fr' H' h3 => ih (listed.setIfInBounds j true) fr' H' hfree' (ready_mono hr (Ne.symm hji)) h3.1 h3.2.1 ?_) h2
      rw [Array.setIfInBounds_comm _ _ hji]
      exact h3.2.2

/-- Operations that turn nothing in the heap and call nothing. -/
def reads : Op → Bool
  | .move _ | .assign _ | .pick .. | .load .. | .nilCheck _ | .binOp .. | .unOp .. | .makeInterface .. | .makeFunc .. | .fieldAddr .. | .field .. | .indexAddr .. | .index .. | .lookup .. | .typeAssert .. | .extract .. => true
  | .call c => match c.callee with
    | .builtin .len => true
    | _ => false
  | _ => false

/-- Whatever comes of it, the heap is as it was, and nothing is called. -/
def SameH (r : Option LRes) (H : Hp) : Prop := ∀ x, r = some x → ∃ v, x = .val v H
theorem SameH.none {H : Hp} : SameH .none H := fun _ h => by cases h
theorem SameH.val {H : Hp} {v : Value} : SameH (some (.val v H)) H := fun _ h => ⟨v, by cases h; rfl⟩
theorem SameH.bind {α : Type} {H : Hp} {o : Option α} {g : α → Option LRes} (h : ∀ x, SameH (g x) H) : SameH (o.bind g) H := by
  cases o with
  | none => exact SameH.none
  | some x => exact h x
theorem SameH.only {H : Hp} {r : Option LRes} (h : SameH r H) : SameH (onlyVal r) H := by
  intro x hx
  cases r with
  | none => cases hx
  | some y => obtain ⟨v, rfl⟩ := h y rfl; exact ⟨v, by simpa [onlyVal] using hx.symm⟩
theorem reads_H {o : Op} (h : reads o = true) (fr : Frame) (H : Hp) : SameH (lop P o fr H) H := by
  cases o <;> simp only [reads] at h <;> try (cases h; done)
  case call c =>
    simp only [lop, lcall]
    refine SameH.bind fun args => ?_
    split at h
    · rename_i hc
      simp only [hc, lbuiltin]
      refine SameH.only ?_
      repeat' first
        | exact SameH.none
        | exact SameH.val
        | (refine SameH.bind fun _ => ?_)
        | (split)
        | (unfold llen)
    · cases h
  all_goals
    simp only [lop, lop1]
    refine SameH.only ?_
    repeat' first
      | exact SameH.none
      | exact SameH.val
      | (refine SameH.bind fun _ => ?_)
      | (split)
      | (simp only [lload, lfieldAddr, lfield, lindexAddr, lindex, lassert, llookup])

theorem reads_leaves {j : Nat} {o : Oper} (hj : ops[j]? = some o) (h : reads o.op = true) (H : Hp) : Leaves P ops (fun H' => H' = H) j := by
  intro fr H0 K e hs
  subst e
  unfold AStep at hs ⊢
  simp only [hj] at hs ⊢
  split
  · rename_i hg
    rw [hg] at hs
    simp only at hs
    split at hs
    · rename_i v H' hl
      obtain ⟨v', hv⟩ := reads_H h fr H0 _ hl
      cases hv
      simp only [hl]
      exact ⟨trivial, hs⟩
    · rename_i f args H' hl
      obtain ⟨v', hv⟩ := reads_H h fr H0 _ hl
      cases hv
    · exact hs.elim
  · rename_i hg
    rw [hg] at hs
    exact ⟨trivial, hs⟩

/-- All that may come before or behind it only reads. -/
def freeReads (ops : Array Oper) (listed : Array Bool) (i : Nat) : Bool :=
  (List.range ops.size).all fun j => j == i || listed.getD j true || match ops[j]? with
    | some oj => oj.after.any (fun e => Region.binds .any e && e.on == i) || reads oj.op
    | none => true

theorem AAny.takeReads {Q : Frame → Hp → Prop} {i : Nat} {oi : Oper} {v : Value} {fuel : Nat} {listed : Array Bool} {fr : Frame} {H : Hp} (hi : ops[i]? = some oi)
    (hf : Region.free .any ops listed i = true) (hq : freeReads ops listed i = true) (hr : (Region.ready .any ops listed).contains i = true) (hy : Gives P ops (fun H' => H' = H) oi v fr)
    (h : AAny P ops Q fuel (listed.setIfInBounds i true) (putF fr oi.dst v) H) : AAny P ops Q (fuel + 1) listed fr H :=
  AAny.first (I := fun H' => H' = H) hi fuel listed fr H (fun j oj hj hne hun hno => ⟨Region.free_spec hi hf j oj hj hne hun hno, by
    refine reads_leaves hj ?_ H
    simp only [freeReads, List.all_eq_true, List.mem_range] at hq
    have h1 := hq j (Array.getElem?_eq_some_iff.1 hj).1
    simp only [hj, Bool.or_eq_true, beq_iff_eq, hne, false_or, hun, Bool.false_eq_true] at h1
    rcases h1 with h1 | h1
    · obtain ⟨e, he, hb⟩ := Array.any_eq_true'.1 h1
      simp only [Bool.and_eq_true, beq_iff_eq] at hb
      exact absurd hb.2 (hno e he hb.1)
    · exact h1⟩) (by simpa using hr) rfl hy h
theorem AAny.take {Q : Frame → Hp → Prop} {i : Nat} {oi : Oper} {v : Value} {fuel : Nat} {listed : Array Bool} {fr : Frame} {H : Hp} (hi : ops[i]? = some oi)
    (hf : Region.free .any ops listed i = true) (hr : (Region.ready .any ops listed).contains i = true) (hy : Gives P ops (fun _ => True) oi v fr)
    (h : AAny P ops Q fuel (listed.setIfInBounds i true) (putF fr oi.dst v) H) : AAny P ops Q (fuel + 1) listed fr H :=
  AAny.first (I := fun _ => True) hi fuel listed fr H (fun j oj hj hne hun hno => ⟨Region.free_spec hi hf j oj hj hne hun hno, fun fr H K _ h => h.mono fun _ _ h => ⟨trivial, h⟩⟩) (by simpa using hr) trivial hy h

/-- Nothing that was known is otherwise. -/
structure Hp.le (H H' : Hp) : Prop where
  n : H.n ≤ H'.n
  g : H'.g = H.g
  f : ∀ b x, H.f b = some x → H'.f b = some x
theorem Hp.le.refl (H : Hp) : H.le H := ⟨Nat.le_refl _, rfl, fun _ _ h => h⟩
theorem Hp.le.trans {A B C : Hp} (h : A.le B) (k : B.le C) : A.le C := ⟨Nat.le_trans h.n k.n, k.g.trans h.g, fun b x hb => k.f b x (h.f b x hb)⟩

theorem VR.back {μ μ' : List Info} (hx : Ext μ μ') {v v' : Value} (h : VR μ' v v') : (∃ u, VR μ v u) → VR μ v v' := by
  induction h with
  | bool b => intro _; exact .bool b
  | int k n => intro _; exact .int k n
  | float k b => intro _; exact .float k b
  | string s => intro _; exact .string s
  | ptr0 => intro _; exact .ptr0
  | ptr h => rintro ⟨u, hu⟩; cases hu with | ptr h2 => have := hx _ _ h2; rw [h] at this; cases this; exact .ptr h2
  | sl0 => intro _; exact .sl0
  | sl h h1 h2 => rintro ⟨u, hu⟩; cases hu with | sl h3 _ _ => have := hx _ _ h3; rw [h] at this; cases this; exact .sl h3 h1 h2
  | map0 => intro _; exact .map0
  | map h => rintro ⟨u, hu⟩; cases hu with | map h2 => have := hx _ _ h2; rw [h] at this; cases this; exact .map h2
  | func h1 _ h2 _ i1 i2 =>
    rintro ⟨u, hu⟩
    cases hu with
    | func g1 g2 g3 g4 =>
      refine .func h1 (fun k v v' a b => i1 k v v' a b ?_) h2 (fun k v v' a b => i2 k v v' a b ?_)
      · have hk := (Array.getElem?_eq_some_iff.1 a).1
        exact ⟨_, g2 k v _ a (Array.getElem?_eq_getElem (by rw [← g1]; exact hk))⟩
      · have hk := (Array.getElem?_eq_some_iff.1 a).1
        exact ⟨_, g4 k v _ a (Array.getElem?_eq_getElem (by rw [← g3]; exact hk))⟩
  | nilFunc => intro _; exact .nilFunc
  | iface h ih => rintro ⟨u, hu⟩; cases hu with | iface h2 => exact .iface (ih ⟨_, h2⟩)
  | nilIface => intro _; exact .nilIface
  | agg h1 _ i1 =>
    rintro ⟨u, hu⟩
    cases hu with
    | agg g1 g2 =>
      refine .agg h1 fun k v v' a b => i1 k v v' a b ?_
      have hk := (Array.getElem?_eq_some_iff.1 a).1
      exact ⟨_, g2 k v _ a (Array.getElem?_eq_getElem (by rw [← g1]; exact hk))⟩
  | tuple h1 _ i1 =>
    rintro ⟨u, hu⟩
    cases hu with
    | tuple g1 g2 =>
      refine .tuple h1 fun k v v' a b => i1 k v v' a b ?_
      have hk := (Array.getElem?_eq_some_iff.1 a).1
      exact ⟨_, g2 k v _ a (Array.getElem?_eq_getElem (by rw [← g1]; exact hk))⟩

theorem BR.back {μ μ' : List Info} (hx : Ext μ μ') {i : Info} {w w' : World} {x : Blk} (h0 : BR μ i w x) (h : BR μ' i w' x) : BR μ i w' x := by
  cases x with
  | map es =>
    obtain ⟨A0, c0, _, ⟨l0, _, hl0, hr0⟩, _, _, _⟩ := h0
    obtain ⟨A, c, h1, ⟨l, hp, hl, hr⟩, h3, h4, h5⟩ := h
    refine ⟨A, c, h1, ⟨⟨l, hp, hl, fun k x e a b => ⟨(hr k x e a b).1, (hr k x e a b).2.1, (hr k x e a b).2.2.back hx ?_⟩⟩, h3, h4, h5⟩⟩
    have hk := (List.getElem?_eq_some_iff.1 a).1
    exact ⟨_, (hr0 k x _ a (List.getElem?_eq_getElem (by rw [← hl0]; exact hk))).2.2⟩
  | iter s pos => exact h
  | cells r e cs =>
    obtain ⟨_, _, _, _, _, _, _, h0, _⟩ := h0
    obtain ⟨C, e, fz, h1, h2, h3, h4, h5, h6⟩ := h
    exact ⟨C, e, fz, h1, h2, h3, h4, fun k v hk => let ⟨v', a, b⟩ := h5 k v hk; ⟨v', a, b.back hx (let ⟨u, _, c⟩ := h0 k v hk; ⟨u, c⟩)⟩, h6⟩
  | ints r k xs =>
    obtain ⟨_, _, _, _, _, _, _, h0, _⟩ := h0
    obtain ⟨C, e, fz, h1, h2, h3, h4, h5, h6⟩ := h
    exact ⟨C, e, fz, h1, h2, h3, h4, fun k v hk => let ⟨v', a, b⟩ := h5 k v hk; ⟨v', a, b.back hx (let ⟨u, _, c⟩ := h0 k v hk; ⟨u, c⟩)⟩, h6⟩

/-- What was made meanwhile is forgotten. -/
theorem Rel.forget {E : Env} {μ μ' : List Info} {H H' : Hp} {w w' : World} (h : Rel P E μ H w) (h' : Rel P E μ' H' w') (hx : Ext μ μ') (hH : H.le H') : Rel P E μ H w' :=
  ⟨h'.os, h'.tape, h'.out, h'.kept, h.len, h.glob, fun b i hi => h'.lt b i (hx b i hi), fun b x hb => by
      obtain ⟨i, h1, h2⟩ := h.blk b x hb
      obtain ⟨i', h3, h4⟩ := h'.blk b x (hH.f b x hb)
      rw [hx b i h1] at h3; cases h3
      exact ⟨i, h1, h2.back hx h4⟩,
    fun b x i hb hr hi => h'.own b x i (hH.f b x hb) hr (hx b i hi), fun b c x y i j hne hb hc hr hi hj => h'.sep b c x y i j hne (hH.f b x hb) (hH.f c y hc) hr (hx b i hi) (hx c j hj)⟩

/-- A value that leads nowhere, part by part. -/
def flat : Value → Bool
  | .tuple vs => vs.toList.all scal
  | .agg vs => vs.toList.all scal
  | v => scal v
theorem flat_VR {v : Value} (h : flat v = true) (μ : List Info) : VR μ v v := by
  cases v with
  | tuple vs => exact .tuple rfl fun k a b x y => by rw [x] at y; cases y; exact VR.of_scal μ (List.all_eq_true.1 h a (List.mem_of_getElem? (by simpa using x)))
  | agg vs => exact .agg rfl fun k a b x y => by rw [x] at y; cases y; exact VR.of_scal μ (List.all_eq_true.1 h a (List.mem_of_getElem? (by simpa using x)))
  | _ => exact VR.of_scal μ h

/-- A call that hands back a value that leads nowhere, and turns nothing that is known, is as if nothing had been made. -/
theorem CF.forget {f : FuncId} {args : List Value} {H : Hp} {R : Value → Prop} (h : CF P f args H fun v H' => (R v ∧ flat v = true) ∧ H.le H') : CF P f args H fun v H' => R v ∧ H' = H := by
  intro E μ w args' hR hl
  refine (h E μ w args' hR hl).mono fun e w' ⟨v, v', H', μ', h1, ⟨⟨h2, h3⟩, h4⟩, h5, h6, h7⟩ => ?_
  exact ⟨v, v', H, μ, h1, ⟨h2, rfl⟩, Ext.refl μ, h6.back h5 ⟨v, flat_VR h3 μ⟩, hR.forget h7 h5 h4⟩
end
end Go.Lite
