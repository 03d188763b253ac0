/- Lite, part 15: pieces of code, calls, and whole runs. -/
import Derived.Test.YtcndgbaldjcdfaaLite14
import Derived.LoopN
import Derived.Scope
namespace Go.Lite
open Go
set_option linter.unusedSimpArgs false
set_option linter.unusedVariables false

section
variable {P : Program}

def AX.ex : AX → Exit
  | .normal => .normal
  | .exit id => .exit id
  | .ret => .ret

/-- What the model's run comes to, told by the abstract one's. -/
def TPost (P : Program) (E : Env) (μ : List Info) (Q : AX → Frame → Hp → Prop) : Exit → Act → World → Prop := fun e a w =>
  ∃ x fr H μ', e = x.ex ∧ Q x fr H ∧ Ext μ μ' ∧ Rel P E μ' H w ∧ FR μ' fr a ∧ a.defers = []

/-- A piece of code, from slots and a heap on. -/
structure TC (P : Program) (c : Code) (fr : Frame) (H : Hp) (Q : AX → Frame → Hp → Prop) : Prop where
  run : ∀ E μ w a, a.defers = [] → Rel P E μ H w → FR μ fr a → c.wp P (TPost P E μ Q) a w

/-- So many rounds of a loop at the most. -/
def TR (P : Program) (n : Nat) (c : Code) (fr : Frame) (H : Hp) (Q : AX → Frame → Hp → Prop) : Prop :=
  ∀ E μ w a, a.defers = [] → Rel P E μ H w → FR μ fr a → Code.rounds P c (TPost P E μ Q) n a w

/-- A call. -/
def CF (P : Program) (f : FuncId) (args : List Value) (H : Hp) (R : Value → Hp → Prop) : Prop :=
  ∀ E μ w (args' : Array Value), Rel P E μ H w → LR μ args args'.toList →
    Calls P f args' w fun e w' => ∃ v v' H' μ', e = .returned v' ∧ R v H' ∧ Ext μ μ' ∧ VR μ' v v' ∧ Rel P E μ' H' w'

/-- Operations of a region, from slots and a heap on. -/
structure TO (P : Program) (ops : Array Oper) (l : List Oper) (fr : Frame) (H : Hp) (Q : Frame → Hp → Prop) : Prop where
  run : ∀ E μ w a (Qc : Exit → Act → World → Prop), a.defers = [] → Rel P E μ H w → FR μ fr a →
    (∀ a' w' fr' H' μ', Q fr' H' → Ext μ μ' → Rel P E μ' H' w' → FR μ' fr' a' → a'.defers = [] → Qc .normal a' w') → wpList P ops Qc l a w

theorem TPost.mono {E : Env} {μ μ' : List Info} (hx : Ext μ μ') {Q Q' : AX → Frame → Hp → Prop} (hq : ∀ x fr H, Q x fr H → Q' x fr H) {e : Exit} {a : Act} {w : World} (h : TPost P E μ' Q e a w) : TPost P E μ Q' e a w := by
  obtain ⟨x, fr, H, μ2, h1, h2, h3, h4, h5, h6⟩ := h
  exact ⟨x, fr, H, μ2, h1, hq _ _ _ h2, hx.trans h3, h4, h5, h6⟩
theorem TC.mono {c : Code} {fr : Frame} {H : Hp} {Q Q' : AX → Frame → Hp → Prop} (h : TC P c fr H Q) (hq : ∀ x fr H, Q x fr H → Q' x fr H) : TC P c fr H Q' :=
  ⟨fun E μ w a hd hR hF => wp_mono (h.run E μ w a hd hR hF) fun e a w h => h.mono (Ext.refl μ) hq⟩
theorem CF.mono {f : FuncId} {args : List Value} {H : Hp} {R R' : Value → Hp → Prop} (h : CF P f args H R) (hr : ∀ v H, R v H → R' v H) : CF P f args H R' :=
  fun E μ w args' hR hl => (h E μ w args' hR hl).mono fun e w' ⟨v, v', H', μ', h1, h2, h3⟩ => ⟨v, v', H', μ', h1, hr _ _ h2, h3⟩
theorem TO.mono {ops : Array Oper} {l : List Oper} {fr : Frame} {H : Hp} {Q Q' : Frame → Hp → Prop} (h : TO P ops l fr H Q) (hq : ∀ fr H, Q fr H → Q' fr H) : TO P ops l fr H Q' :=
  ⟨fun E μ w a Qc hd hR hF hk => h.run E μ w a Qc hd hR hF fun a' w' fr' H' μ' h1 => hk a' w' fr' H' μ' (hq _ _ h1)⟩

theorem TC.skip {fr : Frame} {H : Hp} {Q : AX → Frame → Hp → Prop} (h : Q .normal fr H) : TC P .skip fr H Q :=
  ⟨fun E μ w a hd hR hF => wp_skip ⟨.normal, fr, H, μ, rfl, h, Ext.refl μ, hR, hF, hd⟩⟩
theorem TC.label {l : Nat} {fr : Frame} {H : Hp} {Q : AX → Frame → Hp → Prop} (h : Q .normal fr H) : TC P (.label l) fr H Q :=
  ⟨fun E μ w a hd hR hF => wp_label ⟨.normal, fr, H, μ, rfl, h, Ext.refl μ, hR, hF, hd⟩⟩
theorem TC.exit {id : Nat} {fr : Frame} {H : Hp} {Q : AX → Frame → Hp → Prop} (h : Q (.exit id) fr H) : TC P (.exit id) fr H Q :=
  ⟨fun E μ w a hd hR hF => wp_exit ⟨.exit id, fr, H, μ, rfl, h, Ext.refl μ, hR, hF, hd⟩⟩
theorem TC.ret {fr : Frame} {H : Hp} {Q : AX → Frame → Hp → Prop} (h : Q .ret fr H) : TC P .ret fr H Q :=
  ⟨fun E μ w a hd hR hF => wp_ret ⟨.ret, fr, H, μ, rfl, h, Ext.refl μ, hR, hF, hd⟩⟩

/-- What comes behind, if the first piece goes on. -/
def thenQ (P : Program) (b : Code) (Q : AX → Frame → Hp → Prop) : AX → Frame → Hp → Prop
  | .normal, fr, H => TC P b fr H Q
  | x, fr, H => Q x fr H
theorem TC.seq {x y : Code} {fr : Frame} {H : Hp} {Q : AX → Frame → Hp → Prop} (h : TC P x fr H (thenQ P y Q)) : TC P (.seq x y) fr H Q := by
  constructor
  intro E μ w a hd hR hF
  refine wp_seq (wp_mono (h.run E μ w a hd hR hF) fun e a' w' ⟨x', fr', H', μ', h1, h2, h3, h4, h5, h6⟩ => ?_)
  subst h1
  cases x' with
  | normal => exact wp_mono (h2.run E μ' w' a' h6 h4 h5) fun e a w h => h.mono h3 fun _ _ _ h => h
  | exit id => exact ⟨.exit id, fr', H', μ', rfl, h2, h3, h4, h5, h6⟩
  | ret => exact ⟨.ret, fr', H', μ', rfl, h2, h3, h4, h5, h6⟩

theorem TC.cond {c : Operand} {x y : Code} {fr : Frame} {H : Hp} {Q : AX → Frame → Hp → Prop} {t : Bool} (hc : ao P H fr c = some (.bool t)) (ht : t = true → TC P x fr H Q) (hf : t = false → TC P y fr H Q) : TC P (.cond c x y) fr H Q := by
  constructor
  intro E μ w a hd hR hF
  have hv := (ao_sound hc hF hR).scal_eq rfl
  exact wp_cond_split hv (fun h => (ht h).run E μ w a hd hR hF) (fun h => (hf h).run E μ w a hd hR hF)

def blockQ (id : Nat) (Q : AX → Frame → Hp → Prop) : AX → Frame → Hp → Prop
  | .exit j, fr, H => if j = id then Q .normal fr H else Q (.exit j) fr H
  | x, fr, H => Q x fr H
theorem TC.block {id : Nat} {c : Code} {fr : Frame} {H : Hp} {Q : AX → Frame → Hp → Prop} (h : TC P c fr H (blockQ id Q)) : TC P (.block id c) fr H Q := by
  constructor
  intro E μ w a hd hR hF
  refine wp_block (wp_mono (h.run E μ w a hd hR hF) fun e a' w' ⟨x', fr', H', μ', h1, h2, h3, h4, h5, h6⟩ => ?_)
  subst h1
  cases x' with
  | normal => exact ⟨.normal, fr', H', μ', rfl, h2, h3, h4, h5, h6⟩
  | ret => exact ⟨.ret, fr', H', μ', rfl, h2, h3, h4, h5, h6⟩
  | exit j =>
    simp only [AX.ex, Exit.inBlock]
    simp only [blockQ] at h2
    split
    · rename_i e; rw [if_pos e] at h2; exact ⟨.normal, fr', H', μ', rfl, h2, h3, h4, h5, h6⟩
    · rename_i e; rw [if_neg e] at h2; exact ⟨.exit j, fr', H', μ', rfl, h2, h3, h4, h5, h6⟩

theorem TC.scope {c : Code} {fr : Frame} {H : Hp} {Q : AX → Frame → Hp → Prop} (h : TC P c fr H Q) : TC P (.scope c) fr H Q := by
  constructor
  intro E μ w a hd hR hF
  refine wp_scope_straight (wp_mono (h.run E μ w a hd hR hF) fun e a' w' ⟨x', fr', H', μ', h1, h2⟩ => ?_)
  subst h1
  cases x' <;> exact ⟨_, fr', H', μ', rfl, h2⟩

/-- What comes behind a round. -/
def roundQ (P : Program) (n : Nat) (b : Code) (Q : AX → Frame → Hp → Prop) : AX → Frame → Hp → Prop
  | .normal, fr, H => TR P n b fr H Q
  | x, fr, H => Q x fr H
theorem TR.succ {n : Nat} {c : Code} {fr : Frame} {H : Hp} {Q : AX → Frame → Hp → Prop} (h : TC P c fr H (roundQ P n c Q)) : TR P (n + 1) c fr H Q := by
  intro E μ w a hd hR hF
  rw [rounds_succ]
  refine wp_mono (h.run E μ w a hd hR hF) fun e a' w' ⟨x', fr', H', μ', h1, h2, h3, h4, h5, h6⟩ => ?_
  subst h1
  cases x' with
  | normal =>
    have hr := h2 E μ' w' a' h6 h4 h5
    have hm : ∀ (m : Nat) (a : Act) (w : World), Code.rounds P c (TPost P E μ' Q) m a w → Code.rounds P c (TPost P E μ Q) m a w := by
      intro m
      induction m with
      | zero => intro a w h; exact h
      | succ m ih =>
        intro a w h
        rw [rounds_succ] at h ⊢
        refine wp_mono h fun e a w h => ?_
        cases e <;> first | exact ih _ _ h | exact TPost.mono h3 (fun _ _ _ h => h) h
    exact hm n a' w' hr
  | exit id => exact ⟨.exit id, fr', H', μ', rfl, h2, h3, h4, h5, h6⟩
  | ret => exact ⟨.ret, fr', H', μ', rfl, h2, h3, h4, h5, h6⟩
theorem TC.loop {n : Nat} {c : Code} {fr : Frame} {H : Hp} {Q : AX → Frame → Hp → Prop} (h : TR P n c fr H Q) : TC P (.loop c) fr H Q :=
  ⟨fun E μ w a hd hR hF => wp_loop_rounds n (h E μ w a hd hR hF)⟩

/-- The guard of an operation. -/
theorem guard_eq {μ : List Info} {ops : Array Oper} {fr : Frame} {a : Act} {o : Oper} (hF : FR μ fr a) : Region.wanted o (yielded ops a.tmps) = guardOk ops fr o := by
  unfold Region.wanted guardOk
  cases o.guard with
  | none => rfl
  | some p =>
    obtain ⟨j, want⟩ := p
    simp only [yielded]
    cases hd : (ops[j]?).bind (·.dst) with
    | none => simp
    | some t =>
      simp only [Option.bind_some]
      cases hv : fr[t]? with
      | none =>
        have : a.tmps[t]? = none := by
          rw [Array.getElem?_eq_none]
          have h1 := hF.1
          have h2 : fr.length ≤ t := by
            rcases Nat.lt_or_ge t fr.length with h3 | h3
            · rw [List.getElem?_eq_getElem h3] at hv; cases hv
            · exact h3
          simp at h1
          omega
        simp [this]
      | some v =>
        obtain ⟨v', h1, h2⟩ := hF.at_ hv
        have h1 : a.tmps[t]? = some v' := by simpa using h1
        simp only [h1]
        cases h2 <;> simp

theorem FR.put {μ : List Info} {fr : Frame} {a : Act} (hF : FR μ fr a) {v v' : Value} (hv : VR μ v v') (d : Option Tmp) : FR μ (putF fr d v) (a.put d v') := by
  cases d with
  | none => exact hF
  | some d =>
    unfold FR putF Act.put
    simp only [Array.toList_setIfInBounds]
    exact LR.set hF hv d
theorem put_defers (a : Act) (d : Option Tmp) (v : Value) : (a.put d v).defers = a.defers := by cases d <;> rfl

theorem TO.nil {ops : Array Oper} {fr : Frame} {H : Hp} {Q : Frame → Hp → Prop} (h : Q fr H) : TO P ops [] fr H Q :=
  ⟨fun E μ w a Qc hd hR hF hk => hk a w fr H μ h (Ext.refl μ) hR hF hd⟩

theorem TO.off {ops : Array Oper} {o : Oper} {rest : List Oper} {fr : Frame} {H : Hp} {Q : Frame → Hp → Prop} (hg : guardOk ops fr o = false) (h : TO P ops rest (putF fr o.dst undef) H Q) : TO P ops (o :: rest) fr H Q := by
  constructor
  intro E μ w a Qc hd hR hF hk
  unfold wpList
  rw [guard_eq hF, hg]
  simp only [Bool.false_eq_true, if_false]
  exact h.run E μ w _ Qc (by rw [put_defers]; exact hd) hR (hF.put undef_VR _) hk

theorem TO.val {ops : Array Oper} {o : Oper} {rest : List Oper} {fr : Frame} {H H' : Hp} {v : Value} {Q : Frame → Hp → Prop} (hg : guardOk ops fr o = true) (hl : lop P o.op fr H = some (.val v H')) (h : TO P ops rest (putF fr o.dst v) H' Q) :
    TO P ops (o :: rest) fr H Q := by
  constructor
  intro E μ w a Qc hd hR hF hk
  unfold wpList
  rw [guard_eq hF, hg]
  simp only [if_true]
  left
  obtain ⟨nx, v', w', μ', h1, h2, h3, h4, h5⟩ := lop_sound hl hF hR
  have hnext := h.run E μ' w' (a.put o.dst v') Qc (by rw [put_defers]; exact hd) h5 (FR.put (LR.mono h3 hF) h4 _) (fun a' w2 fr' H2 μ2 q1 q2 q3 q4 q5 => hk a' w2 fr' H2 μ2 q1 (h3.trans q2) q3 q4 q5)
  unfold Oper.wp
  rw [h1]
  rcases h2 with rfl | ⟨rfl, rfl⟩
  · exact hnext
  · exact hnext

/-- No function of the program is one that the model's machine answers by itself. -/
def NoOwn (P : Program) : Prop := ∀ (f : FuncId) (fn : Func), P.funcs[f]? = some fn → fn.body.isSome = true → (fn.name == "runtime.NumGoroutine") = false

theorem run_callFunc (hN : NoOwn P) {f : FuncId} {fn : Func} {args : Array Value} {w : World} (hf : P.funcs[f]? = some fn) (hb : fn.body.isSome = true) : (callFunc f args).run P w = .ok (.enter f args) w := by
  unfold callFunc
  have hn := hN f fn hf hb
  have hb' : fn.body.isNone = false := by cases h : fn.body <;> simp [h] at hb ⊢
  simp only [Sem.run_bind, run_program, Result.andThen_ok, hf, hn, hb', Bool.false_eq_true, if_false, Sem.run_pure]

/-- A call as an operation makes it: of a function with a body, or of one that the model answers at once. -/
def CO (P : Program) (f : FuncId) (args : List Value) (H : Hp) (R : Value → Hp → Prop) : Prop :=
  ∀ E μ w (args' : Array Value), Rel P E μ H w → LR μ args args'.toList →
    ((callFunc f args').run P w = .ok (.enter f args') w ∧ Calls P f args' w fun e w' => ∃ v v' H' μ', e = .returned v' ∧ R v H' ∧ Ext μ μ' ∧ VR μ' v v' ∧ Rel P E μ' H' w') ∨
    ∃ v v' H' μ' w', (callFunc f args').run P w = .ok (.value v') w' ∧ R v H' ∧ Ext μ μ' ∧ VR μ' v v' ∧ Rel P E μ' H' w'
theorem CF.co (hN : NoOwn P) {f : FuncId} {fn : Func} {args : List Value} {H : Hp} {R : Value → Hp → Prop} (hf : P.funcs[f]? = some fn) (hb : fn.body.isSome = true) (h : CF P f args H R) : CO P f args H R :=
  fun E μ w args' hR hl => .inl ⟨run_callFunc hN hf hb, h E μ w args' hR hl⟩
theorem CO.mono {f : FuncId} {args : List Value} {H : Hp} {R R' : Value → Hp → Prop} (h : CO P f args H R) (hr : ∀ v H, R v H → R' v H) : CO P f args H R' := by
  intro E μ w args' hR hl
  rcases h E μ w args' hR hl with ⟨h1, h2⟩ | ⟨v, v', H', μ', w', h1, h2, h3⟩
  · exact .inl ⟨h1, h2.mono fun e w' ⟨v, v', H', μ', q1, q2, q3⟩ => ⟨v, v', H', μ', q1, hr _ _ q2, q3⟩⟩
  · exact .inr ⟨v, v', H', μ', w', h1, hr _ _ h2, h3⟩

theorem TO.call {ops : Array Oper} {o : Oper} {rest : List Oper} {fr : Frame} {H H' : Hp} {f : FuncId} {args : List Value} {Q : Frame → Hp → Prop} (hg : guardOk ops fr o = true) (hl : lop P o.op fr H = some (.call f args H'))
    (h : CO P f args H' fun v H2 => TO P ops rest (putF fr o.dst v) H2 Q) : TO P ops (o :: rest) fr H Q := by
  constructor
  intro E μ w a Qc hd hR hF hk
  unfold wpList
  rw [guard_eq hF, hg]
  simp only [if_true]
  left
  obtain ⟨rfl, args', h1, h2⟩ := lop_sound hl hF hR
  unfold Oper.wp
  rw [h1]
  rcases h E μ w args' hR h2 with ⟨h3, h4⟩ | ⟨v, v', H2, μ', w', h3, q2, q3, q4, q5⟩
  · rw [h3, Oper.upon_enter]
    refine h4.mono fun e w' ⟨v, v', H2, μ', q1, q2, q3, q4, q5⟩ => ?_
    subst q1
    exact (q2 : TO _ _ _ _ _ _).run E μ' w' (a.put o.dst v') Qc (by rw [put_defers]; exact hd) q5 (FR.put (LR.mono q3 hF) q4 _) (fun a' w2 fr' H2 μ2 r1 r2 r3 r4 r5 => hk a' w2 fr' H2 μ2 r1 (q3.trans r2) r3 r4 r5)
  · rw [h3, Oper.upon_value]
    exact (q2 : TO _ _ _ _ _ _).run E μ' w' (a.put o.dst v') Qc (by rw [put_defers]; exact hd) q5 (FR.put (LR.mono q3 hF) q4 _) (fun a' w2 fr' H2 μ2 r1 r2 r3 r4 r5 => hk a' w2 fr' H2 μ2 r1 (q3.trans r2) r3 r4 r5)

theorem TC.region {id : Nat} {ops : Array Oper} {fr : Frame} {H : Hp} {Q : AX → Frame → Hp → Prop} (h : TO P ops ops.toList fr H (Q .normal)) : TC P (.region id ops false) fr H Q :=
  ⟨fun E μ w a hd hR hF => wp_region_list (h.run E μ w a _ hd hR hF fun a' w' fr' H' μ' h1 h2 h3 h4 h5 => ⟨.normal, fr', H', μ', rfl, h1, h2, h3, h4, h5⟩)⟩

/-- What a function hands back. -/
theorem lresults_sound {fn : Func} {fr : Frame} {H : Hp} {v : Value} (h : lresults P fn fr H = some v) {E : Env} {μ : List Info} {w : World} {a : Act} (hR : Rel P E μ H w) (hF : FR μ fr a) : ∃ v', (results fn a.tmps).run P w = .ok v' w ∧ VR μ v v' := by
  have hslot : ∀ t : Nat, VR μ (fr.getD t undef) (a.tmps.getD t undef) := fun t => ao_sound (x := .tmp t) (P := P) rfl hF hR
  have hgo : ∀ (rs : List ResultVar) (l : List Value), lresults.go P fr H rs = some l →
      ∃ l', (rs.mapM (fun | .tmp t => pure (a.tmps.getD t undef) | .cell x t => do loadVar t (← asAddr (a.tmps.getD x undef))) : Sem (List Value)).run P w = .ok l' w ∧ LR μ l l' := by
    intro rs
    induction rs with
    | nil => intro l hl; simp [lresults.go] at hl; subst hl; exact ⟨[], by simp, LR.nil μ⟩
    | cons r rs ih =>
      intro l hl
      cases r with
      | tmp t =>
        simp only [lresults.go, Option.bind_eq_some_iff] at hl
        obtain ⟨l1, h1, h2⟩ := hl
        simp at h2; subst h2
        obtain ⟨l', h3, h4⟩ := ih l1 h1
        exact ⟨_, by simp only [List.mapM_cons, Sem.run_bind, Sem.run_pure, Result.andThen_ok, h3], LR.cons (hslot t) h4⟩
      | cell x t =>
        simp only [lresults.go] at hl
        split at hl
        · rename_i u _ hu
          simp only [Option.bind_eq_some_iff] at hl
          obtain ⟨l1, h1, h2⟩ := hl
          simp at h2; subst h2
          obtain ⟨l', h3, h4⟩ := ih l1 h1
          obtain ⟨rfl, u', h5, h6⟩ := lload_sound hu (hslot x) hR
          have h7 : ∃ b, a.tmps.getD x undef = .pointer (some b) := by
            have hx := hslot x
            simp only [lload, Option.bind_eq_some_iff] at hu
            obtain ⟨⟨b, o⟩, h8, _⟩ := hu
            obtain ⟨i, _, h9⟩ := addr_inv h8 hx
            exact ⟨_, h9⟩
          obtain ⟨b, h8⟩ := h7
          rw [h8] at h5
          simp only [Instr.loadAt, Instr.sureAddr, Sem.run_bind, Sem.run_pure, Result.andThen_ok] at h5
          have h9 : (asAddr (.pointer (some b))).run P w = .ok b w := rfl
          exact ⟨_, by simp only [List.mapM_cons, Sem.run_bind, Sem.run_pure, Result.andThen_ok, h8, h9, h5, h3], LR.cons h6 h4⟩
        · cases hl
  unfold lresults at h
  simp only [Option.bind_eq_some_iff] at h
  obtain ⟨l, h1, h2⟩ := h
  obtain ⟨l', h3, h4⟩ := hgo _ l h1
  have h5 : (fn.results.mapM (fun | .tmp t => pure (a.tmps.getD t undef) | .cell x t => do loadVar t (← asAddr (a.tmps.getD x undef))) : Sem (Array Value)).run P w = .ok l'.toArray w := by
    rw [Array.mapM_eq_mapM_toList]
    simp only [Sem.run_map, h3, Result.andThen_ok]
  have h6 : (results fn a.tmps).run P w = .ok (if h : l'.toArray.size = 1 then l'.toArray[0] else .tuple l'.toArray) w := by
    unfold results
    simp only [Sem.run_bind]
    refine (congrArg (fun r : Result (Array Value) => r.andThen fun x w' => (Sem.run P (pure (if h : x.size = 1 then x[0] else Value.tuple x)) w')) h5).trans ?_
    rfl
  rw [h6]
  split at h2
  · rename_i u
    cases h2
    obtain ⟨y, ys, rfl, h8, h7⟩ := h4.cons_inv
    have := h7.nil_inv
    subst this
    exact ⟨y, by simp, h8⟩
  · rename_i hne
    cases h2
    refine ⟨.tuple l'.toArray, ?_, VR.mk_tuple h4⟩
    have : ¬ l'.toArray.size = 1 := by
      intro e
      simp at e
      rw [← h4.1] at e
      match l, e, hne with
      | [x], _, hne => exact hne x rfl
    rw [dif_neg this]

/-- A call, by its body. -/
theorem CF.body {f : FuncId} {fn : Func} {c : Code} {args : List Value} {H : Hp} {R : Value → Hp → Prop} (hf : P.funcs[f]? = some fn) (hb : fn.body = some c)
    (h : TC P c (args ++ List.replicate (fn.ntmps - args.length) undef) H fun x fr H' => (match x with | .exit _ => False | _ => True) ∧ ∃ v, lresults P fn fr H' = some v ∧ R v H') : CF P f args H R := by
  intro E μ w args' hR hl
  refine calls_of_wp hf hb (wp_mono (h.run E μ w _ rfl hR ?_) fun e a' w' ⟨x, fr', H', μ', h1, ⟨h2, v, h3, h4⟩, h5, h6, h7, h8⟩ => ?_)
  · unfold FR
    have : (args' ++ Array.replicate (fn.ntmps - args'.size) undef).toList = args'.toList ++ List.replicate (fn.ntmps - args.length) undef := by
      rw [Array.toList_append, Array.toList_replicate, hl.1, Array.length_toList]
    simp only [this]
    refine hl.append ⟨rfl, fun k v v' p q => ?_⟩
    rw [p] at q; cases q
    rw [List.getElem?_replicate] at p
    split at p
    · cases p; exact undef_VR
    · cases p
  · subst h1
    obtain ⟨v', h9, h10⟩ := lresults_sound h3 h6 h7
    cases x with
    | exit id => exact h2.elim
    | normal => exact ⟨h8, v', h9, v, v', H', μ', rfl, h4, h5, h10, h6⟩
    | ret => exact ⟨h8, v', h9, v, v', H', μ', rfl, h4, h5, h10, h6⟩
end
end Go.Lite
