/- Lite, part 24: regions whose order is drawn, walked in one order. -/
import Derived.Test.YtcndgbaldjcdfaaLite23
namespace Go.Lite
open Go
set_option linter.unusedSimpArgs false
set_option linter.unusedVariables false

section
variable {P : Program} {ops : Array Oper}

/-- Operations one behind the other; of one that is marked: a call that hands back a value and leaves the heap. -/
def ASeq (P : Program) (ops : Array Oper) (Q : Frame → Hp → Prop) : List (Oper × Nat) → Frame → Hp → Prop
  | [], fr, H => Q fr H
  | (o, m) :: r, fr, H => match guardOk ops fr o with
    | true => match lop P o.op fr H with
      | some (.val v H') => m = 0 ∧ ASeq P ops Q r (putF fr o.dst v) H'
      | some (.call f args H') => match m with
        | 0 => CO P f args H' fun v H2 => ASeq P ops Q r (putF fr o.dst v) H2
        | 1 => ∃ v, CO P f args H (fun u H2 => u = v ∧ H2 = H) ∧ ASeq P ops Q r (putF fr o.dst v) H
        | _ => ∃ v, (∀ H0, CO P f args H0 (fun u H2 => u = v ∧ H2 = H0)) ∧ ASeq P ops Q r (putF fr o.dst v) H
      | none => False
    | false => ASeq P ops Q r (putF fr o.dst undef) H

theorem ASeq.step {Q : Frame → Hp → Prop} {i : Nat} {o : Oper} {r : List (Oper × Nat)} {fr : Frame} {H : Hp} (hi : ops[i]? = some o) (h : ASeq P ops Q ((o, 0) :: r) fr H) : AStep P ops i (ASeq P ops Q r) fr H := by
  unfold AStep
  simp only [hi]
  simp only [ASeq] at h
  split at h
  · rename_i hg
    simp only [hg]
    split at h
    · rename_i hl; simp only [hl]; exact h.2
    · rename_i hl; simp only [hl]; exact h
    · exact h.elim
  · rename_i hg
    simp only [hg]
    exact h
theorem ASeq.val {Q : Frame → Hp → Prop} {o : Oper} {r : List (Oper × Nat)} {fr : Frame} {H H' : Hp} {v : Value} (hg : guardOk ops fr o = true) (hl : lop P o.op fr H = some (.val v H')) (h : ASeq P ops Q r (putF fr o.dst v) H') : ASeq P ops Q ((o, 0) :: r) fr H := by
  simp only [ASeq, hg, hl]; exact ⟨trivial, h⟩
theorem ASeq.off {Q : Frame → Hp → Prop} {o : Oper} {m : Nat} {r : List (Oper × Nat)} {fr : Frame} {H : Hp} (hg : guardOk ops fr o = false) (h : ASeq P ops Q r (putF fr o.dst undef) H) : ASeq P ops Q ((o, m) :: r) fr H := by
  simp only [ASeq, hg]; exact h
theorem ASeq.call {Q : Frame → Hp → Prop} {o : Oper} {r : List (Oper × Nat)} {fr : Frame} {H H' : Hp} {f : FuncId} {args : List Value} (hg : guardOk ops fr o = true) (hl : lop P o.op fr H = some (.call f args H'))
    (h : CO P f args H' fun v H2 => ASeq P ops Q r (putF fr o.dst v) H2) : ASeq P ops Q ((o, 0) :: r) fr H := by
  simp only [ASeq, hg, hl]; exact h
theorem ASeq.callp {Q : Frame → Hp → Prop} {o : Oper} {r : List (Oper × Nat)} {fr : Frame} {H H' : Hp} {f : FuncId} {args : List Value} {v : Value} (hg : guardOk ops fr o = true) (hl : lop P o.op fr H = some (.call f args H'))
    (hc : CO P f args H fun u H2 => u = v ∧ H2 = H) (h : ASeq P ops Q r (putF fr o.dst v) H) : ASeq P ops Q ((o, 1) :: r) fr H := by
  simp only [ASeq, hg, hl]; exact ⟨v, hc, h⟩

theorem ASeq.callq {Q : Frame → Hp → Prop} {o : Oper} {r : List (Oper × Nat)} {fr : Frame} {H H' : Hp} {f : FuncId} {args : List Value} {v : Value} (hg : guardOk ops fr o = true) (hl : lop P o.op fr H = some (.call f args H'))
    (hc : ∀ H0, CO P f args H0 fun u H2 => u = v ∧ H2 = H0) (h : ASeq P ops Q r (putF fr o.dst v) H) : ASeq P ops Q ((o, 2) :: r) fr H := by
  simp only [ASeq, hg, hl]; exact ⟨v, hc, h⟩
/-- Operations that turn nothing in the heap and call nothing: some more. -/
def readOp (P : Program) : Op → Bool
  | .slice .. => true
  | .convert _ d _ => match P.underlying d with
    | some (.slice _) => false
    | _ => true
  | .call c => match c.callee with
    | .builtin .len | .builtin .min | .builtin .max => true
    | _ => false
  | o => reads o
theorem SameH.ite {H : Hp} {c : Prop} [Decidable c] {a b : Option LRes} (h : SameH a H) (k : SameH b H) : SameH (if c then a else b) H := by
  split
  · exact h
  · exact k
theorem readOp_H {o : Op} (h : readOp P o = true) (fr : Frame) (H : Hp) : SameH (lop P o fr H) H := by
  by_cases hr : reads o = true
  · exact reads_H hr fr H
  cases o <;> first | (exact absurd h hr) | skip
  case slice t x lo hi mx =>
    simp only [lop, lop1]
    refine SameH.only ?_
    repeat' first
      | exact SameH.none
      | exact SameH.val
      | (refine SameH.bind fun _ => ?_)
      | (split)
      | (simp only [lsliceAt, lslice])
  case convert s d x =>
    simp only [lop, lop1]
    refine SameH.only (SameH.bind fun v => ?_)
    simp only [readOp] at h
    unfold lconv
    split
    · exact SameH.val
    · exact SameH.val
    · rename_i hd'; rw [hd'] at h; cases h
    · repeat' first
        | exact SameH.none
        | exact SameH.val
        | split
    · exact SameH.none
  case call c =>
    simp only [lop, lcall]
    refine SameH.bind fun args => ?_
    simp only [readOp] at h
    split at h
    · rename_i hc
      exact absurd (show reads (.call c) = true by simp [reads, hc]) hr
    · rename_i hc
      simp only [hc, lbuiltin]
      exact SameH.only (SameH.bind fun _ => SameH.val)
    · rename_i hc
      simp only [hc, lbuiltin]
      exact SameH.only (SameH.bind fun _ => SameH.val)
    · cases h
theorem readOp_leaves {j : Nat} {o : Oper} (hj : ops[j]? = some o) (h : readOp P o.op = true) (H : Hp) : Leaves P ops (fun H' => H' = H) j := by
  intro fr H0 K e hs
  subst e
  unfold AStep at hs ⊢
  simp only [hj] at hs ⊢
  split
  · rename_i hg
    rw [hg] at hs
    simp only at hs
    split at hs
    · rename_i v H' hl
      obtain ⟨v', hv⟩ := readOp_H h fr H0 _ hl
      cases hv
      simp only [hl]
      exact ⟨trivial, hs⟩
    · rename_i f args H' hl
      obtain ⟨v', hv⟩ := readOp_H h fr H0 _ hl
      cases hv
    · exact hs.elim
  · rename_i hg
    rw [hg] at hs
    exact ⟨trivial, hs⟩

/-- Operations whose value does not hang on the heap. -/
def notGlob : Operand → Bool
  | .global _ => false
  | _ => true
def pureOp : Op → Bool
  | .move x | .assign x => notGlob x
  | .binOp _ _ x y _ => notGlob x && notGlob y
  | .unOp _ _ x => notGlob x
  | .extract x _ => notGlob x
  | .fieldAddr _ x _ => notGlob x
  | .indexAddr _ x y => notGlob x && notGlob y
  | .nilCheck x => notGlob x
  | .pick x y z => notGlob x && notGlob y && notGlob z
  | _ => false
theorem ao_heap {x : Operand} (h : notGlob x = true) (fr : Frame) (H H' : Hp) : ao P H fr x = ao P H' fr x := by cases x <;> first | rfl | cases h
theorem pureOp_val {o : Op} (h : pureOp o = true) {fr : Frame} {H : Hp} {r : LRes} (hl : lop P o fr H = some r) : ∃ v, r = .val v H ∧ ∀ H', lop P o fr H' = some (.val v H') := by
  have key : ∀ (g : Hp → Option Value), (∀ H, lop P o fr H = (g H).bind fun v => some (.val v H)) → (∀ A B, g A = g B) → ∃ v, r = .val v H ∧ ∀ H', lop P o fr H' = some (.val v H') := by
    intro g hg hc
    rw [hg, Option.bind_eq_some_iff] at hl
    obtain ⟨v, h1, h2⟩ := hl
    simp at h2
    refine ⟨v, h2.symm, fun H' => ?_⟩
    rw [hg, hc H' H, h1]
    rfl
  have bind1 : ∀ (o : Option Value) (H : Hp), onlyVal (o.bind fun v => some (.val v H)) = o.bind fun v => some (.val v H) := fun o H => by cases o <;> rfl
  cases o <;> simp only [pureOp, Bool.and_eq_true] at h <;> try (cases h; done)
  case move x => exact key (fun H => ao P H fr x) (fun H => by simp only [lop, lop1, bind1]) (fun A B => ao_heap h fr A B)
  case assign x => exact key (fun H => ao P H fr x) (fun H => by simp only [lop, lop1, bind1]) (fun A B => ao_heap h fr A B)
  case binOp op t x y t' =>
    exact key (fun H => (ao P H fr x).bind fun a => (ao P H fr y).bind fun b => lbin P op t x y a b) (fun H => by
      simp only [lop, lop1]
      cases ao P H fr x <;> simp [onlyVal]
      cases ao P H fr y <;> simp [onlyVal]
      exact bind1 _ _) (fun A B => by rw [ao_heap h.1 fr A B, ao_heap h.2 fr A B])
  case unOp op t x =>
    exact key (fun H => (ao P H fr x).bind fun a => lun op a) (fun H => by
      simp only [lop, lop1]
      cases ao P H fr x <;> simp [onlyVal]
      exact bind1 _ _) (fun A B => by rw [ao_heap h fr A B])
  case extract x i =>
    exact key (fun H => (ao P H fr x).bind fun v => match v with | .tuple vs => vs[i]? | _ => none) (fun H => by
      simp only [lop, lop1]
      cases ao P H fr x with
      | none => rfl
      | some v => cases v <;> first | rfl | exact bind1 _ _) (fun A B => by rw [ao_heap h fr A B])
  case nilCheck x =>
    exact key (fun H => (ao P H fr x).bind fun v => lnil v) (fun H => by
      simp only [lop, lop1]
      cases ao P H fr x <;> simp [onlyVal]
      exact bind1 _ _) (fun A B => by rw [ao_heap h fr A B])
  case pick x y z =>
    exact key (fun H => (ao P H fr x).bind fun t => (ao P H fr y).bind fun a => (ao P H fr z).bind fun b => match t with | .bool t => some (bif t then a else b) | _ => none) (fun H => by
      simp only [lop, lop1]
      cases ao P H fr x <;> simp [onlyVal]
      cases ao P H fr y <;> simp [onlyVal]
      cases ao P H fr z <;> simp [onlyVal]
      rename_i v _ _
      cases v <;> rfl) (fun A B => by rw [ao_heap h.1.1 fr A B, ao_heap h.1.2 fr A B, ao_heap h.2 fr A B])
  case fieldAddr s x f =>
    refine key (fun H => (ao P H fr x).bind fun v => match lfieldAddr P s v f ⟨0, fun _ => none, 0⟩ with | some (.val u _) => some u | _ => none) (fun H => ?_) (fun A B => by rw [ao_heap h fr A B])
    simp only [lop, lop1]
    cases ao P H fr x with
    | none => rfl
    | some v =>
      simp only [Option.bind_some, lfieldAddr]
      split
      · rename_i fields hu
        cases addr0 v with
        | none => rfl
        | some p =>
          obtain ⟨b, o⟩ := p
          simp only [Option.bind_some]
          cases fields[f]? with
          | none => rfl
          | some fd =>
            simp only [Option.bind_some]
            cases szT P fd.type with
            | none => rfl
            | some n =>
              simp only [Option.bind_some]
              split <;> rfl
      · rfl
  case indexAddr t x y =>
    refine key (fun H => (ao P H fr x).bind fun v => (ao P H fr y).bind fun i => match lindexAddr P t v i ⟨0, fun _ => none, 0⟩ with | some (.val u _) => some u | _ => none) (fun H => ?_) (fun A B => by rw [ao_heap h.1 fr A B, ao_heap h.2 fr A B])
    simp only [lop, lop1]
    cases ao P H fr x with
    | none => rfl
    | some v =>
      simp only [Option.bind_some]
      cases ao P H fr y with
      | none => rfl
      | some i =>
        simp only [Option.bind_some, lindexAddr]
        split
        · rename_i xv _ _ _ _ el _ _ _
          cases addr0 xv with
          | none => rfl
          | some p =>
            obtain ⟨b, o⟩ := p
            simp only [Option.bind_some]
            cases szT P el with
            | none => rfl
            | some n =>
              simp only [Option.bind_some]
              split <;> rfl
        · rename_i el _ _ _ _ _ _ _
          cases szT P el with
          | none => rfl
          | some n =>
            simp only [Option.bind_some]
            split <;> rfl
        · rfl

/-- What comes behind an operation. -/
def descs (ops : Array Oper) (i : Nat) : List Nat :=
  (List.range ops.size).foldl (fun D j => if (match ops[j]? with | some o => o.after.any (fun e => Region.binds .any e && (e.on == i || D.contains e.on)) | none => false) = true then j :: D else D) []
def descOk (ops : Array Oper) (listed : Array Bool) (i : Nat) (D : List Nat) : Bool :=
  D.all fun d => !listed.getD d true && match ops[d]? with
    | some od => od.after.any (fun e => Region.binds .any e && (e.on == i || D.contains e.on))
    | none => false
def restAll (ops : Array Oper) (listed : Array Bool) (i : Nat) (D : List Nat) (c : Oper → Bool) : Bool :=
  (List.range ops.size).all fun j => j == i || listed.getD j true || D.contains j || match ops[j]? with
    | some oj => c oj
    | none => true
/-- A call whose function and arguments do not hang on the heap. -/
def pureCall : Op → Bool
  | .call c => c.args.toList.all notGlob && match c.callee with
    | .value f => notGlob f
    | .invoke r _ => notGlob r
    | _ => false
  | _ => false
theorem aos_heap {fr : Frame} (H H' : Hp) : ∀ {xs : List Operand}, xs.all notGlob = true → aos P H fr xs = aos P H' fr xs
  | [], _ => rfl
  | x :: r, h => by
    simp only [List.all_cons, Bool.and_eq_true] at h
    simp only [aos, ao_heap h.1 fr H H', aos_heap H H' h.2]
theorem pureCall_eq {o : Op} (h : pureCall o = true) {fr : Frame} {H H1 : Hp} {f : FuncId} {args : List Value} (hl : lop P o fr H = some (.call f args H1)) : ∀ H', lop P o fr H' = some (.call f args H') := by
  intro H'
  cases o <;> simp only [pureCall] at h <;> try (cases h; done)
  case call c =>
    simp only [Bool.and_eq_true] at h
    obtain ⟨ha, hc⟩ := h
    simp only [lop, lcall] at hl ⊢
    rw [← aos_heap H H' ha]
    cases hao : aos P H fr c.args.toList with
    | none => rw [hao] at hl; simp at hl
    | some as =>
      rw [hao] at hl
      simp only [Option.bind_some] at hl ⊢
      cases hcc : c.callee with
      | builtin b => rw [hcc] at hc; cases hc
      | value g =>
        rw [hcc] at hc hl
        simp only at hc hl ⊢
        rw [← ao_heap hc fr H H']
        cases hg : ao P H fr g with
        | none => rw [hg] at hl; simp at hl
        | some v =>
          rw [hg] at hl
          simp only [Option.bind_some] at hl ⊢
          split at hl
          · simp only [Option.some.injEq, LRes.call.injEq] at hl; obtain ⟨rfl, rfl, _⟩ := hl; rfl
          · cases hl
      | invoke r m =>
        rw [hcc] at hc hl
        simp only at hc hl ⊢
        rw [← ao_heap hc fr H H']
        cases hg : ao P H fr r with
        | none => rw [hg] at hl; simp at hl
        | some v =>
          rw [hg] at hl
          simp only [Option.bind_some] at hl ⊢
          split at hl
          · rename_i tt vv
            cases hm : lmethod P tt m with
            | none => rw [hm] at hl; simp at hl
            | some gg =>
              rw [hm] at hl
              simp at hl ⊢
              obtain ⟨rfl, rfl, _⟩ := hl
              exact ⟨rfl, rfl⟩
          · cases hl
def takeOk (P : Program) (ops : Array Oper) (listed : Array Bool) (i : Nat) (m : Nat) : Bool :=
  match ops[i]? with
  | none => false
  | some oi => (Region.ready .any ops listed).contains i && descOk ops listed i (descs ops i) &&
    match m with
    | 1 => restAll ops listed i (descs ops i) fun oj => oi.apart ops oj && readOp P oj.op
    | 2 => pureCall oi.op && restAll ops listed i (descs ops i) fun oj => oi.apart ops oj
    | _ => (readOp P oi.op && restAll ops listed i (descs ops i) fun oj => oi.apart ops oj && readOp P oj.op) ||
     (pureOp oi.op && restAll ops listed i (descs ops i) fun oj => oi.apart ops oj) ||
     restAll ops listed i (descs ops i) fun _ => false
def seqOk0 (P : Program) (ops : Array Oper) : List (Nat × Nat) → Array Bool → Bool
  | [], _ => true
  | (i, m) :: r, listed => Nat.ble m 2 && takeOk P ops listed i m && seqOk0 P ops r (listed.setIfInBounds i true)
/-- What is listed behind some operations. -/
def behind : List (Nat × Nat) → Array Bool → Array Bool
  | [], listed => listed
  | (i, _) :: r, listed => behind r (listed.setIfInBounds i true)
def seqOk (P : Program) (ops : Array Oper) (is : List (Nat × Nat)) (listed : Array Bool) : Bool := seqOk0 P ops is listed && (Region.ready .any ops (behind is listed)).isEmpty
/-- Two ways on from a point: each begins with one of the two operations that are ready. -/
def forkOk (P : Program) (ops : Array Oper) (a b : List (Nat × Nat)) (listed : Array Bool) : Bool :=
  match a, b with
  | (i, 0) :: ra, (j, 0) :: rb => (Region.ready .any ops listed).all (fun k => k == i || k == j) && !(Region.ready .any ops listed).isEmpty && seqOk P ops ra (listed.setIfInBounds i true) && seqOk P ops rb (listed.setIfInBounds j true)
  | _, _ => false
/-- The operations at places. -/
def opsAt (ops : Array Oper) (is : List (Nat × Nat)) : List (Oper × Nat) := is.filterMap fun p => (ops[p.1]?).map fun o => (o, p.2)

theorem restAll_spec {listed : Array Bool} {i : Nat} {D : List Nat} {c : Oper → Bool} (h : restAll ops listed i D c = true) {j : Nat} {oj : Oper} (hj : ops[j]? = some oj) (hne : j ≠ i) (hun : listed.getD j true = false) (hD : j ∉ D) : c oj = true := by
  simp only [restAll, List.all_eq_true, List.mem_range] at h
  have h1 := h j (Array.getElem?_eq_some_iff.1 hj).1
  simpa [hj, hne, hun, hD] using h1

/-- Nothing that comes behind an operation is ready ahead of it. -/
theorem ready_notin {listed : Array Bool} {i j : Nat} {D : List Nat} (hd : descOk ops listed i D = true) (hi : listed.getD i false = false) (hj : j ∈ Region.ready .any ops listed) : j ∉ D := by
  intro hm
  simp only [descOk, List.all_eq_true] at hd
  have h1 := hd j hm
  obtain ⟨hjun, oj, hoj, hall⟩ := mem_ready.1 hj
  simp only [hoj, Bool.and_eq_true] at h1
  obtain ⟨e, he, hb⟩ := Array.any_eq_true'.1 h1.2
  simp only [Bool.and_eq_true, Bool.or_eq_true, beq_iff_eq, List.contains_iff_mem] at hb
  have h2 := hall e he hb.1
  rcases hb.2 with h3 | h3
  · rw [h3, hi] at h2; cases h2
  · have h4 := hd e.on h3
    simp only [Bool.and_eq_true, Bool.not_eq_true'] at h4
    have h5 := h4.1
    rcases Nat.lt_or_ge e.on listed.size with h' | h'
    · simp [h'] at h5 h2; rw [h5] at h2; cases h2
    · simp [Array.getElem?_eq_none h'] at h2
theorem descOk_put {listed : Array Bool} {i j : Nat} {D : List Nat} (hd : descOk ops listed i D = true) (hj : j ∉ D) : descOk ops (listed.setIfInBounds j true) i D = true := by
  simp only [descOk, List.all_eq_true] at hd ⊢
  intro d hm
  have hne : j ≠ d := fun e => hj (by rw [e]; exact hm)
  rw [getD_set_ne true hne]
  exact hd d hm
theorem unl {listed : Array Bool} {i : Nat} (h : listed.getD i true = false) : listed.getD i false = false := by
  rcases Nat.lt_or_ge i listed.size with h' | h'
  · simp [h'] at h ⊢; exact h
  · simp [Array.getElem?_eq_none h'] at h

theorem AAny.firstD {I : Hp → Prop} {Q : Frame → Hp → Prop} {i : Nat} {oi : Oper} {v : Value} {D : List Nat} (hi : ops[i]? = some oi) :
    ∀ (fuel : Nat) (listed : Array Bool) (fr : Frame) (H : Hp), descOk ops listed i D = true →
      (∀ j oj, ops[j]? = some oj → j ≠ i → listed.getD j true = false → j ∉ D → oi.apart ops oj = true ∧ Leaves P ops I j) →
      i ∈ Region.ready .any ops listed → I H → Gives P ops I oi v fr →
      AAny P ops Q fuel (listed.setIfInBounds i true) (putF fr oi.dst v) H → AAny P ops Q (fuel + 1) listed fr H := by
  intro fuel
  induction fuel with
  | zero =>
    intro listed fr H hd _ hr hI hy h
    refine ⟨fun h0 => (by rw [h0] at hr; cases hr), fun j hj => ?_⟩
    by_cases hji : j = i
    · subst hji; exact hy.step hi hI h
    · have := ready_mono hj hji
      rw [h.1] at this
      cases this
  | succ fuel ih =>
    intro listed fr H hd hfree hr hI hy h
    refine ⟨fun h0 => (by rw [h0] at hr; cases hr), fun j hj => ?_⟩
    by_cases hji : j = i
    · subst hji; exact hy.step hi hI h
    · have h1 := h.2 j (ready_mono hj hji)
      have hjD := ready_notin hd (unl (mem_ready.1 hr).1) hj
      obtain ⟨hjun, oj, hoj, hall⟩ := mem_ready.1 hj
      obtain ⟨hap, hL⟩ := hfree j oj hoj hji hjun hjD
      have h2 := AStep_put hoj hap hL hI hy h1
      refine AStep.mono (fun fr' H' h3 => ih (listed.setIfInBounds j true) fr' H' (descOk_put hd hjD) (fun k ok hk hki hun hkD => ?_) (ready_mono hr (Ne.symm hji)) h3.1 h3.2.1 ?_) h2
      · refine hfree k ok hk hki ?_ hkD
        by_cases hjk : j = k
        · subst hjk; exact hjun
        · rw [getD_set_ne true hjk] at hun; exact hun
      · rw [Array.setIfInBounds_comm _ _ hji]
        exact h3.2.2

theorem lcall_H {c : Call} {fr : Frame} {H H' : Hp} {f : FuncId} {args : List Value} (h : lop P (.call c) fr H = some (.call f args H')) : H' = H := by
  simp only [lop, lcall, Option.bind_eq_some_iff] at h
  obtain ⟨as, _, h⟩ := h
  split at h
  · unfold onlyVal at h
    split at h <;> simp at h
  · simp only [Option.bind_eq_some_iff] at h
    obtain ⟨v, _, h⟩ := h
    split at h
    · simp at h; exact h.2.2.symm
    · cases h
  · simp only [Option.bind_eq_some_iff] at h
    obtain ⟨v, _, h⟩ := h
    split at h
    · simp only [Option.bind_eq_some_iff] at h
      obtain ⟨g, _, h⟩ := h
      simp at h
      exact h.2.2.symm
    · cases h
/-- A call does not hang on the heap either. -/
theorem lop_call_H {o : Op} {fr : Frame} {H H' : Hp} {f : FuncId} {args : List Value} (h : lop P o fr H = some (.call f args H')) : H' = H := by
  cases o
  case call c => exact lcall_H h
  all_goals
    simp only [lop, onlyVal] at h
    split at h <;> simp at h

theorem ASeq.anyK {Q Qk : Frame → Hp → Prop} : ∀ (is : List (Nat × Nat)) (listed : Array Bool) (fr : Frame) (H : Hp) (fuel : Nat), seqOk0 P ops is listed = true → is.length ≤ fuel →
    (∀ fr H, Qk fr H → AAny P ops Q (fuel - is.length) (behind is listed) fr H) → ASeq P ops Qk (opsAt ops is) fr H → AAny P ops Q fuel listed fr H
  | [], listed, fr, H, fuel, hs, _, hK, h => by simpa [behind] using hK fr H h
  | (i, m) :: r, listed, fr, H, 0, _, hl, _, _ => absurd hl (by simp)
  | (i, m) :: r, listed, fr, H, fuel + 1, hs, hl, hK, h => by
    replace hK : ∀ fr H, Qk fr H → AAny P ops Q (fuel - r.length) (behind r (listed.setIfInBounds i true)) fr H := fun fr H hq => by
      have := hK fr H hq
      simpa [behind] using this
    simp only [seqOk0, Bool.and_eq_true] at hs
    obtain ⟨⟨hm2, ht⟩, hs⟩ := hs
    have hm2 := Nat.le_of_ble_eq_true hm2
    have hl' : r.length ≤ fuel := by simpa using hl
    unfold takeOk at ht
    split at ht
    · cases ht
    · rename_i oi hi
      simp only [Bool.and_eq_true, List.contains_iff_mem] at ht
      obtain ⟨⟨hr, hd⟩, ht⟩ := ht
      replace h : ASeq P ops Qk ((oi, m) :: opsAt ops r) fr H := by
        simp only [opsAt, List.filterMap_cons, hi, Option.map_some] at h
        exact h
      have hread : (restAll ops listed i (descs ops i) fun oj => oi.apart ops oj && readOp P oj.op) = true → ∀ j oj, ops[j]? = some oj → j ≠ i → listed.getD j true = false → j ∉ descs ops i → oi.apart ops oj = true ∧ Leaves P ops (fun H' => H' = H) j := fun ha j oj hj hne hun hD => by
        have := restAll_spec ha hj hne hun hD
        simp only [Bool.and_eq_true] at this
        exact ⟨this.1, readOp_leaves hj this.2 H⟩
      match m, hm2, ht, h with
      | 1, _, ht, h =>
        have hfree := hread ht
        simp only [ASeq] at h
        split at h
        · rename_i hg
          split at h
          · cases h.1
          · rename_i f args H' hlo
            obtain ⟨v, hc, h⟩ := h
            have := lop_call_H hlo
            subst this
            exact AAny.firstD (I := fun H2 => H2 = H') hi fuel listed fr H' hd hfree hr rfl (.inl ⟨hg, .inr ⟨f, args, fun H2 e => by rw [e]; exact hlo, fun H2 e => by rw [e]; exact hc⟩⟩) (ASeq.anyK r _ _ _ fuel hs hl' hK h)
          · exact h.elim
        · rename_i hg
          exact AAny.firstD (I := fun H' => H' = H) hi fuel listed fr H hd hfree hr rfl (.inr ⟨hg, rfl⟩) (ASeq.anyK r _ _ _ fuel hs hl' hK h)
      | 2, _, ht, h =>
        simp only [Bool.and_eq_true] at ht
        obtain ⟨hpc, ha⟩ := ht
        have hfree : ∀ j oj, ops[j]? = some oj → j ≠ i → listed.getD j true = false → j ∉ descs ops i → oi.apart ops oj = true ∧ Leaves P ops (fun _ => True) j := fun j oj hj hne hun hD =>
          ⟨restAll_spec ha hj hne hun hD, fun fr H K _ h => h.mono fun _ _ h => ⟨trivial, h⟩⟩
        simp only [ASeq] at h
        split at h
        · rename_i hg
          split at h
          · cases h.1
          · rename_i f args H' hlo
            obtain ⟨v, hc, h⟩ := h
            exact AAny.firstD (I := fun _ => True) hi fuel listed fr H hd hfree hr trivial (.inl ⟨hg, .inr ⟨f, args, fun H2 _ => pureCall_eq hpc hlo H2, fun H2 _ => hc H2⟩⟩) (ASeq.anyK r _ _ _ fuel hs hl' hK h)
          · exact h.elim
        · rename_i hg
          exact AAny.firstD (I := fun _ => True) hi fuel listed fr H hd hfree hr trivial (.inr ⟨hg, rfl⟩) (ASeq.anyK r _ _ _ fuel hs hl' hK h)
      | 0, _, ht, h =>
        simp only [Bool.or_eq_true, Bool.and_eq_true] at ht
        rcases ht with (⟨hro, ha⟩ | ⟨hpo, ha⟩) | ha
        · have hfree := hread ha
          simp only [ASeq] at h
          split at h
          · rename_i hg
            split at h
            · rename_i v H' hlo
              obtain ⟨u, hu⟩ := readOp_H hro fr H _ hlo
              cases hu
              exact AAny.firstD (I := fun H' => H' = H) hi fuel listed fr H hd hfree hr rfl (.inl ⟨hg, .inl fun H' e => by rw [e]; exact hlo⟩) (ASeq.anyK r _ _ _ fuel hs hl' hK h.2)
            · rename_i f args H' hlo
              obtain ⟨u, hu⟩ := readOp_H hro fr H _ hlo
              cases hu
            · exact h.elim
          · rename_i hg
            exact AAny.firstD (I := fun H' => H' = H) hi fuel listed fr H hd hfree hr rfl (.inr ⟨hg, rfl⟩) (ASeq.anyK r _ _ _ fuel hs hl' hK h)
        · have hfree : ∀ j oj, ops[j]? = some oj → j ≠ i → listed.getD j true = false → j ∉ descs ops i → oi.apart ops oj = true ∧ Leaves P ops (fun _ => True) j := fun j oj hj hne hun hD =>
            ⟨restAll_spec ha hj hne hun hD, fun fr H K _ h => h.mono fun _ _ h => ⟨trivial, h⟩⟩
          simp only [ASeq] at h
          split at h
          · rename_i hg
            split at h
            · rename_i v H' hlo
              obtain ⟨u, hu, hall⟩ := pureOp_val hpo hlo
              cases hu
              exact AAny.firstD (I := fun _ => True) hi fuel listed fr H hd hfree hr trivial (.inl ⟨hg, .inl fun H' _ => hall H'⟩) (ASeq.anyK r _ _ _ fuel hs hl' hK h.2)
            · rename_i f args H' hlo
              obtain ⟨u, hu, _⟩ := pureOp_val hpo hlo
              cases hu
            · exact h.elim
          · rename_i hg
            exact AAny.firstD (I := fun _ => True) hi fuel listed fr H hd hfree hr trivial (.inr ⟨hg, rfl⟩) (ASeq.anyK r _ _ _ fuel hs hl' hK h)
        · refine ⟨fun h0 => (by rw [h0] at hr; cases hr), fun j hj => ?_⟩
          by_cases hji : j = i
          · subst hji
            exact (ASeq.step hi h).mono fun fr' H' h' => ASeq.anyK r _ _ _ fuel hs hl' hK h'
          · have hjD := ready_notin hd (unl (mem_ready.1 hr).1) hj
            obtain ⟨hjun, oj, hoj, hall⟩ := mem_ready.1 hj
            have := restAll_spec ha hoj hji hjun hjD
            cases this
      | m + 3, hm2, ht, h =>
        exact absurd hm2 (by omega)

theorem ASeq.any {Q : Frame → Hp → Prop} (is : List (Nat × Nat)) (listed : Array Bool) (fr : Frame) (H : Hp) (fuel : Nat) (hs : seqOk P ops is listed = true) (hl : is.length ≤ fuel) (h : ASeq P ops Q (opsAt ops is) fr H) : AAny P ops Q fuel listed fr H := by
  simp only [seqOk, Bool.and_eq_true] at hs
  exact ASeq.anyK is listed fr H fuel hs.1 hl (fun fr H hq => AAny.done (by simpa using hs.2) hq _) h
theorem ASeq.fork {Q : Frame → Hp → Prop} {a b : List (Nat × Nat)} {listed : Array Bool} {fr : Frame} {H : Hp} {fuel : Nat} (hs : forkOk P ops a b listed = true) (hla : a.length ≤ fuel) (hlb : b.length ≤ fuel)
    (ha : ASeq P ops Q (opsAt ops a) fr H) (hb : ASeq P ops Q (opsAt ops b) fr H) : AAny P ops Q fuel listed fr H := by
  match a, b, hs, hla, hlb, ha, hb with
  | (i, 0) :: ra, (j, 0) :: rb, hs, hla, hlb, ha, hb =>
    cases fuel with
    | zero => simp at hla
    | succ fuel =>
      simp only [forkOk, Bool.and_eq_true, List.all_eq_true, Bool.or_eq_true, beq_iff_eq, Bool.not_eq_true'] at hs
      obtain ⟨⟨⟨h1, h2⟩, h3⟩, h4⟩ := hs
      refine ⟨fun h0 => (by rw [h0] at h2; cases h2), fun k hk => ?_⟩
      obtain ⟨_, o, ho, _⟩ := mem_ready.1 hk
      rcases h1 k hk with e | e
      · subst e
        simp only [opsAt, List.filterMap_cons, ho, Option.map_some] at ha
        exact (ASeq.step ho ha).mono fun fr' H' h' => ASeq.any ra _ _ _ fuel h3 (by simpa using hla) h'
      · subst e
        simp only [opsAt, List.filterMap_cons, ho, Option.map_some] at hb
        exact (ASeq.step ho hb).mono fun fr' H' h' => ASeq.any rb _ _ _ fuel h4 (by simpa using hlb) h'

/-- The operation at a place. -/
def opAt : List Oper → Nat → Option Oper
  | [], _ => none
  | o :: _, 0 => some o
  | _ :: r, n + 1 => opAt r n
theorem opAt_eq : ∀ (l : List Oper) (i : Nat), opAt l i = l[i]?
  | [], _ => rfl
  | _ :: _, 0 => rfl
  | _ :: r, n + 1 => by simp [opAt, opAt_eq r n]
/-- Operations one behind the other, by their places. -/
structure AS (P : Program) (ops : Array Oper) (Q : Frame → Hp → Prop) (is : List (Nat × Nat)) (fr : Frame) (H : Hp) : Prop where
  run : ASeq P ops Q (opsAt ops is) fr H
/-- A region whose order is drawn, in one order that stands for all. -/
theorem TC.drawnSeq {id : Nat} {fr : Frame} {H : Hp} {Q : AX → Frame → Hp → Prop} (is : List (Nat × Nat)) (hm : P.follows .mixedOrders = true) (hs : (Nat.ble is.length ops.size && seqOk P ops is (Array.replicate ops.size false)) = true)
    (h : AS P ops (Q .normal) is fr H) : TC P (.region id ops true) fr H Q := by
  simp only [Bool.and_eq_true] at hs
  exact TC.drawn hm (ASeq.any is _ _ _ _ hs.2 (Nat.le_of_ble_eq_true hs.1) h.run)

/-- .. with one point at which either of two operations may come first. -/
theorem TC.drawnFork {id : Nat} {fr : Frame} {H : Hp} {Q : AX → Frame → Hp → Prop} (is a b : List (Nat × Nat)) (hm : P.follows .mixedOrders = true)
    (hs : (Nat.ble (is.length + a.length) ops.size && Nat.ble (is.length + b.length) ops.size && seqOk0 P ops is (Array.replicate ops.size false) && forkOk P ops a b (behind is (Array.replicate ops.size false))) = true)
    (h : AS P ops (fun fr H => AS P ops (Q .normal) a fr H ∧ AS P ops (Q .normal) b fr H) is fr H) : TC P (.region id ops true) fr H Q := by
  simp only [Bool.and_eq_true] at hs
  obtain ⟨⟨⟨h1, h2⟩, h3⟩, h4⟩ := hs
  have h1 := Nat.le_of_ble_eq_true h1
  have h2 := Nat.le_of_ble_eq_true h2
  exact TC.drawn hm (ASeq.anyK is _ _ _ _ h3 (by omega) (fun fr H hq => ASeq.fork h4 (by omega) (by omega) hq.1.run hq.2.run) h.run)
theorem AS.fork {Q : Frame → Hp → Prop} {a b : List (Nat × Nat)} {fr : Frame} {H : Hp} (ha : AS P ops Q a fr H) (hb : AS P ops Q b fr H) : AS P ops (fun fr H => AS P ops Q a fr H ∧ AS P ops Q b fr H) [] fr H := ⟨⟨ha, hb⟩⟩
theorem AS.cons {Q : Frame → Hp → Prop} {i : Nat} {m : Nat} {is : List (Nat × Nat)} {o : Oper} {fr : Frame} {H : Hp} (hi : opAt ops.toList i = some o) (h : ASeq P ops Q ((o, m) :: opsAt ops is) fr H) : AS P ops Q ((i, m) :: is) fr H := by
  rw [opAt_eq] at hi
  have hi : ops[i]? = some o := by simpa using hi
  exact ⟨by simp only [opsAt, List.filterMap_cons, hi, Option.map_some]; exact h⟩
theorem AS.w {n : Nat} {base : Frame} {log : List (Nat × Value)} {i : Nat} {is : List (Nat × Nat)} {o : Oper} {H H' : Hp} {v : Value} {d : Tmp} {Q : Frame → Hp → Prop} (hn : base.length = n) (hi : opAt ops.toList i = some o) (op : Op) (ho : o.op = op)
    (hg : guardOk ops (mkF base log) o = true) (hl : lop P op (mkF base log) H = some (.val v H')) (hd : o.dst = some d) (h : AS P ops Q is (mkF base ((d, v) :: log)) H') : AS P ops Q ((i, 0) :: is) (mkF base log) H :=
  AS.cons hi (ASeq.val hg (by rw [ho]; exact hl) (by rw [hd]; exact h.run))
theorem AS.w0 {n : Nat} {base : Frame} {log : List (Nat × Value)} {i : Nat} {is : List (Nat × Nat)} {o : Oper} {H H' : Hp} {v : Value} {Q : Frame → Hp → Prop} (hn : base.length = n) (hi : opAt ops.toList i = some o) (op : Op) (ho : o.op = op)
    (hg : guardOk ops (mkF base log) o = true) (hl : lop P op (mkF base log) H = some (.val v H')) (hd : o.dst = none) (h : AS P ops Q is (mkF base log) H') : AS P ops Q ((i, 0) :: is) (mkF base log) H :=
  AS.cons hi (ASeq.val hg (by rw [ho]; exact hl) (by rw [hd]; exact h.run))
theorem AS.woff {n : Nat} {base : Frame} {log : List (Nat × Value)} {i : Nat} {m : Nat} {is : List (Nat × Nat)} {o : Oper} {H : Hp} {d : Tmp} {Q : Frame → Hp → Prop} (hn : base.length = n) (hi : opAt ops.toList i = some o)
    (hg : guardOk ops (mkF base log) o = false) (hd : o.dst = some d) (h : AS P ops Q is (mkF base ((d, undef) :: log)) H) : AS P ops Q ((i, m) :: is) (mkF base log) H :=
  AS.cons hi (ASeq.off hg (by rw [hd]; exact h.run))
theorem AS.woff0 {n : Nat} {base : Frame} {log : List (Nat × Value)} {i : Nat} {m : Nat} {is : List (Nat × Nat)} {o : Oper} {H : Hp} {Q : Frame → Hp → Prop} (hn : base.length = n) (hi : opAt ops.toList i = some o)
    (hg : guardOk ops (mkF base log) o = false) (hd : o.dst = none) (h : AS P ops Q is (mkF base log) H) : AS P ops Q ((i, m) :: is) (mkF base log) H :=
  AS.cons hi (ASeq.off hg (by rw [hd]; exact h.run))
theorem AS.wc {n : Nat} {base : Frame} {log : List (Nat × Value)} {i : Nat} {is : List (Nat × Nat)} {o : Oper} {H H' : Hp} {d : Tmp} {f : FuncId} {args : List Value} {R : Value → Hp → Prop} {Q : Frame → Hp → Prop} (hn : base.length = n) (hi : opAt ops.toList i = some o) (op : Op) (ho : o.op = op)
    (hg : guardOk ops (mkF base log) o = true) (hl : lop P op (mkF base log) H = some (.call f args H')) (hd : o.dst = some d) (hc : CO P f args H' R) (h : ∀ v H2, R v H2 → AS P ops Q is (mkF base ((d, v) :: log)) H2) : AS P ops Q ((i, 0) :: is) (mkF base log) H :=
  AS.cons hi (ASeq.call hg (by rw [ho]; exact hl) (hc.mono fun v H2 hr => by rw [hd]; exact (h v H2 hr).run))
theorem AS.wc0 {n : Nat} {base : Frame} {log : List (Nat × Value)} {i : Nat} {is : List (Nat × Nat)} {o : Oper} {H H' : Hp} {f : FuncId} {args : List Value} {R : Value → Hp → Prop} {Q : Frame → Hp → Prop} (hn : base.length = n) (hi : opAt ops.toList i = some o) (op : Op) (ho : o.op = op)
    (hg : guardOk ops (mkF base log) o = true) (hl : lop P op (mkF base log) H = some (.call f args H')) (hd : o.dst = none) (hc : CO P f args H' R) (h : ∀ v H2, R v H2 → AS P ops Q is (mkF base log) H2) : AS P ops Q ((i, 0) :: is) (mkF base log) H :=
  AS.cons hi (ASeq.call hg (by rw [ho]; exact hl) (hc.mono fun v H2 hr => by rw [hd]; exact (h v H2 hr).run))
theorem AS.wp {n : Nat} {base : Frame} {log : List (Nat × Value)} {i : Nat} {is : List (Nat × Nat)} {o : Oper} {H H' : Hp} {d : Tmp} {f : FuncId} {args : List Value} {v : Value} {Q : Frame → Hp → Prop} (hn : base.length = n) (hi : opAt ops.toList i = some o) (op : Op) (ho : o.op = op)
    (hg : guardOk ops (mkF base log) o = true) (hl : lop P op (mkF base log) H = some (.call f args H')) (hd : o.dst = some d) (hc : CO P f args H fun u H2 => u = v ∧ H2 = H) (h : AS P ops Q is (mkF base ((d, v) :: log)) H) : AS P ops Q ((i, 1) :: is) (mkF base log) H :=
  AS.cons hi (ASeq.callp hg (by rw [ho]; exact hl) hc (by rw [hd]; exact h.run))
theorem AS.wq {n : Nat} {base : Frame} {log : List (Nat × Value)} {i : Nat} {is : List (Nat × Nat)} {o : Oper} {H H' : Hp} {d : Tmp} {f : FuncId} {args : List Value} {v : Value} {Q : Frame → Hp → Prop} (hn : base.length = n) (hi : opAt ops.toList i = some o) (op : Op) (ho : o.op = op)
    (hg : guardOk ops (mkF base log) o = true) (hl : lop P op (mkF base log) H = some (.call f args H')) (hd : o.dst = some d) (hc : ∀ H0, CO P f args H0 fun u H2 => u = v ∧ H2 = H0) (h : AS P ops Q is (mkF base ((d, v) :: log)) H) : AS P ops Q ((i, 2) :: is) (mkF base log) H :=
  AS.cons hi (ASeq.callq hg (by rw [ho]; exact hl) hc (by rw [hd]; exact h.run))
theorem AS.wp0 {n : Nat} {base : Frame} {log : List (Nat × Value)} {i : Nat} {is : List (Nat × Nat)} {o : Oper} {H H' : Hp} {f : FuncId} {args : List Value} {v : Value} {Q : Frame → Hp → Prop} (hn : base.length = n) (hi : opAt ops.toList i = some o) (op : Op) (ho : o.op = op)
    (hg : guardOk ops (mkF base log) o = true) (hl : lop P op (mkF base log) H = some (.call f args H')) (hd : o.dst = none) (hc : CO P f args H fun u H2 => u = v ∧ H2 = H) (h : AS P ops Q is (mkF base log) H) : AS P ops Q ((i, 1) :: is) (mkF base log) H :=
  AS.cons hi (ASeq.callp hg (by rw [ho]; exact hl) hc (by rw [hd]; exact h.run))
theorem AS.nil {fr : Frame} {H : Hp} {Q : Frame → Hp → Prop} (h : Q fr H) : AS P ops Q [] fr H := ⟨h⟩

/-- Where a walk stops. -/
structure Leaf (p : Prop) : Prop where
  out : p
theorem leafT {c : Code} {fr : Frame} {H : Hp} {Q : AX → Frame → Hp → Prop} (h : Leaf (TC P c fr H Q)) : TC P c fr H Q := h.out
theorem leafO {l : List Oper} {fr : Frame} {H : Hp} {Q : Frame → Hp → Prop} (h : Leaf (TO P ops l fr H Q)) : TO P ops l fr H Q := h.out
theorem leafS {l : List (Nat × Nat)} {fr : Frame} {H : Hp} {Q : Frame → Hp → Prop} (h : Leaf (AS P ops Q l fr H)) : AS P ops Q l fr H := h.out
theorem leafA {a b : Prop} (h : Leaf (a ∧ b)) : a ∧ b := h.out
theorem leafE.{u} {α : Sort u} {p : α → Prop} (h : Leaf (Exists p)) : Exists p := h.out

theorem leafF.{u} {α : Sort u} {p : α → Prop} (h : Leaf (∀ x, p x)) : ∀ x, p x := h.out

theorem Hp.le.fe {A B : Hp} (h : A.le B) {b : Nat} {c : Option Blk} (hc : A.f b = c) (hs : c.isSome = true) : B.f b = c := by
  cases c with
  | none => cases hs
  | some y => exact h.f b y hc
/-- A slot's truth, by cases. -/
theorem mkF_cons {n : Nat} {base : Frame} {log : List (Nat × Value)} {t : Tmp} {v : Value} (hn : base.length = n) (hv : lk n base log t = some v) : mkF base ((t, v) :: log) = mkF base log := by
  have := agree hn t v hv
  exact set_same this
theorem TO.splitB {n : Nat} {base : Frame} {log : List (Nat × Value)} {l : List Oper} {H : Hp} {Q : Frame → Hp → Prop} (t : Tmp) {b : Bool} (hn : base.length = n) (hv : lk n base log t = some (.bool b))
    (h1 : b = true → TO P ops l (mkF base ((t, .bool true) :: log)) H Q) (h2 : b = false → TO P ops l (mkF base ((t, .bool false) :: log)) H Q) : TO P ops l (mkF base log) H Q := by
  cases b with
  | true => rw [mkF_cons hn hv] at h1; exact h1 rfl
  | false => rw [mkF_cons hn hv] at h2; exact h2 rfl
theorem TO.lit {n : Nat} {base : Frame} {log : List (Nat × Value)} {l : List Oper} {H : Hp} {Q : Frame → Hp → Prop} (t : Tmp) (b : Bool) (hn : base.length = n) (_ : lk n base log t = some (.bool b)) (h : TO P ops l (mkF base log) H Q) : TO P ops l (mkF base log) H Q := h
theorem AS.splitB {n : Nat} {base : Frame} {log : List (Nat × Value)} {l : List (Nat × Nat)} {H : Hp} {Q : Frame → Hp → Prop} (t : Tmp) {b : Bool} (hn : base.length = n) (hv : lk n base log t = some (.bool b))
    (h1 : b = true → AS P ops Q l (mkF base ((t, .bool true) :: log)) H) (h2 : b = false → AS P ops Q l (mkF base ((t, .bool false) :: log)) H) : AS P ops Q l (mkF base log) H := by
  cases b with
  | true => rw [mkF_cons hn hv] at h1; exact h1 rfl
  | false => rw [mkF_cons hn hv] at h2; exact h2 rfl
theorem AS.lit {n : Nat} {base : Frame} {log : List (Nat × Value)} {l : List (Nat × Nat)} {H : Hp} {Q : Frame → Hp → Prop} (t : Tmp) (b : Bool) (hn : base.length = n) (_ : lk n base log t = some (.bool b)) (h : AS P ops Q l (mkF base log) H) : AS P ops Q l (mkF base log) H := h
end
end Go.Lite
