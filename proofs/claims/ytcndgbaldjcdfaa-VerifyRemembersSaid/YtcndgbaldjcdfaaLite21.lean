/- Lite, part 21: loops by a measure; what a frame holds; what a call leaves. -/
import Derived.Test.YtcndgbaldjcdfaaLite20
namespace Go.Lite
open Go
set_option linter.unusedSimpArgs false
set_option linter.unusedVariables false

section
variable {P : Program}

/-- What comes behind a round, where the measure falls. -/
def loopQ (I : Nat → Frame → Hp → Prop) (m : Nat) (Q : AX → Frame → Hp → Prop) : AX → Frame → Hp → Prop
  | .normal, fr, H => ∃ m', m' < m ∧ I m' fr H
  | x, fr, H => Q x fr H
theorem TR.mono {n : Nat} {c : Code} {fr : Frame} {H : Hp} {Q Q' : AX → Frame → Hp → Prop} (h : TR P n c fr H Q) (hq : ∀ x fr H, Q x fr H → Q' x fr H) : TR P n c fr H Q' := by
  intro E μ w a hd hR hF
  have h := h E μ w a hd hR hF
  have hm : ∀ (m : Nat) (a : Act) (w : World), Code.rounds P c (TPost P E μ Q) m a w → Code.rounds P c (TPost P E μ Q') m a w := by
    intro m
    induction m with
    | zero => intro a w h; exact h
    | succ m ih =>
      intro a w h
      rw [rounds_succ] at h ⊢
      refine wp_mono h fun e a w h => ?_
      cases e <;> first | exact ih _ _ h | exact TPost.mono (Ext.refl μ) hq h
  exact hm n a w h
theorem TR.inv {c : Code} {Q : AX → Frame → Hp → Prop} (I : Nat → Frame → Hp → Prop) (hs : ∀ m fr H, I m fr H → TC P c fr H (loopQ I m Q)) : ∀ (n m : Nat) (fr : Frame) (H : Hp), m < n → I m fr H → TR P n c fr H Q
  | 0, m, fr, H, hm, _ => absurd hm (Nat.not_lt_zero m)
  | n + 1, m, fr, H, hm, hI => TR.succ ((hs m fr H hI).mono fun x fr' H' h => by
      cases x with
      | normal => obtain ⟨m', h1, h2⟩ := h; exact TR.inv I hs n m' fr' H' (by omega) h2
      | exit id => exact h
      | ret => exact h)
theorem TC.loopI {c : Code} {fr : Frame} {H : Hp} {Q : AX → Frame → Hp → Prop} (I : Nat → Frame → Hp → Prop) (m : Nat) (hI : I m fr H) (hs : ∀ m fr H, I m fr H → TC P c fr H (loopQ I m Q)) : TC P (.loop c) fr H Q :=
  TC.loop (TR.inv I hs (m + 1) m fr H (Nat.lt_succ_self m) hI)

/-- What stands in slots. -/
def Facts (fr : Frame) : List (Nat × Value) → Prop
  | [] => True
  | (t, v) :: r => fr[t]? = some v ∧ Facts fr r
def LkAll (L : Nat → Option Value) : List (Nat × Value) → Prop
  | [] => True
  | (t, v) :: r => L t = some v ∧ LkAll L r
theorem Facts.of {L : Nat → Option Value} {fr : Frame} (hL : Agree L fr) : ∀ {l : List (Nat × Value)}, LkAll L l → Facts fr l
  | [], _ => trivial
  | (t, v) :: r, h => ⟨hL t v h.1, Facts.of hL h.2⟩
theorem set_same {fr : Frame} {t : Nat} {v : Value} (h : fr[t]? = some v) : fr.set t v = fr := by
  refine List.ext_getElem? fun j => ?_
  rw [List.getElem?_set]
  split
  · rename_i e; subst e
    split
    · exact h.symm
    · rename_i hlt; rw [List.getElem?_eq_none (by omega)] at h; cases h
  · rfl
theorem mkF_facts {fr : Frame} : ∀ {l : List (Nat × Value)}, Facts fr l → mkF fr l = fr
  | [], _ => rfl
  | (t, v) :: r, h => by
    have := mkF_facts h.2
    simp only [mkF, List.foldr_cons] at this ⊢
    rw [this]
    exact set_same h.1
theorem TC.facts {c : Code} {fr : Frame} {H : Hp} {Q : AX → Frame → Hp → Prop} (l : List (Nat × Value)) (hf : Facts fr l) (h : TC P c (mkF fr l) H Q) : TC P c fr H Q := by rw [mkF_facts hf] at h; exact h

/-- What was known, but for one block, is as it was. -/
structure Hp.but (r : Nat) (H H' : Hp) : Prop where
  n : H.n ≤ H'.n
  g : H'.g = H.g
  f : ∀ b x, b ≠ r → H.f b = some x → H'.f b = some x
theorem Hp.but.refl (r : Nat) (H : Hp) : H.but r H := ⟨Nat.le_refl _, rfl, fun _ _ _ h => h⟩
theorem Hp.but.trans {r : Nat} {A B C : Hp} (h : A.but r B) (k : B.but r C) : A.but r C := ⟨Nat.le_trans h.n k.n, k.g.trans h.g, fun b x hb hx => k.f b x hb (h.f b x hb hx)⟩
theorem Hp.but.set {r : Nat} (H : Hp) (x : Blk) : H.but r (H.set r x) := ⟨Nat.le_refl _, rfl, fun b y hb hy => by simp only [Hp.set, upd]; rw [if_neg hb]; exact hy⟩
theorem Hp.le.but {H H' : Hp} (h : H.le H') (r : Nat) : H.but r H' := ⟨h.n, h.g, fun b x _ hx => h.f b x hx⟩
theorem set_self (H : Hp) (b : Nat) (x : Blk) : (H.set b x).f b = some x := by simp [Hp.set, upd]
theorem set_other {H : Hp} {b c : Nat} (x : Blk) (h : c ≠ b) : (H.set b x).f c = H.f c := by simp [Hp.set, upd, h]
theorem new_self (H : Hp) (x : Blk) : (H.new x).f H.n = some x := by simp [Hp.new, upd]
theorem new_other {H : Hp} {c : Nat} (x : Blk) (h : c ≠ H.n) : (H.new x).f c = H.f c := by simp [Hp.new, upd, h]
theorem Hp.ext {H H' : Hp} (hn : H.n = H'.n) (hf : ∀ b, H.f b = H'.f b) (hg : H.g = H'.g) : H = H' := by
  cases H; cases H'
  simp only [Hp.mk.injEq] at *
  exact ⟨hn, funext hf, hg⟩
theorem set_same_hp {H : Hp} {b : Nat} {x : Blk} (h : H.f b = some x) : H.set b x = H := Hp.ext rfl (fun c => by
  simp only [Hp.set, upd]; split
  · rename_i e; subst e; exact h.symm
  · rfl) rfl
theorem set_set (H : Hp) (b : Nat) (x y : Blk) : (H.set b x).set b y = H.set b y := Hp.ext rfl (fun c => by
  simp only [Hp.set, upd]; split <;> rfl) rfl
/-- Blocks have numbers below the next one. -/
def Hp.wf (H : Hp) : Prop := ∀ b x, H.f b = some x → b < H.n
theorem Rel.wf {E : Env} {μ : List Info} {H : Hp} {w : World} (h : Rel P E μ H w) : H.wf := h.lt_n
theorem Hp.wf.new {H : Hp} (h : H.wf) (x : Blk) : (H.new x).wf := fun b y hb => by
  simp only [Hp.new, upd] at hb ⊢
  split at hb
  · omega
  · have := h b y hb; omega
theorem Hp.wf.set {H : Hp} (h : H.wf) {b : Nat} (hb : b < H.n) (x : Blk) : (H.set b x).wf := fun c y hc => by
  simp only [Hp.set, upd] at hc ⊢
  split at hc
  · rename_i e; subst e; exact hb
  · exact h c y hc
theorem wrap_i64 {n : Int} (h : -9223372036854775808 ≤ n) (h2 : n < 9223372036854775808) : IntKind.i64.wrap n = n := by
  simp only [IntKind.wrap, IntKind.bits, IntKind.signed, Bool.true_and]
  split
  · rename_i hc; simp at hc; omega
  · rename_i hc; simp at hc; omega
theorem wrap_u64 {n : Int} (h : 0 ≤ n) (h2 : n < 18446744073709551616) : IntKind.u64.wrap n = n := by
  simp only [IntKind.wrap, IntKind.bits, IntKind.signed, Bool.false_and, Bool.false_eq_true, if_false]
  omega
theorem wrap_u32 {n : Int} (h : 0 ≤ n) (h2 : n < 4294967296) : IntKind.u32.wrap n = n := by
  simp only [IntKind.wrap, IntKind.bits, IntKind.signed, Bool.false_and, Bool.false_eq_true, if_false]
  omega
theorem wrap_u8 {n : Int} (h : 0 ≤ n) (h2 : n < 256) : IntKind.u8.wrap n = n := by
  simp only [IntKind.wrap, IntKind.bits, IntKind.signed, Bool.false_and, Bool.false_eq_true, if_false]
  omega
/-- The least and the greatest number of a kind. -/
def rangeK : IntKind → Int × Int
  | .i8 => (-128, 127)
  | .i16 => (-32768, 32767)
  | .i32 => (-2147483648, 2147483647)
  | .i64 => (-9223372036854775808, 9223372036854775807)
  | .u8 => (0, 255)
  | .u16 => (0, 65535)
  | .u32 => (0, 4294967295)
  | .u64 => (0, 18446744073709551615)
theorem wrap_range {k : IntKind} {lo hi n : Int} (h : rangeK k = (lo, hi)) (h1 : lo ≤ n) (h2 : n ≤ hi) : k.wrap n = n := by
  cases k <;> simp only [rangeK, Prod.mk.injEq] at h <;> obtain ⟨rfl, rfl⟩ := h <;> simp only [IntKind.wrap, IntKind.bits, IntKind.signed, Bool.true_and, Bool.false_and, Bool.false_eq_true, if_false] <;>
    first
      | omega
      | (split
         · rename_i hc; simp at hc; omega
         · rename_i hc; simp at hc; omega)
/-- A number converted, or worked out, that has room in its kind. -/
theorem lop_convI {H : Hp} {fr : Frame} {L : Nat → Option Value} (hL : Agree L fr) {s d : TypeId} {x : Operand} {k k' : IntKind} {n lo hi : Int} (hx : aoN P H L x = some (.int k' n)) (hc : lconv P s d (.int k' n) H = some (.val (.int k (k.wrap n)) H)) (hr : rangeK k = (lo, hi)) (h1 : lo ≤ n) (h2 : n ≤ hi) :
    lop P (.convert s d x) fr H = some (.val (.int k n) H) := by
  rw [lop_conv hL hx hc, wrap_range hr h1 h2]
theorem lop_binI {H : Hp} {fr : Frame} {L : Nat → Option Value} (hL : Agree L fr) {op : BinOp} {t t' : TypeId} {x y : Operand} {a b : Value} {k : IntKind} {n lo hi : Int} (hx : aoN P H L x = some a) (hy : aoN P H L y = some b) (h : lbin P op t x y a b = some (.int k (k.wrap n))) (hr : rangeK k = (lo, hi)) (h1 : lo ≤ n) (h2 : n ≤ hi) :
    lop P (.binOp op t x y t') fr H = some (.val (.int k n) H) := by
  rw [lop_bin hL hx hy h, wrap_range hr h1 h2]
theorem lop_shr {H : Hp} {fr : Frame} {L : Nat → Option Value} (hL : Agree L fr) {t t' : TypeId} {x y : Operand} {k k' : IntKind} {n m : Int} (hx : aoN P H L x = some (.int k n)) (hy : aoN P H L y = some (.int k' m)) (h0 : 0 ≤ m) :
    lop P (.binOp .shr t x y t') fr H = some (.val (.int k (n.fdiv (2 ^ (min m.toNat k.bits)))) H) := by
  refine lop_bin hL hx hy ?_
  simp only [lbin]
  rw [if_neg (by omega)]
theorem lop_shl {H : Hp} {fr : Frame} {L : Nat → Option Value} (hL : Agree L fr) {t t' : TypeId} {x y : Operand} {k k' : IntKind} {n m : Int} (hx : aoN P H L x = some (.int k n)) (hy : aoN P H L y = some (.int k' m)) (h0 : 0 ≤ m) :
    lop P (.binOp .shl t x y t') fr H = some (.val (.int k (k.wrap (n * 2 ^ (min m.toNat k.bits)))) H) := by
  refine lop_bin hL hx hy ?_
  simp only [lbin]
  rw [if_neg (by omega)]
theorem lop_quo {H : Hp} {fr : Frame} {L : Nat → Option Value} (hL : Agree L fr) {t t' : TypeId} {x y : Operand} {k : IntKind} {n m : Int} (hx : aoN P H L x = some (.int k n)) (hy : aoN P H L y = some (.int k m)) (h0 : m ≠ 0) :
    lop P (.binOp .quo t x y t') fr H = some (.val (.int k (k.wrap (n.tdiv m))) H) := by
  refine lop_bin hL hx hy ?_
  simp [lbin, lint, h0]
theorem lop_rem {H : Hp} {fr : Frame} {L : Nat → Option Value} (hL : Agree L fr) {t t' : TypeId} {x y : Operand} {k : IntKind} {n m : Int} (hx : aoN P H L x = some (.int k n)) (hy : aoN P H L y = some (.int k m)) (h0 : m ≠ 0) :
    lop P (.binOp .rem t x y t') fr H = some (.val (.int k (n.tmod m)) H) := by
  refine lop_bin hL hx hy ?_
  simp [lbin, lint, h0]
theorem lop_neBB {H : Hp} {fr : Frame} {L : Nat → Option Value} (hL : Agree L fr) {t t' : TypeId} {x y : Operand} {p q : Bool} (hx : aoN P H L x = some (.bool p)) (hy : aoN P H L y = some (.bool q)) (ht : isBoolT P t = true) (h : p = q) :
    lop P (.binOp .neq t x y t') fr H = some (.val (.bool false) H) := by
  subst h
  refine lop_bin hL hx hy ?_
  simp [lbin, leq, ht]
theorem lop_eqBB {H : Hp} {fr : Frame} {L : Nat → Option Value} (hL : Agree L fr) {t t' : TypeId} {x y : Operand} {p q : Bool} (hx : aoN P H L x = some (.bool p)) (hy : aoN P H L y = some (.bool q)) (ht : isBoolT P t = true) (h : p = q) :
    lop P (.binOp .eql t x y t') fr H = some (.val (.bool true) H) := by
  subst h
  refine lop_bin hL hx hy ?_
  simp [lbin, leq, ht]
theorem lop_cat {H : Hp} {fr : Frame} {L : Nat → Option Value} (hL : Agree L fr) {t t' : TypeId} {x y : Operand} {a b : List UInt8} (hx : aoN P H L x = some (S a)) (hy : aoN P H L y = some (S b)) (h : a.length + b.length ≤ 9223372036854775807) :
    lop P (.binOp .add t x y t') fr H = some (.val (S (a ++ b)) H) := by
  refine lop_bin hL hx hy ?_
  simp only [lbin, S, lstr, ByteArray.size, List.size_toArray]
  rw [if_pos h]
theorem lop_eqS {H : Hp} {fr : Frame} {L : Nat → Option Value} (hL : Agree L fr) {t t' : TypeId} {x y : Operand} {a b : List UInt8} (hx : aoN P H L x = some (S a)) (hy : aoN P H L y = some (S b)) :
    lop P (.binOp .eql t x y t') fr H = some (.val (.bool (decide (a = b))) H) := by
  refine lop_bin hL hx hy ?_
  simp only [lbin, S, lstr]
  by_cases h : a = b
  · subst h; simp
  · simp [h]
theorem lop_neS {H : Hp} {fr : Frame} {L : Nat → Option Value} (hL : Agree L fr) {t t' : TypeId} {x y : Operand} {a b : List UInt8} (hx : aoN P H L x = some (S a)) (hy : aoN P H L y = some (S b)) :
    lop P (.binOp .neq t x y t') fr H = some (.val (.bool (!decide (a = b))) H) := by
  refine lop_bin hL hx hy ?_
  simp only [lbin, S, lstr]
  by_cases h : a = b
  · subst h; simp
  · simp [h]
theorem lop_eqST {H : Hp} {fr : Frame} {L : Nat → Option Value} (hL : Agree L fr) {t t' : TypeId} {x y : Operand} {a b : List UInt8} (hx : aoN P H L x = some (S a)) (hy : aoN P H L y = some (S b)) (h : a = b) :
    lop P (.binOp .eql t x y t') fr H = some (.val (.bool true) H) := by rw [lop_eqS hL hx hy, decide_eq_true h]
theorem lop_eqSF {H : Hp} {fr : Frame} {L : Nat → Option Value} (hL : Agree L fr) {t t' : TypeId} {x y : Operand} {a b : List UInt8} (hx : aoN P H L x = some (S a)) (hy : aoN P H L y = some (S b)) (h : a ≠ b) :
    lop P (.binOp .eql t x y t') fr H = some (.val (.bool false) H) := by rw [lop_eqS hL hx hy, decide_eq_false h]
theorem lop_neST {H : Hp} {fr : Frame} {L : Nat → Option Value} (hL : Agree L fr) {t t' : TypeId} {x y : Operand} {a b : List UInt8} (hx : aoN P H L x = some (S a)) (hy : aoN P H L y = some (S b)) (h : a ≠ b) :
    lop P (.binOp .neq t x y t') fr H = some (.val (.bool true) H) := by rw [lop_neS hL hx hy, decide_eq_false h]; rfl
theorem lop_neSF {H : Hp} {fr : Frame} {L : Nat → Option Value} (hL : Agree L fr) {t t' : TypeId} {x y : Operand} {a b : List UInt8} (hx : aoN P H L x = some (S a)) (hy : aoN P H L y = some (S b)) (h : a = b) :
    lop P (.binOp .neq t x y t') fr H = some (.val (.bool false) H) := by rw [lop_neS hL hx hy, decide_eq_true h]; rfl
/-- A call is looked at where the heap stands as it must. -/
theorem CF.wf {f : FuncId} {args : List Value} {H : Hp} {R : Value → Hp → Prop} (h : H.wf → CF P f args H R) : CF P f args H R :=
  fun E μ w args' hR hl => h hR.wf E μ w args' hR hl
theorem TC.wf {c : Code} {fr : Frame} {H : Hp} {Q : AX → Frame → Hp → Prop} (h : H.wf → TC P c fr H Q) : TC P c fr H Q :=
  ⟨fun E μ w a hd hR hF => (h hR.wf).run E μ w a hd hR hF⟩
end
end Go.Lite
