/- Lite, part 20: operations one by one, for walks. -/
import Derived.Test.YtcndgbaldjcdfaaLite19
namespace Go.Lite
open Go
set_option linter.unusedSimpArgs false
set_option linter.unusedVariables false

section
variable {P : Program} {H : Hp} {fr : Frame}

/-- A string of bytes. -/
def S (l : List UInt8) : Value := .string ⟨l.toArray⟩
theorem S_eq (s : ByteArray) : Value.string s = S s.data.toList := by cases s; rfl

/-- A frame: what it was, and what was put since. -/
def mkF (base : Frame) (log : List (Nat × Value)) : Frame := log.foldr (fun p f => f.set p.1 p.2) base
def lk (n : Nat) (base : Frame) : List (Nat × Value) → Nat → Option Value
  | [], t => base[t]?
  | (d, v) :: r, t => if Nat.beq d t = true then (if Nat.blt d n = true then some v else none) else lk n base r t
/-- What is looked up stands in the frame. -/
def Agree (L : Nat → Option Value) (fr : Frame) : Prop := ∀ t v, L t = some v → fr[t]? = some v
theorem mkF_length (base : Frame) : ∀ log : List (Nat × Value), (mkF base log).length = base.length
  | [] => rfl
  | p :: r => by simp only [mkF, List.foldr_cons, List.length_set]; exact mkF_length base r
theorem agree {n : Nat} {base : Frame} (hn : base.length = n) : ∀ {log : List (Nat × Value)}, Agree (lk n base log) (mkF base log)
  | [] => fun t v h => h
  | (d, u) :: r => fun t v h => by
    simp only [lk] at h
    simp only [mkF, List.foldr_cons]
    split at h
    · rename_i e
      have e : d = t := Nat.eq_of_beq_eq_true e
      split at h
      · rename_i hlt
        simp [Nat.blt_eq] at hlt
        subst e
        rw [List.getElem?_set_self (by have := mkF_length base r; unfold mkF at this; rw [this, hn]; exact hlt)]
        exact h
      · cases h
    · rename_i e
      have e : d ≠ t := fun e' => e (by subst e'; exact Nat.beq_refl d)
      rw [List.getElem?_set_ne e]
      exact agree hn t v h

variable {L : Nat → Option Value}
/-- An operand's value, as it stands in its slot. -/
def aoN (P : Program) (H : Hp) (L : Nat → Option Value) : Operand → Option Value
  | .tmp t => L t
  | .const v => if closedV v then some v else none
  | .global g => if g < H.g then some (.pointer (some ⟨g, 0, none⟩)) else none
  | .func f => some (.func (.func f) #[] #[])
theorem ao_of (hL : Agree L fr) {x : Operand} {v : Value} (h : aoN P H L x = some v) : ao P H fr x = some v := by
  cases x with
  | tmp t => simp only [ao, aoN] at h ⊢; rw [List.getD_eq_getElem?_getD, hL t v h]; rfl
  | const c => exact h
  | global g => exact h
  | func f => exact h

def aosN (P : Program) (H : Hp) (L : Nat → Option Value) : List Operand → Option (List Value)
  | [] => some []
  | x :: r => match aoN P H L x with
    | some v => match aosN P H L r with
      | some l => some (v :: l)
      | none => none
    | none => none
theorem aos_of (hL : Agree L fr) : ∀ {xs : List Operand} {l : List Value}, aosN P H L xs = some l → aos P H fr xs = some l
  | [], l, h => h
  | x :: r, l, h => by
    simp only [aosN] at h
    split at h
    · rename_i v hv
      split at h
      · rename_i l' hl
        simp only [aos, ao_of hL hv, aos_of hL hl]
        exact h
      · cases h
    · cases h
def partsN (P : Program) (H : Hp) (L : Nat → Option Value) : List (Nat × Operand) → Option (List (Nat × Value))
  | [] => some []
  | (i, x) :: r => match aoN P H L x with
    | some v => match partsN P H L r with
      | some l => some ((i, v) :: l)
      | none => none
    | none => none
theorem mapO_of (hL : Agree L fr) : ∀ {xs : List (Nat × Operand)} {l : List (Nat × Value)}, partsN P H L xs = some l → mapO (ao P H fr) xs = some l
  | [], l, h => h
  | (i, x) :: r, l, h => by
    simp only [partsN] at h
    split at h
    · rename_i v hv
      split at h
      · rename_i l' hl
        simp only [mapO, ao_of hL hv, mapO_of hL hl]
        exact h
      · cases h
    · cases h

/-- A small number, as a numeral. -/
def litN : Nat → Option Nat
  | 0 => some 0
  | 1 => some 1
  | 2 => some 2
  | 3 => some 3
  | 4 => some 4
  | 5 => some 5
  | 6 => some 6
  | 7 => some 7
  | 8 => some 8
  | 9 => some 9
  | 10 => some 10
  | 11 => some 11
  | 12 => some 12
  | 13 => some 13
  | 14 => some 14
  | 15 => some 15
  | 16 => some 16
  | 17 => some 17
  | 18 => some 18
  | 19 => some 19
  | 20 => some 20
  | 21 => some 21
  | 22 => some 22
  | 23 => some 23
  | 24 => some 24
  | 25 => some 25
  | 26 => some 26
  | 27 => some 27
  | 28 => some 28
  | 29 => some 29
  | 30 => some 30
  | 31 => some 31
  | 32 => some 32
  | 33 => some 33
  | 34 => some 34
  | 35 => some 35
  | 36 => some 36
  | 37 => some 37
  | 38 => some 38
  | 39 => some 39
  | 40 => some 40
  | _ => none
theorem litN_eq {a b : Nat} (h : litN a = some b) : a = b := by
  unfold litN at h
  split at h <;> first | (cases h; done) | (injection h)
def szN (P : Program) (t : TypeId) : Option Nat := match szT P t with
  | some n => litN n
  | none => none
theorem szN_eq {t : TypeId} {n : Nat} (h : szN P t = some n) : szT P t = some n := by
  unfold szN at h
  split at h
  · rename_i m hm; rw [hm, litN_eq h]
  · cases h
def faN (P : Program) (t : TypeId) (f : Nat) : Option Nat := match P.underlying t with
  | some (.struct fs) => match fs[f]? with
    | some fd => match szT P fd.type with
      | some 0 => none
      | some _ => litN fd.offset
      | none => none
    | none => none
  | _ => none
theorem lop_move (hL : Agree L fr) {x : Operand} {v : Value} (hx : aoN P H L x = some v) : lop P (.move x) fr H = some (.val v H) := by simp [lop, lop1, ao_of hL hx, onlyVal]
theorem lop_assign (hL : Agree L fr) {x : Operand} {v : Value} (hx : aoN P H L x = some v) : lop P (.assign x) fr H = some (.val v H) := by simp [lop, lop1, ao_of hL hx, onlyVal]
theorem lop_pickT (hL : Agree L fr) {c x y : Operand} {u v : Value} (hc : aoN P H L c = some (.bool true)) (hx : aoN P H L x = some u) (hy : aoN P H L y = some v) : lop P (.pick c x y) fr H = some (.val u H) := by simp [lop, lop1, ao_of hL hc, ao_of hL hx, ao_of hL hy, onlyVal]
theorem lop_pickF (hL : Agree L fr) {c x y : Operand} {u v : Value} (hc : aoN P H L c = some (.bool false)) (hx : aoN P H L x = some u) (hy : aoN P H L y = some v) : lop P (.pick c x y) fr H = some (.val v H) := by simp [lop, lop1, ao_of hL hc, ao_of hL hx, ao_of hL hy, onlyVal]
theorem lop_pick (hL : Agree L fr) {c x y : Operand} {t : Bool} {u v : Value} (hc : aoN P H L c = some (.bool t)) (hx : aoN P H L x = some u) (hy : aoN P H L y = some v) : lop P (.pick c x y) fr H = some (.val (bif t then u else v) H) := by simp [lop, lop1, ao_of hL hc, ao_of hL hx, ao_of hL hy, onlyVal]
theorem lop_nil (hL : Agree L fr) {x : Operand} {v u : Value} (hx : aoN P H L x = some v) (hn : lnil v = some u) : lop P (.nilCheck x) fr H = some (.val u H) := by simp [lop, lop1, ao_of hL hx, hn, onlyVal]
theorem lop_load (hL : Agree L fr) {t : TypeId} {x : Operand} {b o : Nat} {B : Blk} {c : Value} (hx : aoN P H L x = some (.pointer (some ⟨b, o, none⟩))) (hb : H.f b = some B) (ht : aggT P t = some false) (hc : B.cell o = some c) :
    lop P (.load t x) fr H = some (.val c H) := by simp [lop, lop1, ao_of hL hx, lload, addr0, hb, ht, hc, onlyVal]
theorem lop_loadA (hL : Agree L fr) {t : TypeId} {x : Operand} {b o n : Nat} {B : Blk} {cs : List Value} (hx : aoN P H L x = some (.pointer (some ⟨b, o, none⟩))) (hb : H.f b = some B) (ht : aggT P t = some true) (hn0 : szN P t = some n) (hc : B.sub o n = some cs) :
    lop P (.load t x) fr H = some (.val (.agg cs.toArray) H) := by
  have hn := szN_eq hn0
  simp [lop, lop1, ao_of hL hx, lload, addr0, hb, ht, hn, hc, onlyVal]
theorem lop_store (hL : Agree L fr) {t : TypeId} {x y : Operand} {b o n : Nat} {B B' : Blk} {v : Value} (hx : aoN P H L x = some (.pointer (some ⟨b, o, none⟩))) (hy : aoN P H L y = some v) (hb : H.f b = some B) (hn : szT P t = some n)
    (hl : (cellsOf v).length = n) (hc : B.setcs o (cellsOf v) = some B') : lop P (.store t x y) fr H = some (.val undef (H.set b B')) := by
  simp [lop, lop1, ao_of hL hx, ao_of hL hy, lstore, addr0, hb, hn, hl, hc, onlyVal]
theorem lop_bin (hL : Agree L fr) {op : BinOp} {t t' : TypeId} {x y : Operand} {a b v : Value} (hx : aoN P H L x = some a) (hy : aoN P H L y = some b) (h : lbin P op t x y a b = some v) : lop P (.binOp op t x y t') fr H = some (.val v H) := by
  simp [lop, lop1, ao_of hL hx, ao_of hL hy, h, onlyVal]
theorem lop_un (hL : Agree L fr) {op : UnOp} {t : TypeId} {x : Operand} {a v : Value} (hx : aoN P H L x = some a) (h : lun op a = some v) : lop P (.unOp op t x) fr H = some (.val v H) := by
  simp [lop, lop1, ao_of hL hx, h, onlyVal]
theorem lop_not0 (hL : Agree L fr) {t : TypeId} {x : Operand} (hx : aoN P H L x = some (.bool false)) : lop P (.unOp .not t x) fr H = some (.val (.bool true) H) := lop_un hL hx rfl
theorem lop_not1 (hL : Agree L fr) {t : TypeId} {x : Operand} (hx : aoN P H L x = some (.bool true)) : lop P (.unOp .not t x) fr H = some (.val (.bool false) H) := lop_un hL hx rfl
theorem lop_conv (hL : Agree L fr) {s d : TypeId} {x : Operand} {a v : Value} {H' : Hp} (hx : aoN P H L x = some a) (h : lconv P s d a H = some (.val v H')) : lop P (.convert s d x) fr H = some (.val v H') := by
  simp [lop, lop1, ao_of hL hx, h, onlyVal]
/-- A string's bytes. -/
theorem lop_convSB (hL : Agree L fr) {s d e : TypeId} {x : Operand} {l : List UInt8} (hx : aoN P H L x = some (S l)) (hs : P.underlying s = some .string) (hd : P.underlying d = some (.slice e)) (he : isU8T P e = true) :
    lop P (.convert s d x) fr H = some (.val (.slice (some ⟨H.n, 0, none⟩) l.length l.length) (H.new (.ints true .u8 (l.map fun c => (c.toNat : Int))))) := by
  refine lop_conv hL hx ?_
  simp only [lconv, hs, hd, S, he, lnew]
  rfl
/-- Bytes as a string. -/
theorem bytes_back (l : List UInt8) : bytesOf (l.map fun c => (c.toNat : Int)) = l := by
  unfold bytesOf
  rw [List.map_map]
  conv => rhs; rw [← List.map_id l]
  refine List.map_congr_left fun c _ => ?_
  simp
theorem lop_convBS (hL : Agree L fr) {s d e : TypeId} {x : Operand} {b o n c : Nat} {r : Bool} {l : List UInt8} (hx : aoN P H L x = some (.slice (some ⟨b, o, none⟩) n c)) (hs : P.underlying s = some (.slice e)) (hd : P.underlying d = some .string) (he : isU8T P e = true)
    (hb : H.f b = some (.ints r .u8 (l.map fun c => (c.toNat : Int)))) (hn : o + n ≤ l.length) : lop P (.convert s d x) fr H = some (.val (S ((l.drop o).take n)) H) := by
  refine lop_conv hL hx ?_
  simp only [lconv, hs, hd, he, if_true, hb]
  split
  · rename_i h0; subst h0; simp [S]
  · rw [if_pos (by simp only [List.length_map]; exact ⟨hn, trivial⟩), ← List.map_drop, ← List.map_take, bytes_back]; rfl
theorem lop_convBS0 (hL : Agree L fr) {s d e : TypeId} {x : Operand} {c : Nat} (hx : aoN P H L x = some (.slice none 0 c)) (hs : P.underlying s = some (.slice e)) (hd : P.underlying d = some .string) (he : isU8T P e = true) :
    lop P (.convert s d x) fr H = some (.val (S []) H) := by
  refine lop_conv hL hx ?_
  simp only [lconv, hs, hd, he, if_true]; rfl
def isIfT (P : Program) (t : TypeId) : Option Bool := match P.underlying t with
  | some (.interface _) => some true
  | some _ => some false
  | none => none
theorem lop_mkif (hL : Agree L fr) {t : TypeId} {x : Operand} {v : Value} (hx : aoN P H L x = some v) (h : isIfT P t = some false) : lop P (.makeInterface t x) fr H = some (.val (.iface t v) H) := by
  simp only [lop, lop1, ao_of hL hx, Option.bind_some]
  unfold isIfT at h
  generalize P.underlying t = u at h ⊢
  cases u with
  | none => cases h
  | some d => cases d <;> first | (cases h; done) | rfl
theorem lop_mkfn (hL : Agree L fr) {fn : Fn} {a b : Array Operand} {l m : List Value} (ha : aosN P H L a.toList = some l) (hb : aosN P H L b.toList = some m) : lop P (.makeFunc fn a b) fr H = some (.val (.func fn l.toArray m.toArray) H) := by
  simp [lop, lop1, aos_of hL ha, aos_of hL hb, onlyVal]
theorem lop_field (hL : Agree L fr) {t : TypeId} {x : Operand} {f : Nat} {v : Value} {w : Value} {H' : Hp} (hx : aoN P H L x = some v) (h : lfield P t v f H = some (.val w H')) : lop P (.field t x f) fr H = some (.val w H') := by simp [lop, lop1, ao_of hL hx, h, onlyVal]
theorem lop_fa (hL : Agree L fr) {t : TypeId} {x : Operand} {f b o off : Nat} (hx : aoN P H L x = some (.pointer (some ⟨b, o, none⟩))) (hf : faN P t f = some off) :
    lop P (.fieldAddr t x f) fr H = some (.val (.pointer (some ⟨b, o + off, none⟩)) H) := by
  unfold faN at hf
  split at hf
  · rename_i fs hfs
    split at hf
    · rename_i fd hfd
      split at hf
      · cases hf
      · rename_i k hk1 hk
        have := litN_eq hf; subst this
        have hne : ¬ k = 0 := fun e => hk1 e
        simp [lop, lop1, ao_of hL hx, lfieldAddr, addr0, hfs, hfd, hk, hne, onlyVal]
      · cases hf
    · cases hf
  · cases hf
/-- A slice's element's place. -/
theorem lop_ia (hL : Agree L fr) {t e : TypeId} {x y : Operand} {b o n c sz : Nat} {k : IntKind} {i : Int} (hx : aoN P H L x = some (.slice (some ⟨b, o, none⟩) n c)) (hy : aoN P H L y = some (.int k i)) (ht : P.underlying t = some (.slice e)) (hs0 : szN P e = some sz)
    (h0 : 0 ≤ i) (hn : i < n) : lop P (.indexAddr t x y) fr H = some (.val (.pointer (some ⟨b, o + i.toNat * sz, none⟩)) H) := by
  have hs := szN_eq hs0
  simp [lop, lop1, ao_of hL hx, ao_of hL hy, lindexAddr, ht, hs, h0, hn, onlyVal]
theorem lop_iaA (hL : Agree L fr) {t e : TypeId} {x y : Operand} {b o n sz : Nat} {k : IntKind} {i : Int} (hx : aoN P H L x = some (.pointer (some ⟨b, o, none⟩))) (hy : aoN P H L y = some (.int k i)) (ht : P.underlying t = some (.array n e)) (hs0 : szN P e = some sz)
    (h0 : 0 ≤ i) (hn : i < n) : lop P (.indexAddr t x y) fr H = some (.val (.pointer (some ⟨b, o + i.toNat * sz, none⟩)) H) := by
  have hs := szN_eq hs0
  simp [lop, lop1, ao_of hL hx, ao_of hL hy, lindexAddr, ht, hs, addr0, h0, hn, onlyVal]
/-- A string's byte. -/
theorem lop_ixS (hL : Agree L fr) {t : TypeId} {x y : Operand} {l : List UInt8} {k : IntKind} {i : Int} {c : UInt8} (hx : aoN P H L x = some (S l)) (hy : aoN P H L y = some (.int k i)) (ht : P.underlying t = some .string) (h0 : 0 ≤ i) (hc : l[i.toNat]? = some c) :
    lop P (.index t x y) fr H = some (.val (.int .u8 c.toNat) H) := by
  simp [lop, lop1, ao_of hL hx, ao_of hL hy, lindex, ht, S, h0, hc, onlyVal]
theorem lop_ix (hL : Agree L fr) {t : TypeId} {x y : Operand} {a b : Value} {w : Value} {H' : Hp} (hx : aoN P H L x = some a) (hy : aoN P H L y = some b) (h : lindex P t a b H = some (.val w H')) : lop P (.index t x y) fr H = some (.val w H') := by
  simp [lop, lop1, ao_of hL hx, ao_of hL hy, h, onlyVal]
theorem lop_lookup (hL : Agree L fr) {t : TypeId} {x y : Operand} {a b : Value} {ok : Bool} {w : Value} {H' : Hp} (hx : aoN P H L x = some a) (hy : aoN P H L y = some b) (h : llookup P t a b ok H = some (.val w H')) : lop P (.lookup t x y ok) fr H = some (.val w H') := by
  simp [lop, lop1, ao_of hL hx, ao_of hL hy, h, onlyVal]
theorem lop_ex (hL : Agree L fr) {x : Operand} {i : Nat} {vs : Array Value} {v : Value} (hx : aoN P H L x = some (.tuple vs)) (h0 : vs.toList[i]? = some v) : lop P (.extract x i) fr H = some (.val v H) := by
  have h : vs[i]? = some v := by simpa using h0
  simp [lop, lop1, ao_of hL hx, h, onlyVal]
theorem lop_alloc (hL : Agree L fr) {t : TypeId} {z : Value} (h : lzero P t = some z) : lop P (.alloc t) fr H = some (.val (.pointer (some ⟨H.n, 0, none⟩)) (H.new (.cells true 1 (cellsOf z)))) := by
  simp [lop, lop1, h, lnew, onlyVal]
theorem lop_box (hL : Agree L fr) {t : TypeId} {x : Operand} {v : Value} (hx : aoN P H L x = some v) : lop P (.box t x) fr H = some (.val (.pointer (some ⟨H.n, 0, none⟩)) (H.new (.cells true 1 (cellsOf v)))) := by
  simp [lop, lop1, ao_of hL hx, lnew, onlyVal]
theorem lop_build (hL : Agree L fr) {t : TypeId} {ps : Array (Nat × Operand)} {l : List (Nat × Value)} {w : Value} {H' : Hp} (hp : partsN P H L ps.toList = some l) (h : lbuild P t l H = some (.val w H')) : lop P (.build t ps) fr H = some (.val w H') := by
  simp only [lop, lop1, mapO_of hL hp, Option.bind_some, h, onlyVal]
theorem lop_bslice (hL : Agree L fr) {t : TypeId} {n : Nat} {ps : Array (Nat × Operand)} {l : List (Nat × Value)} {w : Value} {H' : Hp} (hp : partsN P H L ps.toList = some l) (h : lbuildSlice P t n l H = some (.val w H')) : lop P (.buildSlice t n ps) fr H = some (.val w H') := by
  simp only [lop, lop1, mapO_of hL hp, Option.bind_some, h, onlyVal]
/-- Slices of slices, and of strings. -/
def optN (P : Program) (H : Hp) (L : Nat → Option Value) : Option Operand → Option (Option Value)
  | none => some none
  | some x => match aoN P H L x with
    | some v => some (some v)
    | none => none
theorem optO_of (hL : Agree L fr) {x : Option Operand} {v : Option Value} (h : optN P H L x = some v) : optO (ao P H fr) x = some v := by
  cases x with
  | none => exact h
  | some x =>
    simp only [optN] at h
    split at h
    · rename_i u hu; simp only [optO, ao_of hL hu]; exact h
    · cases h
theorem lop_slice (hL : Agree L fr) {t : TypeId} {x : Operand} {lo hi mx : Option Operand} {v : Value} {a b c : Option Value} {w : Value} {H' : Hp} (hx : aoN P H L x = some v) (h1 : optN P H L lo = some a) (h2 : optN P H L hi = some b) (h3 : optN P H L mx = some c)
    (h : lsliceAt P t v a b c H = some (.val w H')) : lop P (.slice t x lo hi mx) fr H = some (.val w H') := by
  simp only [lop, lop1, ao_of hL hx, optO_of hL h1, optO_of hL h2, optO_of hL h3, Option.bind_some, h, onlyVal]
theorem lsliceS {t : TypeId} {l : List UInt8} {lo hi : Option Value} {i j : Nat} (ht : P.underlying t = some .string) (hh : lbound l.length hi l.length = some j) (hl : lbound j lo 0 = some i) : lsliceAt P t (S l) lo hi none H = some (.val (S ((l.drop i).take (j - i))) H) := by
  have hs : ByteArray.size ⟨l.toArray⟩ = l.length := by simp [ByteArray.size]
  simp [lsliceAt, ht, lslice, S, hs, hh, hl]
theorem lsliceL {t e : TypeId} {b o n c sz i j : Nat} {B : Blk} {lo hi : Option Value} (ht : P.underlying t = some (.slice e)) (hh : lbound n hi n = some j) (hl : lbound j lo 0 = some i) (hs0 : szN P e = some sz) (hb : H.f b = some B) (he : B.esz = sz) (hr : B.isRow = true) :
    lsliceAt P t (.slice (some ⟨b, o, none⟩) n c) lo hi none H = some (.val (.slice (some ⟨b, o + i * sz, none⟩) (j - i) (j - i)) H) := by
  have hs := szN_eq hs0
  have h0 : ∀ d, lbound n none d = some d := fun _ => rfl
  simp [lsliceAt, ht, lslice, h0, hh, hl, hs, hb, he, hr]
theorem lsliceL3 {t e : TypeId} {b o n c sz i j m : Nat} {B : Blk} {lo : Option Value} {hv mv : Value} (ht : P.underlying t = some (.slice e)) (hm : lbound n (some mv) n = some m) (hh : lbound m (some hv) n = some j) (hl : lbound j lo 0 = some i) (hs0 : szN P e = some sz) (hb : H.f b = some B) (he : B.esz = sz) (hr : B.isRow = true) :
    lsliceAt P t (.slice (some ⟨b, o, none⟩) n c) lo (some hv) (some mv) H = some (.val (.slice (some ⟨b, o + i * sz, none⟩) (j - i) (j - i)) H) := by
  have hs := szN_eq hs0
  simp [lsliceAt, ht, lslice, hm, hh, hl, hs, hb, he, hr]
theorem lsliceL1 {t e : TypeId} {b o n c i j : Nat} {B : Blk} {lo hi : Option Value} (ht : P.underlying t = some (.slice e)) (hh : lbound n hi n = some j) (hl : lbound j lo 0 = some i) (hs : szN P e = some 1) (hb : H.f b = some B) (he : B.esz = 1) (hr : B.isRow = true) :
    lsliceAt P t (.slice (some ⟨b, o, none⟩) n c) lo hi none H = some (.val (.slice (some ⟨b, o + i, none⟩) (j - i) (j - i)) H) := by
  have := lsliceL (o := o) (c := c) ht hh hl hs hb he hr
  rwa [Nat.mul_one] at this
theorem lsliceL31 {t e : TypeId} {b o n c i j m : Nat} {B : Blk} {lo : Option Value} {hv mv : Value} (ht : P.underlying t = some (.slice e)) (hm : lbound n (some mv) n = some m) (hh : lbound m (some hv) n = some j) (hl : lbound j lo 0 = some i) (hs : szN P e = some 1) (hb : H.f b = some B) (he : B.esz = 1) (hr : B.isRow = true) :
    lsliceAt P t (.slice (some ⟨b, o, none⟩) n c) lo (some hv) (some mv) H = some (.val (.slice (some ⟨b, o + i, none⟩) (j - i) (j - i)) H) := by
  have := lsliceL3 (o := o) (c := c) ht hm hh hl hs hb he hr
  rwa [Nat.mul_one] at this
theorem lop_ia1 (hL : Agree L fr) {t e : TypeId} {x y : Operand} {b o n c : Nat} {k : IntKind} {i : Int} (hx : aoN P H L x = some (.slice (some ⟨b, o, none⟩) n c)) (hy : aoN P H L y = some (.int k i)) (ht : P.underlying t = some (.slice e)) (hs : szN P e = some 1)
    (h0 : 0 ≤ i) (hn : i < n) : lop P (.indexAddr t x y) fr H = some (.val (.pointer (some ⟨b, o + i.toNat, none⟩)) H) := by
  have := lop_ia hL hx hy ht hs h0 hn
  rwa [Nat.mul_one] at this
theorem lbound0 {n : Nat} {d : Nat} : lbound n none d = some d := rfl
theorem lboundI {n : Nat} {d : Nat} {k : IntKind} {i : Int} (h0 : 0 ≤ i) (h1 : i ≤ n) : lbound n (some (.int k i)) d = some i.toNat := by simp [lbound, h0, h1]

/-- A builtin. -/
theorem lop_built (hL : Agree L fr) {c : Call} {b : Builtin} {l : List Value} {w : Value} {H' : Hp} (hc : c.callee = .builtin b) (ha : aosN P H L c.args.toList = some l) (h : lbuiltin P b c.argTypes.toList l H = some (.val w H')) : lop P (.call c) fr H = some (.val w H') := by
  simp only [lop, lcall, aos_of hL ha, Option.bind_some, hc, h, onlyVal]
theorem lbuiltin_lenS {t : TypeId} {ts : List TypeId} {l : List UInt8} (ht : P.underlying t = some .string) : lbuiltin P .len (t :: ts) [S l] H = some (.val (.int .i64 l.length) H) := by
  simp [lbuiltin, llen, ht, S, ByteArray.size]
theorem lbuiltin_lenL {t e : TypeId} {ts : List TypeId} {a : Option Addr} {n c : Nat} (ht : P.underlying t = some (.slice e)) : lbuiltin P .len (t :: ts) [.slice a n c] H = some (.val (.int .i64 n) H) := by
  simp [lbuiltin, llen, ht]
theorem lop_func (hL : Agree L fr) {c : Call} {x : Operand} {g : FuncId} {l : List Value} {fs cs : Array Value} (hc : c.callee = .value x) (hx : aoN P H L x = some (.func (.func g) fs cs)) (ha : aosN P H L c.args.toList = some l) : lop P (.call c) fr H = some (.call g (fs.toList ++ l ++ cs.toList) H) := by
  simp only [lop, lcall, aos_of hL ha, Option.bind_some, hc, ao_of hL hx]
theorem lop_invoke (hL : Agree L fr) {c : Call} {x : Operand} {m : String} {t : TypeId} {v : Value} {g : FuncId} {l : List Value} (hc : c.callee = .invoke x m) (hx : aoN P H L x = some (.iface t v)) (hm : lmethod P t m = some g) (ha : aosN P H L c.args.toList = some l) : lop P (.call c) fr H = some (.call g (v :: l) H) := by
  simp only [lop, lcall, aos_of hL ha, Option.bind_some, hc, ao_of hL hx, hm]

/-- A test whose answer is known from elsewhere. -/
theorem lop_binT (hL : Agree L fr) {op : BinOp} {t t' : TypeId} {x y : Operand} {a b : Value} {r : Bool} (hx : aoN P H L x = some a) (hy : aoN P H L y = some b) (h : lbin P op t x y a b = some (.bool r)) (hr : r = true) : lop P (.binOp op t x y t') fr H = some (.val (.bool true) H) := by
  subst hr; exact lop_bin hL hx hy h
theorem lop_binF (hL : Agree L fr) {op : BinOp} {t t' : TypeId} {x y : Operand} {a b : Value} {r : Bool} (hx : aoN P H L x = some a) (hy : aoN P H L y = some b) (h : lbin P op t x y a b = some (.bool r)) (hr : r = false) : lop P (.binOp op t x y t') fr H = some (.val (.bool false) H) := by
  subst hr; exact lop_bin hL hx hy h
/-- Guards. -/
theorem guard0 {ops : Array Oper} {o : Oper} (h : o.guard = none) : guardOk ops fr o = true := by unfold guardOk; rw [h]
theorem guard1 (hL : Agree L fr) {ops : Array Oper} {o : Oper} {j : Nat} {w b : Bool} {t : Tmp} (h : o.guard = some (j, w)) (hj : (ops[j]?).bind (·.dst) = some t) (hv : L t = some (.bool b)) : guardOk ops fr o = (b == w) := by
  unfold guardOk; simp only [h, hj, Option.bind_some, hL t _ hv]
theorem guardOn (hL : Agree L fr) {ops : Array Oper} {o : Oper} {j : Nat} {w b : Bool} {t : Tmp} (h : o.guard = some (j, w)) (hj : (ops[j]?).bind (·.dst) = some t) (hv : L t = some (.bool b)) (hb : (b == w) = true) : guardOk ops fr o = true := by rw [guard1 hL h hj hv, hb]
theorem guardOff (hL : Agree L fr) {ops : Array Oper} {o : Oper} {j : Nat} {w b : Bool} {t : Tmp} (h : o.guard = some (j, w)) (hj : (ops[j]?).bind (·.dst) = some t) (hv : L t = some (.bool b)) (hb : (b == w) = false) : guardOk ops fr o = false := by rw [guard1 hL h hj hv, hb]

/-- An operation of a kind: its value goes into a slot, or nowhere. -/
theorem TO.w {n : Nat} {base : Frame} {log : List (Nat × Value)} {ops : Array Oper} {o : Oper} {rest : List Oper} {H' : Hp} {v : Value} {d : Tmp} {Q : Frame → Hp → Prop} (hn : base.length = n) (op : Op) (ho : o.op = op)
    (hg : guardOk ops (mkF base log) o = true) (hl : lop P op (mkF base log) H = some (.val v H')) (hd : o.dst = some d) (h : TO P ops rest (mkF base ((d, v) :: log)) H' Q) : TO P ops (o :: rest) (mkF base log) H Q :=
  TO.val hg (by rw [ho]; exact hl) (by rw [hd]; exact h)
theorem TO.w0 {n : Nat} {base : Frame} {log : List (Nat × Value)} {ops : Array Oper} {o : Oper} {rest : List Oper} {H' : Hp} {v : Value} {Q : Frame → Hp → Prop} (hn : base.length = n) (op : Op) (ho : o.op = op)
    (hg : guardOk ops (mkF base log) o = true) (hl : lop P op (mkF base log) H = some (.val v H')) (hd : o.dst = none) (h : TO P ops rest (mkF base log) H' Q) : TO P ops (o :: rest) (mkF base log) H Q :=
  TO.val hg (by rw [ho]; exact hl) (by rw [hd]; exact h)
theorem TO.woff {n : Nat} {base : Frame} {log : List (Nat × Value)} {ops : Array Oper} {o : Oper} {rest : List Oper} {d : Tmp} {Q : Frame → Hp → Prop} (hn : base.length = n)
    (hg : guardOk ops (mkF base log) o = false) (hd : o.dst = some d) (h : TO P ops rest (mkF base ((d, undef) :: log)) H Q) : TO P ops (o :: rest) (mkF base log) H Q :=
  TO.off hg (by rw [hd]; exact h)
theorem TO.woff0 {n : Nat} {base : Frame} {log : List (Nat × Value)} {ops : Array Oper} {o : Oper} {rest : List Oper} {Q : Frame → Hp → Prop} (hn : base.length = n)
    (hg : guardOk ops (mkF base log) o = false) (hd : o.dst = none) (h : TO P ops rest (mkF base log) H Q) : TO P ops (o :: rest) (mkF base log) H Q :=
  TO.off hg (by rw [hd]; exact h)
/-- A call: its answer goes into a slot. -/
theorem TO.wc {n : Nat} {base : Frame} {log : List (Nat × Value)} {ops : Array Oper} {o : Oper} {rest : List Oper} {H' : Hp} {d : Tmp} {f : FuncId} {args : List Value} {R : Value → Hp → Prop} {Q : Frame → Hp → Prop} (hn : base.length = n) (op : Op) (ho : o.op = op)
    (hg : guardOk ops (mkF base log) o = true) (hl : lop P op (mkF base log) H = some (.call f args H')) (hd : o.dst = some d) (hc : CO P f args H' R) (h : ∀ v H2, R v H2 → TO P ops rest (mkF base ((d, v) :: log)) H2 Q) : TO P ops (o :: rest) (mkF base log) H Q :=
  TO.call hg (by rw [ho]; exact hl) (hc.mono fun v H2 hr => by rw [hd]; exact h v H2 hr)
theorem TO.wc0 {n : Nat} {base : Frame} {log : List (Nat × Value)} {ops : Array Oper} {o : Oper} {rest : List Oper} {H' : Hp} {f : FuncId} {args : List Value} {R : Value → Hp → Prop} {Q : Frame → Hp → Prop} (hn : base.length = n) (op : Op) (ho : o.op = op)
    (hg : guardOk ops (mkF base log) o = true) (hl : lop P op (mkF base log) H = some (.call f args H')) (hd : o.dst = none) (hc : CO P f args H' R) (h : ∀ v H2, R v H2 → TO P ops rest (mkF base log) H2 Q) : TO P ops (o :: rest) (mkF base log) H Q :=
  TO.call hg (by rw [ho]; exact hl) (hc.mono fun v H2 hr => by rw [hd]; exact h v H2 hr)

/-- A body begins. -/
theorem CF.go {f : FuncId} {fn : Func} {c : Code} {args : List Value} {R : Value → Hp → Prop} (n : Nat) (hf : P.funcs[f]? = some fn) (hb : fn.body = some c) (hn : args.length ≤ n ∧ fn.ntmps = n)
    (h : ∀ base : Frame, base = args ++ List.replicate (n - args.length) undef → base.length = n → TC P c (mkF base []) H fun x fr H' => (match x with | .exit _ => False | _ => True) ∧ ∃ v, lresults P fn fr H' = some v ∧ R v H') : CF P f args H R := by
  refine CF.body hf hb ?_
  rw [hn.2]
  exact h _ rfl (by simp; omega)
/-- What it hands back. -/
def resN (L : Nat → Option Value) : List ResultVar → Option (List Value)
  | [] => some []
  | .tmp t :: r => match L t with
    | some v => match resN L r with
      | some l => some (v :: l)
      | none => none
    | none => none
  | _ => none
theorem lres_go (hL : Agree L fr) : ∀ {rs : List ResultVar} {l : List Value}, resN L rs = some l → lresults.go P fr H rs = some l
  | [], l, h => h
  | .cell _ _ :: _, l, h => by simp [resN] at h
  | .tmp t :: r, l, h => by
    simp only [resN] at h
    split at h
    · rename_i v hv
      split at h
      · rename_i l' hl
        simp only [lresults.go, lres_go hL hl, Option.bind_some, List.getD_eq_getElem?_getD, hL t v hv]
        exact h
      · cases h
    · cases h
theorem lres1 (hL : Agree L fr) {fn : Func} {v : Value} (h : resN L fn.results.toList = some [v]) : lresults P fn fr H = some v := by
  unfold lresults; simp only [lres_go hL h, Option.bind_some]
theorem lresT (hL : Agree L fr) {fn : Func} {l : List Value} (h : resN L fn.results.toList = some l) (h0 : Nat.beq l.length 1 = false) : lresults P fn fr H = some (.tuple l.toArray) := by
  have h1 : l.length ≠ 1 := fun e => by rw [e] at h0; cases h0
  unfold lresults; simp only [lres_go hL h, Option.bind_some]
  match l, h1 with
  | [], _ => rfl
  | [_], h1 => exact absurd rfl h1
  | _ :: _ :: _, _ => rfl

/-- A test whose answer is known. -/
theorem TC.condT (hL : Agree L fr) {c : Operand} {x y : Code} {Q : AX → Frame → Hp → Prop} {t : Bool} (hc : aoN P H L c = some (.bool t)) (ht : t = true) (h : TC P x fr H Q) : TC P (.cond c x y) fr H Q :=
  TC.cond (ao_of hL hc) (fun _ => h) (fun h2 => by rw [ht] at h2; cases h2)
theorem TC.condF (hL : Agree L fr) {c : Operand} {x y : Code} {Q : AX → Frame → Hp → Prop} {t : Bool} (hc : aoN P H L c = some (.bool t)) (ht : t = false) (h : TC P y fr H Q) : TC P (.cond c x y) fr H Q :=
  TC.cond (ao_of hL hc) (fun h2 => by rw [ht] at h2; cases h2) (fun _ => h)
theorem TC.condE (hL : Agree L fr) {c : Operand} {x y : Code} {Q : AX → Frame → Hp → Prop} {t : Bool} (hc : aoN P H L c = some (.bool t)) (h1 : t = true → TC P x fr H Q) (h2 : t = false → TC P y fr H Q) : TC P (.cond c x y) fr H Q :=
  TC.cond (ao_of hL hc) h1 h2
end
end Go.Lite
