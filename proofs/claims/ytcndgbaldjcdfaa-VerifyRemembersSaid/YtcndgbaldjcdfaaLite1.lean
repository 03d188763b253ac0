/- Lite, part 1: abstract values and blocks, and how they stand to the model's values and memory. -/
import Derived.Calls
import Derived.Tactics
namespace Go.Lite
open Go

/-- Where an abstract block lies: the model's block, the cell at which it begins, cells an element of its slices, cells of the model's block. -/
structure Info where
  blk : Nat
  base : Nat
  esz : Nat
  cap : Nat

/-- An abstract value and the model's. -/
inductive VR (μ : List Info) : Value → Value → Prop
  | bool (b : Bool) : VR μ (.bool b) (.bool b)
  | int (k : IntKind) (n : Int) : VR μ (.int k n) (.int k n)
  | float (k : FloatKind) (b : Nat) : VR μ (.float k b) (.float k b)
  | string (s : ByteArray) : VR μ (.string s) (.string s)
  | ptr0 : VR μ (.pointer none) (.pointer none)
  | ptr {b o : Nat} {i : Info} : μ[b]? = some i → VR μ (.pointer (some ⟨b, o, none⟩)) (.pointer (some ⟨i.blk, i.base + o, none⟩))
  | sl0 : VR μ (.slice none 0 0) (.slice none 0 0)
  | sl {b o n c c' : Nat} {a : Addr} {i : Info} : μ[b]? = some i → n ≤ c' → (c' = 0 ∨ (a = ⟨i.blk, i.base + o, none⟩ ∧ i.base + o + c' * i.esz ≤ i.cap)) →
      VR μ (.slice (some ⟨b, o, none⟩) n c) (.slice (some a) n c')
  | map0 : VR μ (.map none) (.map none)
  | map {b : Nat} {i : Info} : μ[b]? = some i → VR μ (.map (some b)) (.map (some i.blk))
  | func {fn : Fn} {f f' c c' : Array Value} : f.size = f'.size → (∀ (k : Nat) (v v' : Value), f[k]? = some v → f'[k]? = some v' → VR μ v v') →
      c.size = c'.size → (∀ (k : Nat) (v v' : Value), c[k]? = some v → c'[k]? = some v' → VR μ v v') → VR μ (.func fn f c) (.func fn f' c')
  | nilFunc : VR μ .nilFunc .nilFunc
  | iface {t : TypeId} {v v' : Value} : VR μ v v' → VR μ (.iface t v) (.iface t v')
  | nilIface : VR μ .nilIface .nilIface
  | agg {c c' : Array Value} : c.size = c'.size → (∀ (k : Nat) (v v' : Value), c[k]? = some v → c'[k]? = some v' → VR μ v v') → VR μ (.agg c) (.agg c')
  | tuple {c c' : Array Value} : c.size = c'.size → (∀ (k : Nat) (v v' : Value), c[k]? = some v → c'[k]? = some v' → VR μ v v') → VR μ (.tuple c) (.tuple c')

/-- One map of places says no less than another. -/
def Ext (μ μ' : List Info) : Prop := ∀ (b : Nat) (i : Info), μ[b]? = some i → μ'[b]? = some i

theorem Ext.refl (μ : List Info) : Ext μ μ := fun _ _ h => h
theorem Ext.trans {a b c : List Info} (h : Ext a b) (k : Ext b c) : Ext a c := fun x i hx => k x i (h x i hx)
theorem Ext.snoc (μ : List Info) (i : Info) : Ext μ (μ ++ [i]) := fun b j h => by
  have hb : b < μ.length := by
    rcases Nat.lt_or_ge b μ.length with h1 | h1
    · exact h1
    · rw [List.getElem?_eq_none h1] at h; cases h
  rw [List.getElem?_append_left hb]; exact h

theorem VR.mono {μ μ' : List Info} (hx : Ext μ μ') {v v' : Value} (h : VR μ v v') : VR μ' v v' := by
  induction h with
  | bool b => exact .bool b
  | int k n => exact .int k n
  | float k b => exact .float k b
  | string s => exact .string s
  | ptr0 => exact .ptr0
  | ptr h => exact .ptr (hx _ _ h)
  | sl0 => exact .sl0
  | sl h h1 h2 => exact .sl (hx _ _ h) h1 h2
  | map0 => exact .map0
  | map h => exact .map (hx _ _ h)
  | func h1 _ h2 _ i1 i2 => exact .func h1 i1 h2 i2
  | nilFunc => exact .nilFunc
  | iface _ ih => exact .iface ih
  | nilIface => exact .nilIface
  | agg h _ ih => exact .agg h ih
  | tuple h _ ih => exact .tuple h ih

/-- Lists of values, one by one. -/
def LR (μ : List Info) (xs ys : List Value) : Prop := xs.length = ys.length ∧ ∀ (k : Nat) (v v' : Value), xs[k]? = some v → ys[k]? = some v' → VR μ v v'

theorem LR.mono {μ μ' : List Info} (hx : Ext μ μ') {xs ys : List Value} (h : LR μ xs ys) : LR μ' xs ys := ⟨h.1, fun k v v' a b => (h.2 k v v' a b).mono hx⟩
theorem LR.nil (μ : List Info) : LR μ [] [] := ⟨rfl, fun k v v' a _ => by simp at a⟩
theorem LR.cons {μ : List Info} {x y : Value} {xs ys : List Value} (h : VR μ x y) (t : LR μ xs ys) : LR μ (x :: xs) (y :: ys) :=
  ⟨by simp [t.1], fun k v v' a b => by
    cases k with
    | zero => simp at a b; subst a; subst b; exact h
    | succ k => simp at a b; exact t.2 k v v' a b⟩
theorem LR.at_ {μ : List Info} {xs ys : List Value} (h : LR μ xs ys) {k : Nat} {v : Value} (hk : xs[k]? = some v) : ∃ v', ys[k]? = some v' ∧ VR μ v v' := by
  have hl : k < xs.length := by
    rcases Nat.lt_or_ge k xs.length with h1 | h1
    · exact h1
    · rw [List.getElem?_eq_none h1] at hk; cases hk
  have : k < ys.length := by rw [← h.1]; exact hl
  exact ⟨ys[k], List.getElem?_eq_getElem this, h.2 k v _ hk (List.getElem?_eq_getElem this)⟩
theorem LR.append {μ : List Info} {a b c d : List Value} (h : LR μ a b) (k : LR μ c d) : LR μ (a ++ c) (b ++ d) := by
  refine ⟨by simp [h.1, k.1], fun j v v' x y => ?_⟩
  rcases Nat.lt_or_ge j a.length with hj | hj
  · rw [List.getElem?_append_left hj] at x
    rw [List.getElem?_append_left (by rw [← h.1]; exact hj)] at y
    exact h.2 j v v' x y
  · rw [List.getElem?_append_right hj] at x
    rw [List.getElem?_append_right (by rw [← h.1]; exact hj)] at y
    rw [← h.1] at y
    exact k.2 _ v v' x y
theorem LR.take {μ : List Info} {a b : List Value} (h : LR μ a b) (n : Nat) : LR μ (a.take n) (b.take n) :=
  ⟨by simp [h.1], fun k v v' x y => by
    rw [List.getElem?_take] at x y
    split at x
    · rename_i hk; rw [if_pos hk] at y; exact h.2 k v v' x y
    · cases x⟩
theorem LR.drop {μ : List Info} {a b : List Value} (h : LR μ a b) (n : Nat) : LR μ (a.drop n) (b.drop n) :=
  ⟨by simp [h.1], fun k v v' x y => by
    rw [List.getElem?_drop] at x y
    exact h.2 _ v v' x y⟩
theorem LR.set {μ : List Info} {a b : List Value} (h : LR μ a b) {v v' : Value} (hv : VR μ v v') (n : Nat) : LR μ (a.set n v) (b.set n v') :=
  ⟨by simp [h.1], fun k x x' p q => by
    rw [List.getElem?_set] at p q
    split at p
    · rename_i hk
      rw [if_pos hk] at q
      split at p
      · rename_i h1
        rw [if_pos (by rw [← h.1]; exact h1)] at q
        simp at p q; subst p; subst q; exact hv
      · cases p
    · rename_i hk
      rw [if_neg hk] at q
      exact h.2 k x x' p q⟩

theorem VR.agg_inv {μ : List Info} {c : Array Value} {v' : Value} (h : VR μ (.agg c) v') : ∃ c', v' = .agg c' ∧ LR μ c.toList c'.toList := by
  cases h with
  | agg h1 h2 => exact ⟨_, rfl, by simp [h1], fun k v v' a b => h2 k v v' (by simpa using a) (by simpa using b)⟩
theorem VR.tuple_inv {μ : List Info} {c : Array Value} {v' : Value} (h : VR μ (.tuple c) v') : ∃ c', v' = .tuple c' ∧ LR μ c.toList c'.toList := by
  cases h with
  | tuple h1 h2 => exact ⟨_, rfl, by simp [h1], fun k v v' a b => h2 k v v' (by simpa using a) (by simpa using b)⟩
theorem VR.func_inv {μ : List Info} {fn : Fn} {f c : Array Value} {v' : Value} (h : VR μ (.func fn f c) v') :
    ∃ f' c', v' = .func fn f' c' ∧ LR μ f.toList f'.toList ∧ LR μ c.toList c'.toList := by
  cases h with
  | func h1 h2 h3 h4 =>
    exact ⟨_, _, rfl, ⟨by simp [h1], fun k v v' a b => h2 k v v' (by simpa using a) (by simpa using b)⟩, ⟨by simp [h3], fun k v v' a b => h4 k v v' (by simpa using a) (by simpa using b)⟩⟩
theorem VR.mk_agg {μ : List Info} {c c' : List Value} (h : LR μ c c') : VR μ (.agg c.toArray) (.agg c'.toArray) :=
  .agg (by simpa using h.1) fun k v v' a b => h.2 k v v' (by simpa using a) (by simpa using b)
theorem VR.mk_tuple {μ : List Info} {c c' : List Value} (h : LR μ c c') : VR μ (.tuple c.toArray) (.tuple c'.toArray) :=
  .tuple (by simpa using h.1) fun k v v' a b => h.2 k v v' (by simpa using a) (by simpa using b)
theorem VR.mk_func {μ : List Info} {fn : Fn} {f f' c c' : List Value} (h : LR μ f f') (k : LR μ c c') : VR μ (.func fn f.toArray c.toArray) (.func fn f'.toArray c'.toArray) :=
  .func (by simpa using h.1) (fun j v v' a b => h.2 j v v' (by simpa using a) (by simpa using b)) (by simpa using k.1) (fun j v v' a b => k.2 j v v' (by simpa using a) (by simpa using b))

/-- Values that lead nowhere: the model's value is the same. -/
def scal : Value → Bool
  | .bool _ | .int _ _ | .float _ _ | .string _ | .pointer none | .map none | .nilFunc | .nilIface => true
  | .slice none n c => n == 0 && c == 0
  | _ => false
theorem VR.scal_eq {μ : List Info} {v v' : Value} (h : VR μ v v') (hs : scal v = true) : v' = v := by
  cases h <;> first | rfl | (simp [scal] at hs)
theorem VR.of_scal (μ : List Info) {v : Value} (hs : scal v = true) : VR μ v v := by
  cases v with
  | bool b => exact .bool b
  | int k n => exact .int k n
  | float k b => exact .float k b
  | string s => exact .string s
  | pointer a => cases a with
    | none => exact .ptr0
    | some a => simp [scal] at hs
  | slice a n c => cases a with
    | none => simp [scal] at hs; obtain ⟨rfl, rfl⟩ := hs; exact .sl0
    | some a => simp [scal] at hs
  | map r => cases r with
    | none => exact .map0
    | some r => simp [scal] at hs
  | nilFunc => exact .nilFunc
  | nilIface => exact .nilIface
  | _ => simp [scal] at hs
theorem LR.of_scal (μ : List Info) {xs : List Value} (h : xs.all scal = true) : LR μ xs xs :=
  ⟨rfl, fun k v v' a b => by
    rw [a] at b; cases b
    exact VR.of_scal μ (List.all_eq_true.1 h v (List.mem_of_getElem? a))⟩

/-- Values of one cell. -/
def isOne : Value → Bool
  | .agg _ | .tuple _ => false
  | _ => true
theorem VR.isOne {μ : List Info} {v v' : Value} (h : VR μ v v') : isOne v' = isOne v := by cases h <;> rfl

def cellsOf : Value → List Value
  | .agg cs => cs.toList
  | v => [v]
theorem cellsOf_eq (v : Value) : v.cells.toList = cellsOf v := by cases v <;> rfl
theorem VR.cells {μ : List Info} {v v' : Value} (h : VR μ v v') : LR μ (cellsOf v) (cellsOf v') := by
  cases v with
  | agg c => obtain ⟨c', rfl, hl⟩ := h.agg_inv; exact hl
  | _ => cases h <;> exact LR.cons (by constructor <;> assumption) (LR.nil μ)

/-- Abstract blocks: cells; whole numbers of one kind; a map's entries; an iterator over a string. -/
inductive Blk where
  | cells (rw : Bool) (esz : Nat) (cs : List Value)
  | ints (rw : Bool) (k : IntKind) (xs : List Int)
  | map (es : List (Value × Value))
  | iter (s : ByteArray) (pos : Nat)

def Blk.rw : Blk → Bool
  | .cells r _ _ | .ints r _ _ => r
  | _ => true
def Blk.esz : Blk → Nat
  | .cells _ e _ => e
  | _ => 1
def Blk.row : Blk → List Value
  | .cells _ _ cs => cs
  | .ints _ k xs => xs.map (.int k)
  | _ => []
def Blk.isRow : Blk → Bool
  | .cells .. | .ints .. => true
  | _ => false

/-- The abstract heap: the next number; the blocks that are known; how many package-level variables may be led to. -/
structure Hp where
  n : Nat
  f : Nat → Option Blk
  g : Nat

def upd (f : Nat → Option Blk) (b : Nat) (x : Option Blk) : Nat → Option Blk := fun j => if j = b then x else f j
def Hp.set (H : Hp) (b : Nat) (x : Blk) : Hp := ⟨H.n, upd H.f b (some x), H.g⟩
def Hp.new (H : Hp) (x : Blk) : Hp := ⟨H.n + 1, upd H.f H.n (some x), H.g⟩
def Hp.move (H : Hp) (b : Nat) (x : Blk) : Hp := ⟨H.n + 1, upd (upd H.f b none) H.n (some x), H.g⟩

/-- A map's entries and the model's. -/
structure MR (μ : List Info) (es : List (Value × Value)) (A : Array MapEntry) (clock : Nat) : Prop where
  perm : ∃ l : List MapEntry, l.Perm A.toList ∧ es.length = l.length ∧ ∀ (k : Nat) (x : Value × Value) (e : MapEntry), es[k]? = some x → l[k]? = some e → e.key = x.1 ∧ scal x.1 = true ∧ VR μ x.2 e.val
  keys : (es.map (·.1)).Pairwise (fun a b => a ≠ b)
  born : (A.toList.map (·.born)).Pairwise (fun a b => a ≠ b)
  lt : ∀ e ∈ A.toList, e.born < clock

/-- A block of the abstract heap lies in the world. -/
def BR (μ : List Info) (i : Info) (w : World) : Blk → Prop
  | .map es => ∃ A c, w.heap[i.blk]? = some (.map A c) ∧ MR μ es A c
  | .iter s pos => i.base = 0 ∧ w.heap[i.blk]? = some (.stringIter s pos)
  | x => ∃ C e fz, w.heap[i.blk]? = some (.cells C e fz) ∧ C.size = i.cap ∧ x.esz = i.esz ∧ i.base + x.row.length ≤ C.size ∧
      (∀ (k : Nat) (v : Value), x.row[k]? = some v → ∃ v', C[i.base + k]? = some v' ∧ VR μ v v') ∧
      (x.rw = true → ∀ k, i.base ≤ k → k < C.size → ¬ (fz.1 ≤ k ∧ k < fz.2))

/-- What stays as it is round the abstract heap. -/
structure Env where
  os : Os
  tape : Nat → Question → Nat
  out : Array (Nat × ByteArray)
  kept : Nat → Option Obj

structure Rel (P : Program) (E : Env) (μ : List Info) (H : Hp) (w : World) : Prop where
  os : w.os = E.os
  tape : w.tape = E.tape
  out : w.output = E.out
  kept : ∀ c o, E.kept c = some o → w.heap[c]? = some o
  len : μ.length = H.n
  glob : ∀ g, g < H.g → ∃ i, μ[g]? = some i ∧ i.blk = g ∧ i.base = 0
  lt : ∀ (b : Nat) (i : Info), μ[b]? = some i → i.blk < w.heap.size
  blk : ∀ b x, H.f b = some x → ∃ i, μ[b]? = some i ∧ BR μ i w x
  own : ∀ b x i, H.f b = some x → x.rw = true → μ[b]? = some i → E.kept i.blk = none
  sep : ∀ b c x y i j, b ≠ c → H.f b = some x → H.f c = some y → x.rw = true → μ[b]? = some i → μ[c]? = some j → i.blk ≠ j.blk

/-- What changed in a step of the model's heap at the most: one block, and new ones. -/
theorem BR.mono {μ μ' : List Info} (hx : Ext μ μ') {i : Info} {w w' : World} (hw : w'.heap[i.blk]? = w.heap[i.blk]?) {x : Blk} (h : BR μ i w x) : BR μ' i w' x := by
  cases x with
  | map es =>
    obtain ⟨A, c, h1, ⟨l, hp, hl, hr⟩, h3, h4, h5⟩ := h
    exact ⟨A, c, hw.trans h1, ⟨⟨l, hp, hl, fun k x e a b => ⟨(hr k x e a b).1, (hr k x e a b).2.1, (hr k x e a b).2.2.mono hx⟩⟩, h3, h4, h5⟩⟩
  | iter s pos => exact ⟨h.1, hw.trans h.2⟩
  | cells r e cs =>
    obtain ⟨C, e, fz, h1, h2, h3, h4, h5, h6⟩ := h
    exact ⟨C, e, fz, hw.trans h1, h2, h3, h4, fun k v hk => let ⟨v', a, b⟩ := h5 k v hk; ⟨v', a, b.mono hx⟩, h6⟩
  | ints r k xs =>
    obtain ⟨C, e, fz, h1, h2, h3, h4, h5, h6⟩ := h
    exact ⟨C, e, fz, hw.trans h1, h2, h3, h4, fun k v hk => let ⟨v', a, b⟩ := h5 k v hk; ⟨v', a, b.mono hx⟩, h6⟩

theorem Rel.get {P : Program} {E : Env} {μ : List Info} {H : Hp} {w : World} (h : Rel P E μ H w) {b : Nat} {i : Info} (hb : μ[b]? = some i) : b < H.n := by
  rw [← h.len]
  rcases Nat.lt_or_ge b μ.length with h1 | h1
  · exact h1
  · rw [List.getElem?_eq_none h1] at hb; cases hb

/-- A draw turns nothing. -/
theorem Rel.drew {P : Program} {E : Env} {μ : List Info} {H : Hp} {w : World} (h : Rel P E μ H w) (d : Nat) : Rel P E μ H { w with drawn := d } :=
  ⟨h.os, h.tape, h.out, h.kept, h.len, h.glob, h.lt, fun b x hb => let ⟨i, a, c⟩ := h.blk b x hb; ⟨i, a, BR.mono (Ext.refl μ) (w := w) rfl c⟩, h.own, h.sep⟩

/-- A new block of the model's becomes a new one of the abstract heap. -/
theorem Rel.new {P : Program} {E : Env} {μ : List Info} {H : Hp} {w : World} (h : Rel P E μ H w) (o : Obj) (i : Info) (hi : i.blk = w.heap.size) (x : Blk)
    (hx : BR (μ ++ [i]) i { w with heap := w.heap.push o } x) : Rel P E (μ ++ [i]) (H.new x) { w with heap := w.heap.push o } := by
  have hold : ∀ c, c < w.heap.size → (w.heap.push o)[c]? = w.heap[c]? := fun c hc => by rw [Array.getElem?_push, if_neg (by omega)]
  have hlast : (μ ++ [i])[H.n]? = some i := by rw [← h.len]; simp
  have hE : E.kept w.heap.size = none := by
    cases hk : E.kept w.heap.size with
    | none => rfl
    | some o' => have := h.kept _ _ hk; rw [Array.getElem?_eq_none (Nat.le_refl _)] at this; cases this
  have hext := Ext.snoc μ i
  have hfr : ∀ b y, H.f b = some y → b ≠ H.n := fun b y hb e => by
    obtain ⟨j, hj, _⟩ := h.blk b y hb
    have := h.get hj
    omega
  have hup : ∀ b y, (H.new x).f b = some y → (b = H.n ∧ y = x) ∨ (b ≠ H.n ∧ H.f b = some y) := fun b y hb => by
    simp only [Hp.new, upd] at hb
    split at hb
    · rename_i e; simp at hb; exact .inl ⟨e, hb.symm⟩
    · rename_i e; exact .inr ⟨e, hb⟩
  refine ⟨h.os, h.tape, h.out, fun c o' hc => ?_, by simp [Hp.new, h.len], fun g hg => ?_, fun b j hj => ?_, fun b y hb => ?_, fun b y j hb hr hj => ?_, fun b c y z j k hne hb hc hr hj hk => ?_⟩
  · have := h.kept c o' hc
    have hlt : c < w.heap.size := by
      rcases Nat.lt_or_ge c w.heap.size with h1 | h1
      · exact h1
      · rw [Array.getElem?_eq_none h1] at this; cases this
    exact (hold c hlt).trans this
  · obtain ⟨j, a, b⟩ := h.glob g hg; exact ⟨j, hext _ _ a, b⟩
  · simp only [Array.size_push]
    rw [List.getElem?_append] at hj
    split at hj
    · have := h.lt b j hj; omega
    · simp only [List.getElem?_singleton] at hj; split at hj
      · simp at hj; subst hj; omega
      · cases hj
  · rcases hup b y hb with ⟨rfl, rfl⟩ | ⟨_, hb⟩
    · exact ⟨i, hlast, hx⟩
    · obtain ⟨j, a, c⟩ := h.blk b y hb
      exact ⟨j, hext _ _ a, BR.mono hext (hold _ (h.lt b j a)) c⟩
  · rcases hup b y hb with ⟨rfl, rfl⟩ | ⟨_, hb⟩
    · rw [hlast] at hj; cases hj; rw [hi]; exact hE
    · obtain ⟨j', a, _⟩ := h.blk b y hb
      have := hext _ _ a
      rw [this] at hj; cases hj
      exact h.own b y _ hb hr a
  · have hold2 : ∀ b y j, H.f b = some y → (μ ++ [i])[b]? = some j → μ[b]? = some j := fun b y j hb hj => by
      obtain ⟨j', a, _⟩ := h.blk b y hb
      have := hext _ _ a
      rw [this] at hj; cases hj; exact a
    rcases hup b y hb with ⟨hb1, hy1⟩ | ⟨_, hb0⟩
    · subst hb1
      rcases hup c z hc with ⟨hc1, hz1⟩ | ⟨_, hc0⟩
      · exact absurd hc1.symm hne
      · rw [hlast] at hj; cases hj
        have := h.lt c k (hold2 c z k hc0 hk)
        omega
    · rcases hup c z hc with ⟨hc1, hz1⟩ | ⟨_, hc0⟩
      · subst hc1
        rw [hlast] at hk; cases hk
        have := h.lt b j (hold2 b y j hb0 hj)
        omega
      · exact h.sep b c y z j k hne hb0 hc0 hr (hold2 b y j hb0 hj) (hold2 c z k hc0 hk)

/-- A block of the abstract heap turns, and in the model's heap no block but that which it lies in. -/
theorem Rel.turn {P : Program} {E : Env} {μ : List Info} {H : Hp} {w w' : World} (h : Rel P E μ H w) {b : Nat} {x y : Blk} {i : Info} (hb : H.f b = some x) (hr : x.rw = true) (hi : μ[b]? = some i)
    (hry : y.rw = true) (hos : w'.os = w.os) (htape : w'.tape = w.tape) (hout : w'.output = w.output) (hsz : w'.heap.size = w.heap.size) (hw : ∀ c, c ≠ i.blk → w'.heap[c]? = w.heap[c]?) (hy : BR μ i w' y) :
    Rel P E μ (H.set b y) w' := by
  have hup : ∀ c z, (H.set b y).f c = some z → (c = b ∧ z = y) ∨ (c ≠ b ∧ H.f c = some z) := fun c z hc => by
    simp only [Hp.set, upd] at hc
    split at hc
    · rename_i e; simp at hc; exact .inl ⟨e, hc.symm⟩
    · rename_i e; exact .inr ⟨e, hc⟩
  refine ⟨hos.trans h.os, htape.trans h.tape, hout.trans h.out, fun c o hc => ?_, h.len, h.glob, fun c j hj => hsz ▸ h.lt c j hj, fun c z hc => ?_, fun c z j hc hz hj => ?_, fun c d z z' j k hne hc hd hz hj hk => ?_⟩
  · rw [hw c (fun e => by subst e; have := h.own b x i hb hr hi; rw [this] at hc; cases hc)]
    exact h.kept c o hc
  · rcases hup c z hc with ⟨rfl, rfl⟩ | ⟨hne, hc⟩
    · exact ⟨i, hi, hy⟩
    · obtain ⟨j, a, d⟩ := h.blk c z hc
      exact ⟨j, a, BR.mono (Ext.refl μ) (hw _ (fun e => h.sep b c x z i j (Ne.symm hne) hb hc hr hi a e.symm)) d⟩
  · rcases hup c z hc with ⟨rfl, rfl⟩ | ⟨_, hc⟩
    · exact h.own c x j hb hr hj
    · exact h.own c z j hc hz hj
  · rcases hup c z hc with ⟨rfl, rfl⟩ | ⟨h1, hc⟩
    · rcases hup d z' hd with ⟨rfl, rfl⟩ | ⟨_, hd⟩
      · exact absurd rfl hne
      · exact h.sep c d x z' j k hne hb hd hr hj hk
    · rcases hup d z' hd with ⟨rfl, rfl⟩ | ⟨_, hd⟩
      · rename_i hc'
        exact fun e => h.sep d c x z k j (Ne.symm hne) hb hc' hr hk hj e.symm
      · exact h.sep c d z z' j k hne hc hd hz hj hk

/-- Less is known. -/
theorem Rel.weaken {P : Program} {E : Env} {μ : List Info} {H : Hp} {w : World} (h : Rel P E μ H w) {f : Nat → Option Blk} (hf : ∀ b x, f b = some x → H.f b = some x) : Rel P E μ ⟨H.n, f, H.g⟩ w :=
  ⟨h.os, h.tape, h.out, h.kept, h.len, h.glob, h.lt, fun b x hb => h.blk b x (hf b x hb), fun b x i hb hr hi => h.own b x i (hf b x hb) hr hi, fun b c x y i j hne hb hc hr hi hj => h.sep b c x y i j hne (hf b x hb) (hf c y hc) hr hi hj⟩

end Go.Lite
