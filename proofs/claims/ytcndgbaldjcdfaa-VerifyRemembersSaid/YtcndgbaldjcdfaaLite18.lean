/- Lite, part 18: what came in, read into the abstract heap. -/
import Derived.Test.YtcndgbaldjcdfaaLite17
import Derived.Deep.Slices
import Derived.OpenShut
import Derived.Below
import Derived.Carry
namespace Go.Lite
open Go Go.ChangeShapes Go.WideShapes Go.Deep
set_option linter.unusedSimpArgs false
set_option linter.unusedVariables false

/-- All that is there stays. -/
def envOf (W : World) : Env := ⟨W.os, W.tape, W.output, fun c => W.heap[c]?⟩
theorem Rel.start (P : Program) (W : World) : Rel P (envOf W) [] ⟨0, fun _ => none, 0⟩ W :=
  ⟨rfl, rfl, rfl, fun c o h => h, rfl, fun g h => absurd h (Nat.not_lt_zero g), fun b i h => (by simp at h), fun b x h => (by cases h), fun b x i h => (by cases h), fun b c x y i j _ h => (by cases h)⟩

theorem below_of_rel {P : Program} {W w : World} {μ : List Info} {H : Hp} (h : Rel P (envOf W) μ H w) : RowKit.Below W.heap.size W w := by
  refine ⟨h.os, h.tape, h.out, ?_, fun k hk => ?_⟩
  · rcases Nat.lt_or_ge w.heap.size W.heap.size with h1 | h1
    · have h2 := h.kept w.heap.size W.heap[w.heap.size] (by simp [envOf, h1])
      rw [Array.getElem?_eq_none (Nat.le_refl _)] at h2; cases h2
    · exact h1
  · exact (h.kept k W.heap[k] (by simp [envOf, hk])).trans (by simp [hk])

/-- A block that is only read, and of which nothing may be turned. -/
theorem Rel.ro {P : Program} {E : Env} {μ : List Info} {H : Hp} {w : World} (h : Rel P E μ H w) {i : Info} {x : Blk} {o : Obj} (hk : E.kept i.blk = some o) (hi : i.blk < w.heap.size) (hx : BR (μ ++ [i]) i w x) (hr : x.rw = false) :
    Rel P E (μ ++ [i]) (H.new x) w := by
  have hext := Ext.snoc μ i
  have hlast : (μ ++ [i])[H.n]? = some i := by rw [← h.len]; simp
  have hup : ∀ b y, (H.new x).f b = some y → (b = H.n ∧ y = x) ∨ (b ≠ H.n ∧ H.f b = some y) := fun b y hb => by
    simp only [Hp.new, upd] at hb
    split at hb
    · rename_i e; simp at hb; exact .inl ⟨e, hb.symm⟩
    · rename_i e; exact .inr ⟨e, hb⟩
  have hold2 : ∀ b y j, H.f b = some y → (μ ++ [i])[b]? = some j → μ[b]? = some j := fun b y j hb hj => by
    obtain ⟨j', a, _⟩ := h.blk b y hb
    have := hext _ _ a
    rw [this] at hj; cases hj; exact a
  refine ⟨h.os, h.tape, h.out, h.kept, by simp [Hp.new, h.len], fun g hg => ?_, fun b j hj => ?_, fun b y hb => ?_, fun b y j hb hr' hj => ?_, fun b c y z j k hne hb hc hr' hj hk' => ?_⟩
  · obtain ⟨j, a, b⟩ := h.glob g hg; exact ⟨j, hext _ _ a, b⟩
  · rw [List.getElem?_append] at hj
    split at hj
    · exact h.lt b j hj
    · simp only [List.getElem?_singleton] at hj; split at hj
      · simp at hj; subst hj; exact hi
      · cases hj
  · rcases hup b y hb with ⟨rfl, rfl⟩ | ⟨_, hb⟩
    · exact ⟨i, hlast, hx⟩
    · obtain ⟨j, a, c⟩ := h.blk b y hb
      exact ⟨j, hext _ _ a, BR.mono hext rfl c⟩
  · rcases hup b y hb with ⟨rfl, rfl⟩ | ⟨_, hb⟩
    · rw [hr] at hr'; cases hr'
    · exact h.own b y j hb hr' (hold2 b y j hb hj)
  · rcases hup b y hb with ⟨_, e1⟩ | ⟨_, hb0⟩
    · rw [e1, hr] at hr'; cases hr'
    · have hj := hold2 b y j hb0 hj
      rcases hup c z hc with ⟨e2, _⟩ | ⟨_, hc0⟩
      · rw [e2, hlast] at hk'; cases hk'
        intro e
        have := h.own b y j hb0 hr' hj
        rw [e, hk] at this; cases this
      · exact h.sep b c y z j k hne hb0 hc0 hr' hj (hold2 c z k hc0 hk')

theorem Hp.le.new {H : Hp} (x : Blk) (h : ∀ b y, H.f b = some y → b < H.n) : H.le (H.new x) :=
  ⟨Nat.le_succ _, rfl, fun b y hb => by simp only [Hp.new, upd]; rw [if_neg (by have := h b y hb; omega)]; exact hb⟩
theorem Rel.lt_n {P : Program} {E : Env} {μ : List Info} {H : Hp} {w : World} (h : Rel P E μ H w) : ∀ b y, H.f b = some y → b < H.n := fun b y hb => by
  obtain ⟨i, a, _⟩ := h.blk b y hb
  exact h.get a

/-- The types of a value's cells. -/
def fieldsL (P : Program) (g : TypeId → Option (List TypeId)) : List Field → Nat → Option (List TypeId)
  | [], _ => some []
  | f :: r, off => (g f.type).bind fun l => if f.offset = off ∧ l.length = P.cellsOf f.type then (fieldsL P g r (off + l.length)).bind fun m => some (l ++ m) else none
def leafs (P : Program) : Nat → TypeId → Option (List TypeId)
  | 0, _ => none
  | k + 1, t => match P.underlying t with
    | some .string | some (.int _) | some .bool => some [t]
    | some (.slice e) => (leafs P k e).bind fun l => if l.length = P.cellsOf e ∧ 0 < l.length then some [t] else none
    | some (.struct fs) => (fieldsL P (leafs P k) fs.toList 0).bind fun l => if l.length = P.cellsOf t then some l else none
    | some (.array n e) => (leafs P k e).bind fun l => if l.length = P.cellsOf e ∧ n * l.length = P.cellsOf t then some (List.replicate n l).flatten else none
    | _ => none

theorem fieldsL_mono {P : Program} {g g' : TypeId → Option (List TypeId)} (hg : ∀ t l, g t = some l → g' t = some l) : ∀ (fs : List Field) (off : Nat) (l : List TypeId), fieldsL P g fs off = some l → fieldsL P g' fs off = some l
  | [], _, l, h => h
  | f :: r, off, l, h => by
    simp only [fieldsL, Option.bind_eq_some_iff] at h ⊢
    obtain ⟨a, h1, h2⟩ := h
    refine ⟨a, hg _ _ h1, ?_⟩
    split at h2
    · rename_i hc
      rw [if_pos hc]
      simp only [Option.bind_eq_some_iff] at h2 ⊢
      obtain ⟨m, h3, h4⟩ := h2
      exact ⟨m, fieldsL_mono hg r _ _ h3, h4⟩
    · cases h2
theorem leafs_succ {P : Program} : ∀ (k : Nat) (t : TypeId) (l : List TypeId), leafs P k t = some l → leafs P (k + 1) t = some l
  | 0, _, _, h => by cases h
  | k + 1, t, l, h => by
    unfold leafs at h ⊢
    generalize P.underlying t = ut at h ⊢
    split at h
    · exact h
    · exact h
    · exact h
    · simp only [Option.bind_eq_some_iff] at h ⊢
      obtain ⟨a, h1, h2⟩ := h
      exact ⟨a, leafs_succ k _ a h1, h2⟩
    · simp only [Option.bind_eq_some_iff] at h ⊢
      obtain ⟨a, h1, h2⟩ := h
      exact ⟨a, fieldsL_mono (leafs_succ k) _ _ _ h1, h2⟩
    · simp only [Option.bind_eq_some_iff] at h ⊢
      obtain ⟨a, h1, h2⟩ := h
      exact ⟨a, leafs_succ k _ a h1, h2⟩
    · cases h
theorem leafs_mono {P : Program} {k k' : Nat} (hk : k ≤ k') {t : TypeId} {l : List TypeId} (h : leafs P k t = some l) : leafs P k' t = some l := by
  induction hk with
  | refl => exact h
  | step _ ih => exact leafs_succ _ _ _ ih
theorem leafs_unique {P : Program} {k k' : Nat} {t : TypeId} {l l' : List TypeId} (h : leafs P k t = some l) (h' : leafs P k' t = some l') : l = l' := by
  have h1 := leafs_mono (Nat.le_max_left k k') h
  have h2 := leafs_mono (Nat.le_max_right k k') h'
  rw [h1] at h2; exact Option.some.inj h2

/-- A type of one cell that can be read in. -/
def LeafT (P : Program) (u : TypeId) : Prop :=
  P.underlying u = some .string ∨ (∃ k, P.underlying u = some (.int k)) ∨ P.underlying u = some .bool ∨ ∃ e k l, P.underlying u = some (.slice e) ∧ leafs P k e = some l ∧ l.length = P.cellsOf e ∧ 0 < l.length

/-- What a cell holds that came in. -/
inductive Sh (P : Program) (H : Hp) : TypeId → Value → Prop
  | str {t : TypeId} (s : ByteArray) : P.underlying t = some .string → s.size ≤ maxLen → Sh P H t (.string s)
  | int {t : TypeId} {k : IntKind} (n : Int) : P.underlying t = some (.int k) → (Lit.int k n).wf = true → Sh P H t (.int k n)
  | bool {t : TypeId} (b : Bool) : P.underlying t = some .bool → Sh P H t (.bool b)
  | nil {t e : TypeId} : P.underlying t = some (.slice e) → Sh P H t (.slice none 0 0)
  | row {t e : TypeId} {k b n c : Nat} {ls : List TypeId} {vs : List Value} : P.underlying t = some (.slice e) → leafs P k e = some ls → 0 < ls.length → n ≤ maxLen → vs.length = n * ls.length → H.f b = some (.cells false ls.length vs) →
      (∀ (i j : Nat) (u : TypeId) (v : Value), i < n → ls[j]? = some u → vs[i * ls.length + j]? = some v → Sh P H u v) → Sh P H t (.slice (some ⟨b, 0, none⟩) n c)

theorem Sh.mono {P : Program} {H H' : Hp} (hH : H.le H') {t : TypeId} {v : Value} (h : Sh P H t v) : Sh P H' t v := by
  induction h with
  | str s a b => exact .str s a b
  | int n a b => exact .int n a b
  | bool b a => exact .bool b a
  | nil a => exact .nil a
  | row a b c d e f _ ih => exact .row a b c d e (hH.f _ _ f) ih

section
variable {H : Type} {enc : TypeId × Value → H} {P : Program} {W : World}

/-- What a reading of many cells says of each. -/
def CellsRead (enc : TypeId × Value → H) (P : Program) (W : World) (fuel : Nat) (ls : List TypeId) (cs : List Value) : Prop :=
  cs.length = ls.length ∧ ∀ (j : Nat) (u : TypeId) (c : Value), ls[j]? = some u → cs[j]? = some c → LeafT P u ∧ ∃ n x, n ≤ fuel ∧ DataW.trod enc P W 0 (fun _ => true) true n u [c] = some x

theorem CellsRead.append {fuel : Nat} {a b : List TypeId} {c d : List Value} (h : CellsRead enc P W fuel a c) (k : CellsRead enc P W fuel b d) : CellsRead enc P W fuel (a ++ b) (c ++ d) := by
  refine ⟨by simp [h.1, k.1], fun j u v hu hv => ?_⟩
  rcases Nat.lt_or_ge j a.length with hj | hj
  · rw [List.getElem?_append_left hj] at hu
    rw [List.getElem?_append_left (by rw [h.1]; exact hj)] at hv
    exact h.2 j u v hu hv
  · rw [List.getElem?_append_right hj] at hu
    rw [List.getElem?_append_right (by rw [h.1]; exact hj)] at hv
    rw [h.1] at hv
    exact k.2 _ u v hu hv
theorem CellsRead.mono {fuel fuel' : Nat} (hf : fuel ≤ fuel') {a : List TypeId} {c : List Value} (h : CellsRead enc P W fuel a c) : CellsRead enc P W fuel' a c :=
  ⟨h.1, fun j u v hu hv => let ⟨h1, n, x, h2, h3⟩ := h.2 j u v hu hv; ⟨h1, n, x, Nat.le_trans h2 hf, h3⟩⟩

theorem cellsRead_fields {m : Nat} {g : TypeId → Option (List TypeId)} (hg : ∀ (t : TypeId) (l : List TypeId) (cs : List Value) (x : DataW H × List MemPlace), g t = some l → DataW.trod enc P W 0 (fun _ => true) true m t cs = some x → CellsRead enc P W m l cs) :
    ∀ (fs : List Field) (off : Nat) (l : List TypeId) (cs : List Value), fieldsL P g fs off = some l → off + l.length ≤ cs.length →
      (∀ f ∈ fs, ∃ x, DataW.trod enc P W 0 (fun _ => true) true m f.type ((cs.drop f.offset).take (P.cellsOf f.type)) = some x) → CellsRead enc P W m l ((cs.drop off).take l.length)
  | [], off, l, cs, h, _, _ => by simp [fieldsL] at h; subst h; exact ⟨by simp, fun j u c hu => by simp at hu⟩
  | f :: r, off, l, cs, h, hlen, hf => by
    simp only [fieldsL, Option.bind_eq_some_iff] at h
    obtain ⟨a, h1, h2⟩ := h
    split at h2
    · rename_i hc
      simp only [Option.bind_eq_some_iff] at h2
      obtain ⟨b, h3, h4⟩ := h2
      simp at h4; subst h4
      obtain ⟨x, hx⟩ := hf f (by simp)
      rw [hc.1, ← hc.2] at hx
      have i1 := hg _ _ _ _ h1 hx
      have i2 := cellsRead_fields hg r (off + a.length) b cs h3 (by simp at hlen; omega) fun f' hf' => hf f' (by simp [hf'])
      have e : (cs.drop off).take (a ++ b).length = (cs.drop off).take a.length ++ ((cs.drop (off + a.length)).take b.length) := by
        rw [List.length_append, List.take_add, List.drop_drop]
      rw [e]
      exact i1.append i2
    · cases h2

theorem cellsRead_rep {fuel : Nat} {l : List TypeId} : ∀ (n : Nat) (cs : List Value), cs.length = n * l.length → (∀ i, i < n → CellsRead enc P W fuel l ((cs.drop (i * l.length)).take l.length)) → CellsRead enc P W fuel (List.replicate n l).flatten cs
  | 0, cs, hl, _ => by
    simp at hl; subst hl
    exact ⟨by simp, fun j u c hu => by simp at hu⟩
  | n + 1, cs, hl, h => by
    have e : cs = cs.take l.length ++ cs.drop l.length := (List.take_append_drop _ _).symm
    rw [List.replicate_succ, List.flatten_cons, e]
    refine CellsRead.append (by simpa using h 0 (Nat.succ_pos n)) (cellsRead_rep n _ ?_ fun i hi => ?_)
    · rw [List.length_drop, hl, Nat.succ_mul]; omega
    · have := h (i + 1) (by omega)
      rw [List.drop_drop]
      rwa [Nat.succ_mul, Nat.add_comm] at this

theorem cellsRead_of_trod : ∀ (k : Nat) (t : TypeId) (l : List TypeId) (fuel : Nat) (cs : List Value) (x : DataW H × List MemPlace), leafs P k t = some l → DataW.trod enc P W 0 (fun _ => true) true fuel t cs = some x → CellsRead enc P W fuel l cs
  | 0, _, _, _, _, _, h, _ => by cases h
  | k + 1, t, l, fuel, cs, x, h, ht => by
    have one : ∀ c, cs = [c] → l = [t] → LeafT P t → CellsRead enc P W fuel l cs := fun c hc hl hL => by
      subst hc; subst hl
      refine ⟨rfl, fun j u v hu hv => ?_⟩
      cases j with
      | zero => simp at hu hv; subst hu; subst hv; exact ⟨hL, fuel, x, Nat.le_refl _, ht⟩
      | succ j => simp at hu
    unfold leafs at h
    split at h
    · rename_i hu
      obtain ⟨s, hc, _⟩ := DataW.trod_string hu ht
      exact one _ hc (by simpa using h.symm) (.inl hu)
    · rename_i kk hu
      obtain ⟨s, hc, _⟩ := DataW.trod_int hu ht
      exact one _ hc (by simpa using h.symm) (.inr (.inl ⟨_, hu⟩))
    · rename_i hu
      obtain ⟨s, hc, _⟩ := DataW.trod_bool hu ht
      exact one _ hc (by simpa using h.symm) (.inr (.inr (.inl hu)))
    · rename_i e hu
      simp only [Option.bind_eq_some_iff] at h
      obtain ⟨a, h1, h2⟩ := h
      split at h2
      · rename_i hl
        simp at h2
        have hL : LeafT P t := .inr (.inr (.inr ⟨e, k, a, hu, h1, hl.1, hl.2⟩))
        rcases open_slice hu ht with ⟨hc, _⟩ | ⟨ad, len, cap, m, n, D, Pl, hc, _⟩
        · exact one _ hc h2.symm hL
        · exact one _ hc h2.symm hL
      · cases h2
    · rename_i fs hu
      simp only [Option.bind_eq_some_iff] at h
      obtain ⟨a, h1, h2⟩ := h
      split at h2
      · rename_i hl
        simp at h2; subst h2
        obtain ⟨xs, n, rfl, _, hlen, hxl, hf⟩ := DataW.trod_struct hu ht
        have := cellsRead_fields (m := n) (g := leafs P k) (fun t l cs x h1 h2 => cellsRead_of_trod k t l n cs x h1 h2) fs.toList 0 a cs h1 (by rw [hlen, hl]; omega) fun f hfm => by
          obtain ⟨i, hi⟩ := List.getElem?_of_mem hfm
          have hfi : fs[i]? = some f := by simpa using hi
          have h3 := hf i f hfi
          have hlt : i < xs.length := by rw [hxl]; exact (Array.getElem?_eq_some_iff.1 hfi).1
          rw [List.getElem?_eq_getElem hlt] at h3
          exact ⟨_, h3⟩
        have e : (cs.drop 0).take a.length = cs := by rw [List.drop_zero, hl, ← hlen, List.take_length]
        rw [e] at this
        exact this.mono (Nat.le_succ n)
      · cases h2
    · rename_i n e hu
      simp only [Option.bind_eq_some_iff] at h
      obtain ⟨a, h1, h2⟩ := h
      split at h2
      · rename_i hl
        simp at h2; subst h2
        obtain ⟨xs, m, rfl, _, hlen, hxl, hf⟩ := DataW.trod_array hu ht
        refine (cellsRead_rep n cs (by rw [hlen, hl.2]) fun i hi => ?_).mono (Nat.le_succ m)
        have h3 := hf i hi
        rw [List.getElem?_eq_getElem (by rw [hxl]; exact hi)] at h3
        rw [hl.1]
        exact cellsRead_of_trod k e a m _ _ h1 h3
      · cases h2
    · cases h
end
end Go.Lite
