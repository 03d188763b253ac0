/- Lite, part 9: the model does what the abstract operation says: append, copy, iterators. -/
import Derived.Test.YtcndgbaldjcdfaaLite8
namespace Go.Lite
open Go
set_option linter.unusedSimpArgs false
set_option linter.unusedVariables false

section
variable {P : Program} {E : Env} {μ : List Info} {H : Hp} {w : World}

theorem upd_same (f : Nat → Option Blk) (b : Nat) (x : Option Blk) : upd f b x b = x := by simp [upd]
theorem upd_other (f : Nat → Option Blk) {b c : Nat} (h : c ≠ b) (x : Option Blk) : upd f b x c = f c := by simp [upd, h]

/-- A block moved to a new number, in its own place. -/
theorem Rel.moveIn {w' : World} (h : Rel P E μ H w) {b : Nat} {x y : Blk} {i i' : Info} (hb : H.f b = some x) (hr : x.rw = true) (hi : μ[b]? = some i) (hii : i'.blk = i.blk)
    (hry : y.rw = true) (hos : w'.os = w.os) (htape : w'.tape = w.tape) (hout : w'.output = w.output) (hsz : w'.heap.size = w.heap.size) (hw : ∀ c, c ≠ i.blk → w'.heap[c]? = w.heap[c]?) (hy : BR (μ ++ [i']) i' w' y) :
    Rel P E (μ ++ [i']) (H.move b y) w' := by
  have hext := Ext.snoc μ i'
  have hlast : (μ ++ [i'])[H.n]? = some i' := last_info h i'
  have hfr : ∀ c z, H.f c = some z → c ≠ H.n := fun c z hc e => by
    obtain ⟨j, hj, _⟩ := h.blk c z hc
    have := h.get hj
    omega
  have hup : ∀ c z, (H.move b y).f c = some z → (c = H.n ∧ z = y) ∨ (c ≠ H.n ∧ c ≠ b ∧ H.f c = some z) := fun c z hc => by
    simp only [Hp.move, upd] at hc
    split at hc
    · rename_i e; simp at hc; exact .inl ⟨e, hc.symm⟩
    · rename_i e
      split at hc
      · cases hc
      · rename_i e2; exact .inr ⟨e, e2, hc⟩
  have hold : ∀ c z j, H.f c = some z → (μ ++ [i'])[c]? = some j → μ[c]? = some j := fun c z j hc hj => by
    obtain ⟨j', a, _⟩ := h.blk c z hc
    have := hext _ _ a
    rw [this] at hj; cases hj; exact a
  refine ⟨hos.trans h.os, htape.trans h.tape, hout.trans h.out, fun c o hc => ?_, by simp [Hp.move, h.len], fun g hg => ?_, fun c j hj => ?_, fun c z hc => ?_, fun c z j hc hz hj => ?_, fun c d z z' j k hne hc hd hz hj hk => ?_⟩
  · rw [hw c (fun e => by subst e; have := h.own b x i hb hr hi; rw [this] at hc; cases hc)]
    exact h.kept c o hc
  · obtain ⟨j, a, c⟩ := h.glob g hg; exact ⟨j, hext _ _ a, c⟩
  · rw [hsz]
    rw [List.getElem?_append] at hj
    split at hj
    · exact h.lt c j hj
    · simp only [List.getElem?_singleton] at hj; split at hj
      · simp at hj; subst hj; rw [hii]; exact h.lt b i hi
      · cases hj
  · rcases hup c z hc with ⟨hc1, hz1⟩ | ⟨_, hcb, hc0⟩
    · subst hc1; subst hz1; exact ⟨i', hlast, hy⟩
    · obtain ⟨j, a, d⟩ := h.blk c z hc0
      exact ⟨j, hext _ _ a, BR.mono hext (hw _ (fun e => h.sep b c x z i j (Ne.symm hcb) hb hc0 hr hi a e.symm)) d⟩
  · rcases hup c z hc with ⟨hc1, hz1⟩ | ⟨_, hcb, hc0⟩
    · subst hc1; rw [hlast] at hj; cases hj; rw [hii]; exact h.own b x i hb hr hi
    · exact h.own c z j hc0 hz (hold c z j hc0 hj)
  · rcases hup c z hc with ⟨hc1, hz1⟩ | ⟨_, hcb, hc0⟩
    · subst hc1
      rw [hlast] at hj; cases hj
      rcases hup d z' hd with ⟨hd1, _⟩ | ⟨_, hdb, hd0⟩
      · exact absurd hd1.symm hne
      · rw [hii]; exact h.sep b d x z' i k (Ne.symm hdb) hb hd0 hr hi (hold d z' k hd0 hk)
    · rcases hup d z' hd with ⟨hd1, _⟩ | ⟨_, hdb, hd0⟩
      · subst hd1
        rw [hlast] at hk; cases hk
        rw [hii]; exact fun e => h.sep b c x z i j (Ne.symm hcb) hb hc0 hr hi (hold c z j hc0 hj) e.symm
      · exact h.sep c d z z' j k hne hc0 hd0 hz (hold c z j hc0 hj) (hold d z' k hd0 hk)

/-- A block moved to a new number, and to a new place. -/
theorem Rel.moveNew (h : Rel P E μ H w) (b : Nat) {x : Blk} {C : Array Value} (e : TypeId) (hx : x.isRow = true) (hlen : x.row.length ≤ C.size)
    (hrow : ∀ (k : Nat) (v : Value), x.row[k]? = some v → ∃ v', C[k]? = some v' ∧ VR μ v v') :
    Rel P E (μ ++ [⟨w.heap.size, 0, x.esz, C.size⟩]) (H.move b x) { w with heap := w.heap.push (.cells C e (0, 0)) } := by
  have h1 := h.weaken (f := upd H.f b none) (fun c y hc => by
    simp only [upd] at hc
    split at hc
    · cases hc
    · exact hc)
  exact h1.newRow (x := x) (C := C) e (fz := (0, 0)) hx hlen hrow (fun k _ h => by simp at h)

/-- What is appended, or copied. -/
theorem appSrc_sound {x x' : Value} {sz m : Nat} {news : List Value} (h : appSrc H sz x = some (m, news)) (hx : VR μ x x') (hR : Rel P E μ H w) :
    ∃ news', (Builtin.lenOf x').run P w = .ok m w ∧ (Builtin.firstCells sz m x').run P w = .ok news'.toArray w ∧ LR μ news news' ∧ news.length = m * sz ∧ (∀ k, k ≤ m → (Builtin.firstCells sz k x').run P w = .ok (news'.take (k * sz)).toArray w) := by
  unfold appSrc at h
  split at h
  · rename_i s
    cases hx
    by_cases h1 : sz = 1
    case neg => rw [if_neg h1] at h; cases h
    rw [if_pos h1] at h
    subst h1
    simp at h
    obtain ⟨rfl, rfl⟩ := h
    have hk : ∀ k, k ≤ s.size → (Builtin.firstCells 1 k (.string s)).run P w = .ok ((s.data.toList.map fun c => Value.int .u8 (c.toNat : Int)).take (k * 1)).toArray w := fun k hk => by
      simp only [Builtin.firstCells, Sem.run_pure]
      congr 1
      apply Array.ext'
      rw [extract_eq]
      simp [List.map_take]
    refine ⟨_, by simp [Builtin.lenOf], ?_, LR.of_scal μ (by rw [List.all_eq_true]; intro v hv; simp at hv; obtain ⟨_, _, rfl⟩ := hv; rfl), by simp, hk⟩
    have := hk s.size (Nat.le_refl _)
    rw [List.take_of_length_le (by simp)] at this
    exact this
  · rename_i a n c
    simp only [Option.bind_eq_some_iff] at h
    obtain ⟨l, h1, h2⟩ := h
    simp at h2
    obtain ⟨rfl, rfl⟩ := h2
    unfold slCells at h1
    split at h1
    · rename_i e; cases e
      cases hx
      simp at h1; subst h1
      exact ⟨[], by simp [Builtin.lenOf], by simp [Builtin.firstCells], LR.nil μ, by simp, fun k hk => by simp [Builtin.firstCells]⟩
    · rename_i b o n' c' e
      cases e
      cases hx with
      | sl hi hn hc =>
        rename_i c2 a' i
        split at h1
        · rename_i h0; subst h0
          simp at h1; subst h1
          exact ⟨[], by simp [Builtin.lenOf], by simp [Builtin.firstCells, loadCells, loadCellsFrom], LR.nil μ, by simp, fun k hk => by
            have : k = 0 := by omega
            subst this; simp [Builtin.firstCells, loadCells, loadCellsFrom]⟩
        · rename_i h0
          simp only [Option.bind_eq_some_iff] at h1
          obtain ⟨y, h2, h3⟩ := h1
          split at h3
          · rename_i hes
            rcases hc with hc | ⟨rfl, hc⟩
            · omega
            · obtain ⟨l', h4, h5, h5c⟩ := hR.cells h2 h3 hi
              obtain ⟨h6, h7⟩ := sub_row h3
              refine ⟨l', by simp [Builtin.lenOf], by simpa [Builtin.firstCells] using h4, h5, by rw [h7]; simp; omega, fun k hk => ?_⟩
              have hks : k * sz ≤ n * sz := Nat.mul_le_mul_right _ hk
              have hcell : ∀ j v, (l'.take (k * sz))[j]? = some v → w.cell? ((⟨i.blk, i.base + o, none⟩ : Addr).add j) = some v := by
                intro j v hv
                rw [List.getElem?_take] at hv
                split at hv
                · rename_i hj
                  rw [add_mk]; exact h5c j v hv
                · cases hv
              have h8 := run_loadCells_list (P := P) w ⟨i.blk, i.base + o, none⟩ (l'.take (k * sz)) hcell
              have hlen : (l'.take (k * sz)).length = k * sz := by rw [List.length_take, ← h5.1, h7]; simp; omega
              rw [hlen] at h8
              simpa [Builtin.firstCells] using h8
          · cases h3
    · cases h1
  · cases h

theorem run_lenOf_slice (a : Option Addr) (n c : Nat) : (Builtin.lenOf (.slice a n c)).run P w = .ok n w := rfl

theorem storeCells_nil (a : Addr) : (storeCells a []).run P w = .ok () w := rfl

theorem setCells_world (b : Nat) : ∀ (vs : List Value) (o : Nat) (w : World), (w.setCells b o vs).os = w.os ∧ (w.setCells b o vs).tape = w.tape ∧ (w.setCells b o vs).output = w.output ∧ (w.setCells b o vs).heap.size = w.heap.size ∧
    (∀ c, c ≠ b → (w.setCells b o vs).heap[c]? = w.heap[c]?) ∧ (∀ C e fz, w.heap[b]? = some (.cells C e fz) → ∃ C', (w.setCells b o vs).heap[b]? = some (.cells C' e fz) ∧ C'.size = C.size ∧
      (∀ k, k < o ∨ o + vs.length ≤ k → C'[k]? = C[k]?) ∧ (∀ j v, vs[j]? = some v → o + j < C.size → C'[o + j]? = some v))
  | [], o, w => ⟨rfl, rfl, rfl, rfl, fun _ _ => rfl, fun C e fz h => ⟨C, h, rfl, fun _ _ => rfl, fun j v hv => by simp at hv⟩⟩
  | v :: r, o, w => by
    obtain ⟨h1, h2, h3, h4, h5, h6⟩ := setCells_world b r (o + 1) (w.setCell ⟨b, o, none⟩ v)
    refine ⟨by rw [World.setCells, h1]; rfl, by rw [World.setCells, h2]; rfl, by rw [World.setCells, h3]; rfl, by rw [World.setCells, h4]; simp [World.setCell], fun c hc => by rw [World.setCells, h5 c hc, heap_setCell_far hc], fun C e fz h => ?_⟩
    obtain ⟨C', h7, h8, h9, h10⟩ := h6 _ e fz (heap_setCell_self h)
    refine ⟨C', by rw [World.setCells]; exact h7, by rw [h8]; simp, fun k hk => ?_, fun j u hu hj => ?_⟩
    · simp only [List.length_cons] at hk
      rw [h9 k (by omega), Array.getElem?_setIfInBounds_ne (by omega)]
    · cases j with
      | zero =>
        simp at hu; subst hu
        rw [h9 (o + 0) (by omega)]
        simp at hj
        simp [hj]
      | succ j =>
        simp at hu
        have := h10 j u hu (by simp; omega)
        rw [show o + (j + 1) = o + 1 + j by omega]
        exact this

/-- 'append' grows: the model's answer. -/
theorem run_append_grows {t t2 ty elem : TypeId} {i : TypeInfo} {z : Value} {d : TypeDesc} (hu : P.underlying t = some (.slice elem)) (hu2 : P.underlying t2 = some d) (hd : ∀ k, d ≠ .int k) (hi : P.info? elem = some i) (hz : i.zero = some z)
    {a : Option Addr} {n c m : Nat} {x : Value} {old new : List Value} (hlt : c < n + m) (hb : (n + m) * i.bytes ≤ 140737488355328) (h62 : n + m ≤ 4611686018427387904)
    (hlen : (Builtin.lenOf x).run P w = .ok m w) (hold : (Builtin.firstCells i.size n (.slice a n c)).run P { w with drawn := w.drawn + 1 } = .ok old.toArray { w with drawn := w.drawn + 1 })
    (hnew : (Builtin.firstCells i.size m x).run P { w with drawn := w.drawn + 1 } = .ok new.toArray { w with drawn := w.drawn + 1 }) :
    (Builtin.append_ #[t, t2] ty #[.slice a n c, x]).run P w = .ok (.slice (some ⟨w.heap.size, 0, none⟩) (n + m) (grownCap w (n + m) c elem))
      { w with drawn := w.drawn + 1, heap := w.heap.push (.cells (old.toArray ++ new.toArray ++ Builtin.zeroCells z.cells (grownCap w (n + m) c elem - (n + m))) elem) } := by
  have hm : ((d matches .int _) : Bool) = false := by cases d <;> first | rfl | exact absurd rfl (hd _)
  have hfit := growslice_fits hlt hb
  have h63 : ¬ (((n + m : Nat) : Int) > IntKind.i64.max) := by rw [IntKind.max_i64]; omega
  unfold Builtin.append_
  have hm' : (match d with | .int _ => true | _ => false) = false := by cases d <;> first | rfl | exact absurd rfl (hd _)
  simp only [List.getElem?_toArray, List.getElem?_cons_zero, List.getElem?_cons_succ, Sem.run_bind, run_underlying hu, Result.andThen_ok, run_sizeT (szT_info hi), run_underlying hu2, Sem.run_pure, hm', Bool.false_eq_true, if_false, hlen, Sem.run_ite]
  rw [if_neg (by omega)]
  simp only [Sem.run_bind, run_info hi, Result.andThen_ok, Sem.run_pure, Sem.run_ite, Bool.not_false, if_true, Bool.false_eq_true, if_false, false_or]
  rw [if_neg (by intro h; exact h63 h.1)]
  rw [if_neg (by omega)]
  simp only [Sem.run_bind, run_choose, Question.forced, Bool.false_eq_true, if_false, Result.andThen_ok, run_askRoom]
  rw [hold]
  simp only [Result.andThen_ok]
  rw [hnew]
  simp only [Result.andThen_ok, zeroValue, Sem.run_bind, run_info hi, hz, Sem.run_pure, Go.newRow, run_newObj]
  rfl

/-- 'append' finds room: the model's answer. -/
theorem run_append_room {t t2 ty elem : TypeId} {i : TypeInfo} {d : TypeDesc} (hu : P.underlying t = some (.slice elem)) (hu2 : P.underlying t2 = some d) (hd : ∀ k, d ≠ .int k) (hi : P.info? elem = some i)
    {a : Addr} {n c m : Nat} {x : Value} {new : List Value} {w' : World} (hle : n + m ≤ c)
    (hlen : (Builtin.lenOf x).run P w = .ok m w) (hnew : (Builtin.firstCells i.size m x).run P w = .ok new.toArray w) (hst : (storeCells (a.add (n * i.size)) new).run P w = .ok () w') :
    (Builtin.append_ #[t, t2] ty #[.slice (some a) n c, x]).run P w = .ok (.slice (some a) (n + m) c) w' := by
  have hm' : (match d with | .int _ => true | _ => false) = false := by cases d <;> first | rfl | exact absurd rfl (hd _)
  unfold Builtin.append_
  simp only [List.getElem?_toArray, List.getElem?_cons_zero, List.getElem?_cons_succ, Sem.run_bind, run_underlying hu, Result.andThen_ok, run_sizeT (szT_info hi), run_underlying hu2, Sem.run_pure, hm', Bool.false_eq_true, if_false, hlen, Sem.run_ite]
  rw [if_pos hle]
  simp only [Bool.not_false, if_true, Sem.run_bind, hnew, Result.andThen_ok, hst, Sem.run_pure]

theorem run_append_room_nil {t t2 ty elem : TypeId} {i : TypeInfo} {d : TypeDesc} (hu : P.underlying t = some (.slice elem)) (hu2 : P.underlying t2 = some d) (hd : ∀ k, d ≠ .int k) (hi : P.info? elem = some i)
    {x : Value} {new : List Value} (hlen : (Builtin.lenOf x).run P w = .ok 0 w) (hnew : (Builtin.firstCells i.size 0 x).run P w = .ok new.toArray w) :
    (Builtin.append_ #[t, t2] ty #[.slice none 0 0, x]).run P w = .ok (.slice none 0 0) w := by
  have hm' : (match d with | .int _ => true | _ => false) = false := by cases d <;> first | rfl | exact absurd rfl (hd _)
  unfold Builtin.append_
  simp only [List.getElem?_toArray, List.getElem?_cons_zero, List.getElem?_cons_succ, Sem.run_bind, run_underlying hu, Result.andThen_ok, run_sizeT (szT_info hi), run_underlying hu2, Sem.run_pure, hm', Bool.false_eq_true, if_false, hlen, Sem.run_ite]
  rw [if_pos (Nat.le_refl _)]
  simp only [Bool.not_false, if_true, Sem.run_bind, hnew, Result.andThen_ok, Sem.run_pure]

theorem range_zero (z : Array Value) : Builtin.zeroCells z 0 = #[] := by simp [Builtin.zeroCells]
theorem zeroCells_list {z : Value} (hz : 0 < (cellsOf z).length) (q : Nat) : (Builtin.zeroCells z.cells q).toList = lzeros (cellsOf z) q := by
  have h := zeros_get (cellsOf z) q hz
  have e : z.cells = (cellsOf z).toArray := by rw [← cellsOf_eq]
  unfold Builtin.zeroCells
  rw [e]
  simpa using h
/-- 'append' of so many noughts grows: the model's answer. -/
theorem run_append_growsZ {t t2 ty elem : TypeId} {i : TypeInfo} {z : Value} {k2 kx : IntKind} (hu : P.underlying t = some (.slice elem)) (hu2 : P.underlying t2 = some (.int k2)) (hi : P.info? elem = some i) (hz : i.zero = some z)
    {a : Option Addr} {n c m : Nat} {old : List Value} (hs : 0 < i.size) (hlt : c < n + m) (hb : (n + m) * i.bytes ≤ 140737488355328) (h62 : n + m ≤ 4611686018427387904)
    (hold : (Builtin.firstCells i.size n (.slice a n c)).run P { w with drawn := w.drawn + 1 } = .ok old.toArray { w with drawn := w.drawn + 1 }) :
    (Builtin.append_ #[t, t2] ty #[.slice a n c, .int kx m]).run P w = .ok (.slice (some ⟨w.heap.size, 0, none⟩) (n + m) (grownCap w (n + m) c elem))
      { w with drawn := w.drawn + 1, heap := w.heap.push (.cells (old.toArray ++ Builtin.zeroCells z.cells m ++ Builtin.zeroCells z.cells (grownCap w (n + m) c elem - (n + m))) elem) } := by
  have hfit := growslice_fits hlt hb
  have h63 : ¬ (((n + m : Nat) : Int) > IntKind.i64.max) := by rw [IntKind.max_i64]; omega
  have hwr : IntKind.i64.wrap (m : Int) = m := by
    simp only [IntKind.wrap, IntKind.bits, IntKind.signed, Bool.true_and]
    split
    · rename_i hc; simp at hc; omega
    · rename_i hc; simp at hc; omega
  have hmb : m * i.bytes ≤ 140737488355328 := Nat.le_trans (Nat.mul_le_mul_right _ (by omega)) hb
  have hmb2 : ¬ ((m : Int) * (i.bytes : Int) > 2 ^ 48) := by
    have : ((m * i.bytes : Nat) : Int) ≤ 140737488355328 := Int.ofNat_le.2 hmb
    rw [Int.natCast_mul] at this
    omega
  have hms : (if m * i.size = 0 then Result.ok #[] { w with drawn := w.drawn + 1 } else (Sem.run P (zeroValue elem) { w with drawn := w.drawn + 1 }).andThen fun a w' => Result.ok (Builtin.zeroCells a.cells m) w') = .ok (Builtin.zeroCells z.cells m) { w with drawn := w.drawn + 1 } := by
    by_cases h0 : m = 0
    · subst h0; rw [if_pos (Nat.zero_mul _), range_zero]
    · have : m * i.size ≠ 0 := Nat.mul_ne_zero h0 (by omega)
      rw [if_neg this]
      simp only [zeroValue, Sem.run_bind, run_info hi, hz, Sem.run_pure, Result.andThen_ok]
  unfold Builtin.append_
  have hai : (asInt (.int kx m)).run P w = .ok (m : Int) w := rfl
  simp only [List.getElem?_toArray, List.getElem?_cons_zero, List.getElem?_cons_succ, Sem.run_bind, run_underlying hu, Result.andThen_ok, run_sizeT (szT_info hi), run_underlying hu2, Sem.run_pure, if_true, hai, hwr, Sem.run_ite]
  rw [if_neg (by omega)]
  simp only [Sem.run_bind, run_info hi, Result.andThen_ok, Sem.run_pure, Sem.run_ite]
  rw [if_neg hmb2]
  simp only [Result.andThen_ok, Sem.run_pure, Int.toNat_natCast, Sem.run_ite, Sem.run_bind, Bool.not_true, Bool.false_eq_true, if_false]
  rw [if_neg (by omega)]
  try simp only [Sem.run_bind, run_info hi, Result.andThen_ok, Sem.run_pure, Sem.run_ite, if_true]
  rw [if_neg (by intro h; exact h63 h.1)]
  rw [if_neg (by omega)]
  simp only [Sem.run_bind, run_choose, Question.forced, Bool.false_eq_true, if_false, Result.andThen_ok, run_askRoom]
  rw [hold]
  try simp only [Result.andThen_ok]
  rw [hms]
  simp only [Result.andThen_ok, zeroValue, Sem.run_bind, run_info hi, hz, Sem.run_pure, Go.newRow, run_newObj]
  rfl

theorem run_append_roomZ {t t2 ty elem : TypeId} {i : TypeInfo} {z : Value} {k2 kx : IntKind} (hu : P.underlying t = some (.slice elem)) (hu2 : P.underlying t2 = some (.int k2)) (hi : P.info? elem = some i) (hz : i.zero = some z)
    {a : Option Addr} {n c m : Nat} {w' : World} (hs : 0 < i.size) (hle : n + m ≤ c) (hb : (n + m) * i.bytes ≤ 140737488355328) (h62 : n + m ≤ 4611686018427387904)
    (hst : ∀ b, a = some b → (storeCells (b.add (n * i.size)) (Builtin.zeroCells z.cells m).toList).run P w = .ok () w') (hno : a = none → w' = w) :
    (Builtin.append_ #[t, t2] ty #[.slice a n c, .int kx m]).run P w = .ok (.slice a (n + m) c) w' := by
  have hwr : IntKind.i64.wrap (m : Int) = m := by
    simp only [IntKind.wrap, IntKind.bits, IntKind.signed, Bool.true_and]
    split
    · rename_i hc; simp at hc; omega
    · rename_i hc; simp at hc; omega
  have hmb : m * i.bytes ≤ 140737488355328 := Nat.le_trans (Nat.mul_le_mul_right _ (by omega)) hb
  have hmb2 : ¬ ((m : Int) * (i.bytes : Int) > 2 ^ 48) := by
    have : ((m * i.bytes : Nat) : Int) ≤ 140737488355328 := Int.ofNat_le.2 hmb
    rw [Int.natCast_mul] at this
    omega
  have hms : (if m * i.size = 0 then Result.ok #[] w else (Sem.run P (zeroValue elem) w).andThen fun a w' => Result.ok (Builtin.zeroCells a.cells m) w') = .ok (Builtin.zeroCells z.cells m) w := by
    by_cases h0 : m = 0
    · subst h0; rw [if_pos (Nat.zero_mul _), range_zero]
    · have : m * i.size ≠ 0 := Nat.mul_ne_zero h0 (by omega)
      rw [if_neg this]
      simp only [zeroValue, Sem.run_bind, run_info hi, hz, Sem.run_pure, Result.andThen_ok]
  unfold Builtin.append_
  have hai : (asInt (.int kx m)).run P w = .ok (m : Int) w := rfl
  simp only [List.getElem?_toArray, List.getElem?_cons_zero, List.getElem?_cons_succ, Sem.run_bind, run_underlying hu, Result.andThen_ok, run_sizeT (szT_info hi), run_underlying hu2, Sem.run_pure, if_true, hai, hwr, Sem.run_ite]
  rw [if_neg (by omega)]
  simp only [Sem.run_bind, run_info hi, Result.andThen_ok, Sem.run_pure, Sem.run_ite]
  rw [if_neg hmb2]
  simp only [Result.andThen_ok, Sem.run_pure, Int.toNat_natCast, Sem.run_ite, Sem.run_bind, Bool.not_true, Bool.false_eq_true, if_false]
  rw [if_pos hle]
  rw [hms]
  simp only [Result.andThen_ok]
  cases a with
  | none => have := hno rfl; subst this; rfl
  | some b => simp only [Sem.run_bind, hst b rfl, Result.andThen_ok, Sem.run_pure]

/-- How 'append' runs, whatever is appended. -/
structure AppRuns (P : Program) (w : World) (μ : List Info) (i : TypeInfo) (z : Value) (elem t t2 : TypeId) (x' : Value) (m : Nat) (news : List Value) : Prop where
  nil : ∀ ty, m = 0 → (Builtin.append_ #[t, t2] ty #[.slice none 0 0, x']).run P w = .ok (.slice none 0 0) w
  room : ∃ new : List Value, LR μ news new ∧ ∀ ty a n c w', n + m ≤ c → (n + m) * i.bytes ≤ 140737488355328 → n + m ≤ 4611686018427387904 → (storeCells (a.add (n * i.size)) new).run P w = .ok () w' → (Builtin.append_ #[t, t2] ty #[.slice (some a) n c, x']).run P w = .ok (.slice (some a) (n + m) c) w'
  grow : ∃ new : List Value, LR μ news new ∧ ∀ ty a n c (old : List Value), c < n + m → (n + m) * i.bytes ≤ 140737488355328 → n + m ≤ 4611686018427387904 →
    (Builtin.firstCells i.size n (.slice a n c)).run P { w with drawn := w.drawn + 1 } = .ok old.toArray { w with drawn := w.drawn + 1 } →
    (Builtin.append_ #[t, t2] ty #[.slice a n c, x']).run P w = .ok (.slice (some ⟨w.heap.size, 0, none⟩) (n + m) (grownCap w (n + m) c elem))
      { w with drawn := w.drawn + 1, heap := w.heap.push (.cells (old.toArray ++ new.toArray ++ Builtin.zeroCells z.cells (grownCap w (n + m) c elem - (n + m))) elem) }

theorem lappend_sound {t t2 ty : TypeId} {s x s' x' u : Value} {H' : Hp} (h : lappend P [t, t2] [s, x] H = some (.val u H')) (hs : VR μ s s') (hx : VR μ x x') (hR : Rel P E μ H w) :
    DidV P E μ (Builtin.append_ #[t, t2] ty #[s', x']) w u H' := by
  unfold lappend at h
  simp only at h
  split at h
  case h_2 => cases h
  case h_1 elem hu =>
    simp only [Option.bind_eq_some_iff] at h
    obtain ⟨i, hi, z, hz, h⟩ := h
    try simp only [Option.bind_eq_some_iff] at h
    obtain ⟨⟨m, news⟩, hsrc, h⟩ := h
    have hcl := (run_zeroT (P := P) (w := w) hz).2
    have hz' := lzero_info hz hi
    have hA : 0 < i.size → (cellsOf z).length = i.size → (m * i.bytes ≤ 140737488355328 ∧ m ≤ 4611686018427387904 → AppRuns P w μ i z elem t t2 x' m news) ∧ news.length = m * i.size := by
      intro hsz hzl
      by_cases hz2 : intOrNone P t2 = true
      · rw [if_pos hz2] at hsrc
        unfold zeroSrc at hsrc
        split at hsrc
        · rename_i k2 kx l hu2
          split at hsrc
          · rename_i hl0
            simp at hsrc
            obtain ⟨rfl, rfl⟩ := hsrc
            obtain ⟨q, rfl⟩ := Int.eq_ofNat_of_zero_le hl0
            cases hx
            have hLR : LR μ (lzeros (cellsOf z) q) (lzeros (cellsOf z) q) := lzeros_VR _ _ (LR.of_scal μ hcl)
            have hzz : (Builtin.zeroCells z.cells q).toList = lzeros (cellsOf z) q := zeroCells_list (by omega) q
            have hzz2 : Builtin.zeroCells z.cells q = (lzeros (cellsOf z) q).toArray := by rw [← hzz]
            try simp only [Int.toNat_natCast]
            refine ⟨fun ⟨hb, h62⟩ => ⟨fun ty h0 => ?_, ⟨_, hLR, fun ty a n c w' hle hb2 h622 hst => ?_⟩, ⟨_, hLR, fun ty a n c old hlt hb2 h622 hold => ?_⟩⟩, by rw [lzeros_len _ _ hzl]⟩
            · subst h0
              exact run_append_roomZ (ty := ty) (a := none) (n := 0) (c := 0) (m := 0) hu hu2 hi hz' hsz (Nat.le_refl _) (by simp) (by simp) (fun b e => by cases e) (fun _ => rfl)
            · exact run_append_roomZ (ty := ty) (a := some a) hu hu2 hi hz' hsz hle hb2 h622 (fun b e => by cases e; rw [hzz]; exact hst) (fun e => by cases e)
            · have := run_append_growsZ (ty := ty) (kx := kx) (a := a) (n := n) (c := c) (m := q) hu hu2 hi hz' hsz hlt hb2 h622 hold
              rw [hzz2] at this
              exact this
          · cases hsrc
        · cases hsrc
      · rw [if_neg hz2] at hsrc
        have hd2 : ∃ d, P.underlying t2 = some d ∧ ∀ k, d ≠ .int k := by
          unfold intOrNone at hz2
          cases hq : P.underlying t2 with
          | none => simp [hq] at hz2
          | some d => refine ⟨d, rfl, fun k e => ?_⟩; subst e; simp [hq] at hz2
        obtain ⟨d, hu2, hd⟩ := hd2
        obtain ⟨news', hlen, hnew, hnl, hnm, _⟩ := appSrc_sound hsrc hx hR
        obtain ⟨news2, _, hnew2, hnl2, hnm2, _⟩ := appSrc_sound hsrc hx (hR.drew (w.drawn + 1))
        exact ⟨fun _ => ⟨fun ty h0 => by subst h0; exact run_append_room_nil hu hu2 hd hi hlen hnew, ⟨news', hnl, fun ty a n c w' hle _ _ hst => run_append_room hu hu2 hd hi hle hlen hnew hst⟩, ⟨news2, hnl2, fun ty a n c old hlt hb h62 hold => run_append_grows hu hu2 hd hi hz' hlt hb h62 hlen hold hnew2⟩⟩, hnm⟩
    simp only at h
    split at h
    case h_2 => cases h
    case h_1 a n c =>
      split at h
      case isFalse => cases h
      case isTrue hc =>
        obtain ⟨hsz, hzl, hone, hby, h62⟩ := hc
        obtain ⟨hA1, hnm⟩ := hA hsz hzl
        have hAr := hA1 ⟨Nat.le_trans (Nat.mul_le_mul_right _ (by omega)) hby, by omega⟩
        obtain ⟨news', hnl, hroomrun⟩ := hAr.room
        have hcl := (run_zeroT (w := w) hz).2
        have hz' := lzero_info hz hi
        split at h
        · -- nothing was there
          split at h
          case isFalse => cases h
          case isTrue hn0 =>
            subst hn0
            cases hs
            split at h
            · rename_i hm0; subst hm0
              simp at h
              obtain ⟨rfl, rfl⟩ := h
              exact DidV.same (hAr.nil _ rfl) .sl0 hR
            · rename_i hm0
              simp [lnew] at h
              obtain ⟨rfl, rfl⟩ := h
              have hR' := hR.drew (w.drawn + 1)
              obtain ⟨news2, hnl2, hgrow⟩ := hAr.grow
              have hrun := hgrow ty none 0 0 [] (by omega) (by simpa using hby) (by simpa using h62) (by simp [Builtin.firstCells])
              have hge := grownCap_ge w (0 + m) 0 elem
              rw [Nat.zero_add] at hrun hge
              obtain ⟨m1, m2, m3⟩ := mkRow_row (P := P) elem i.size news
              have hzc : z.cells.size = i.size := by rw [← Array.length_toList, cellsOf_eq, hzl]
              have hlen' : news2.length = m * i.size := by rw [← hnl2.1, hnm]
              have hrel := hR'.newRow (x := mkRow P elem i.size news) (C := ([] : List Value).toArray ++ news2.toArray ++ Builtin.zeroCells z.cells (grownCap w m 0 elem - m)) elem (fz := (0, 0)) m2
                (by rw [m1]; simp [hnl2.1]) (fun k v hk => by
                  rw [m1] at hk
                  obtain ⟨v', a1, a2⟩ := hnl2.at_ hk
                  refine ⟨v', ?_, a2⟩
                  have hkl : k < news2.length := (List.getElem?_eq_some_iff.1 a1).1
                  rw [Array.getElem?_append_left (by simpa using hkl)]
                  simpa using a1) (fun k _ h => by simp at h)
              refine ⟨_, _, _, hrun, Ext.snoc μ _, ?_, hrel⟩
              have hsize : (([] : List Value).toArray ++ news2.toArray ++ Builtin.zeroCells z.cells (grownCap w m 0 elem - m)).size = grownCap w m 0 elem * i.size := by
                simp [Builtin.zeroCells, hzc, hlen', ← Nat.add_mul]; congr 1; omega
              exact VR.sl (last_info hR' _) hge (.inr ⟨by simp, by rw [mkRow_esz (szT_info hi)]; simp only [hsize]; simp⟩)
        · -- something was there
          rename_i b o
          simp only [Option.bind_eq_some_iff] at h
          obtain ⟨y, hb, h⟩ := h
          split at h
          case isFalse => cases h
          case isTrue hy =>
            obtain ⟨hrw, hes, hyl⟩ := hy
            rw [len_row] at hyl
            -- the block behind, whatever its kind
            have hrow : y.isRow = true := by
              cases y <;> first | rfl | cases h
            obtain ⟨y', hy'r, hy'w, hy'e, hy'i, hu', hH'⟩ : ∃ y' : Blk, y'.row = y.row.drop o ++ news ∧ y'.rw = true ∧ y'.esz = i.size ∧ y'.isRow = true ∧ u = .slice (some ⟨H.n, 0, none⟩) (n + m) (n + m) ∧ H' = H.move b y' := by
              cases y with
              | cells r e cs =>
                simp at h
                exact ⟨.cells true e (cs.drop o ++ news), rfl, rfl, hes, rfl, h.1.symm, h.2.symm⟩
              | ints r k xs =>
                simp only [Option.bind_eq_some_iff] at h
                obtain ⟨ys, h1, h2⟩ := h
                simp at h2
                refine ⟨.ints true k (xs.drop o ++ ys), ?_, rfl, hes, rfl, h2.1.symm, h2.2.symm⟩
                simp [Blk.row, toInts_row _ _ _ h1, List.map_drop]
              | map es => cases h
              | iter s p => cases h
            subst hu'; subst hH'
            cases hs with
            | sl hi2 hn2 hc2 =>
              rename_i c' a' j
              obtain ⟨j', hj', hbr⟩ := hR.blk b y hb
              rw [hi2] at hj'; cases hj'
              obtain ⟨C, e, fz, g1, g2, g3, g4, g5, g6⟩ := hbr.row (.inr hrow)
              rw [hes] at g3
              by_cases hroom : n + m ≤ c'
              · -- in its own place
                have hst : ∃ w', (storeCells (a'.add (n * i.size)) news').run P w = .ok () w' ∧ w'.os = w.os ∧ w'.tape = w.tape ∧ w'.output = w.output ∧ w'.heap.size = w.heap.size ∧ (∀ k, k ≠ j.blk → w'.heap[k]? = w.heap[k]?) ∧
                    ∃ C', w'.heap[j.blk]? = some (.cells C' e fz) ∧ C'.size = C.size ∧ (∀ k, k < j.base + o + n * i.size → C'[k]? = C[k]?) ∧ (∀ k v, news'[k]? = some v → C'[j.base + o + n * i.size + k]? = some v) := by
                  by_cases hnil : news' = []
                  · subst hnil
                    exact ⟨w, rfl, rfl, rfl, rfl, rfl, fun _ _ => rfl, C, g1, rfl, fun _ _ => rfl, fun k v hv => by simp at hv⟩
                  · have hpos : 0 < news'.length := List.length_pos_iff.2 hnil
                    rcases hc2 with hc2 | ⟨rfl, hc2⟩
                    · exfalso
                      have : m = 0 := by omega
                      subst this
                      rw [← hnl.1, hnm] at hpos; simp at hpos
                    · have hmul : (n + m) * i.size ≤ c' * i.size := Nat.mul_le_mul_right _ hroom
                      have hbnd : j.base + o + n * i.size + news'.length ≤ C.size := by
                        rw [← hnl.1, hnm, g2]
                        rw [← g3] at hc2
                        rw [Nat.add_mul] at hmul
                        omega
                      have hcell : ∀ k, k < news'.length → w.cell? ⟨j.blk, j.base + o + n * i.size + 0 + k, none⟩ = some (C[j.base + o + n * i.size + k]!) := fun k hk => by
                        rw [Nat.add_zero, cell_at g1, getElem!_pos C _ (by omega)]
                        exact Array.getElem?_eq_getElem (by omega)
                      have hrun := run_storeCells_cells (P := P) j.blk (j.base + o + n * i.size) news' 0 w (fun k hk => by rw [hcell k hk]; rfl)
                        (fun k hk => by
                          have := g6 hrw (j.base + o + n * i.size + k) (by omega) (by omega)
                          simp only [World.frozen?, g1, Nat.add_zero]
                          simp only [Bool.and_eq_false_iff, decide_eq_false_iff_not]
                          rcases Nat.lt_or_ge (j.base + o + n * i.size + k) fz.1 with h7 | h7
                          · left; omega
                          · right; intro h8; exact this ⟨h7, h8⟩)
                        (fun v hv => by
                          obtain ⟨k, hk⟩ := List.getElem?_of_mem hv
                          have hkl : k < news.length := by rw [hnl.1]; exact (List.getElem?_eq_some_iff.1 hk).1
                          have h9 := hnl.2 k _ v (List.getElem?_eq_getElem hkl) hk
                          have h10 : isOne news[k] = true := List.all_eq_true.1 hone _ (List.getElem_mem hkl)
                          exact oneCell_of (by rw [VR.isOne h9]; exact h10))
                      obtain ⟨q1, q2, q3, q4, q5, q6⟩ := setCells_world j.blk news' (j.base + o + n * i.size + 0) w
                      obtain ⟨C', q7, q8, q9, q10⟩ := q6 C e fz g1
                      refine ⟨_, by rw [add_mk]; exact hrun, q1, q2, q3, q4, q5, C', q7, q8, fun k hk => q9 k (by omega), fun k v hv => ?_⟩
                      have := q10 k v hv (by have := (List.getElem?_eq_some_iff.1 hv).1; omega)
                      simpa using this
                obtain ⟨w', hrun, r1, r2, r3, r4, r5, C', r6, r7, r8, r9⟩ := hst
                have hap := hroomrun ty a' n c' w' hroom hby h62 hrun
                refine ⟨_, w', μ ++ [⟨j.blk, j.base + o, i.size, j.cap⟩], hap, Ext.snoc μ _, ?_, hR.moveIn hb hrw hi2 rfl hy'w r1 r2 r3 r4 r5 ?_⟩
                · refine VR.sl (last_info hR _) hroom ?_
                  rcases hc2 with hc2 | ⟨rfl, hc2⟩
                  · exact .inl hc2
                  · exact .inr ⟨by simp, by rw [← g3] at hc2; simpa using hc2⟩
                · have hmain : ∃ C e fz, w'.heap[j.blk]? = some (.cells C e fz) ∧ C.size = j.cap ∧ y'.esz = i.size ∧ j.base + o + y'.row.length ≤ C.size ∧
                      (∀ (k : Nat) (v : Value), y'.row[k]? = some v → ∃ v', C[j.base + o + k]? = some v' ∧ VR (μ ++ [⟨j.blk, j.base + o, i.size, j.cap⟩]) v v') ∧
                      (y'.rw = true → ∀ k, j.base + o ≤ k → k < C.size → ¬ (fz.1 ≤ k ∧ k < fz.2)) := by
                    refine ⟨C', e, fz, r6, by rw [r7, g2], hy'e, ?_, fun k v hk => ?_, fun _ k hk1 hk2 => g6 hrw k (by omega) (by omega)⟩
                    · rw [hy'r, List.length_append, List.length_drop, hyl, hnm, r7]
                      rcases hc2 with hc2 | ⟨_, hc2⟩
                      · have h1 : n = 0 := by omega
                        have h2 : m = 0 := by omega
                        subst h1; subst h2
                        rw [hyl] at g4
                        simp at g4 ⊢; omega
                      · rw [← g3] at hc2
                        have hmul : (n + m) * i.size ≤ c' * i.size := Nat.mul_le_mul_right _ hroom
                        rw [Nat.add_mul] at hmul
                        omega
                    · rw [hy'r] at hk
                      rcases Nat.lt_or_ge k (y.row.drop o).length with hkl | hkl
                      · rw [List.getElem?_append_left hkl, List.getElem?_drop] at hk
                        obtain ⟨v', d1, d2⟩ := g5 _ v hk
                        rw [List.length_drop, hyl] at hkl
                        refine ⟨v', ?_, d2.mono (Ext.snoc μ _)⟩
                        rw [r8 _ (by omega), Nat.add_assoc]; exact d1
                      · rw [List.getElem?_append_right hkl] at hk
                        obtain ⟨v', d1, d2⟩ := hnl.at_ hk
                        rw [List.length_drop, hyl] at hkl d1
                        refine ⟨v', ?_, d2.mono (Ext.snoc μ _)⟩
                        have := r9 _ v' d1
                        rw [← this]; congr 1; omega
                  cases y' with
                  | cells => exact hmain
                  | ints => exact hmain
                  | map es => simp [Blk.isRow] at hy'i
                  | iter s p => simp [Blk.isRow] at hy'i
              · -- in a new place
                have hR' := hR.drew (w.drawn + 1)
                obtain ⟨news2, hnl2, hgrow⟩ := hAr.grow
                have hzc : z.cells.size = i.size := by rw [← Array.length_toList, cellsOf_eq, hzl]
                have hlen' : news2.length = m * i.size := by rw [← hnl2.1, hnm]
                have hsub : y.sub o (n * i.size) = some (y.row.drop o) := by
                  cases y with
                  | cells r e cs =>
                    simp only [Blk.row] at hyl
                    simp only [Blk.sub, Blk.row]
                    rw [if_pos (by omega), List.take_of_length_le (by simp; omega)]
                  | ints r k xs =>
                    simp only [Blk.row, List.length_map] at hyl
                    simp only [Blk.sub, Blk.row]
                    rw [if_pos (by omega), List.take_of_length_le (by simp; omega), List.map_drop]
                  | map es => cases h
                  | iter s p => cases h
                have hold : ∃ old, (Builtin.firstCells i.size n (.slice (some a') n c')).run P { w with drawn := w.drawn + 1 } = .ok old.toArray { w with drawn := w.drawn + 1 } ∧ LR μ (y.row.drop o) old := by
                  rcases hc2 with hc2 | ⟨rfl, hc2⟩
                  · have h1 : n = 0 := by omega
                    subst h1
                    refine ⟨[], by simp [Builtin.firstCells, loadCells, loadCellsFrom], ?_⟩
                    rw [List.drop_of_length_le (by omega)]
                    exact LR.nil μ
                  · obtain ⟨old, d1, d2, _⟩ := hR'.cells hb hsub hi2
                    exact ⟨old, by simpa [Builtin.firstCells] using d1, d2⟩
                obtain ⟨old, hold1, hold2⟩ := hold
                have hrun := hgrow ty (some a') n c' old (by omega) hby h62 hold1
                have hge := grownCap_ge w (n + m) c' elem
                have hol : old.length = n * i.size := by rw [← hold2.1, List.length_drop, hyl]; omega
                have hsize : (old.toArray ++ news2.toArray ++ Builtin.zeroCells z.cells (grownCap w (n + m) c' elem - (n + m))).size = grownCap w (n + m) c' elem * i.size := by
                  simp [Builtin.zeroCells, hzc, hlen', hol, ← Nat.add_mul]; congr 1; omega
                have hrel := hR'.moveNew b (x := y') (C := old.toArray ++ news2.toArray ++ Builtin.zeroCells z.cells (grownCap w (n + m) c' elem - (n + m))) elem hy'i
                  (by
                    rw [hy'r, hsize, List.length_append, List.length_drop, hyl, hnm]
                    have hmul := Nat.mul_le_mul_right i.size hge
                    rw [Nat.add_mul] at hmul
                    omega) (fun k v hk => by
                    rw [hy'r] at hk
                    have hll := hold2.append hnl2
                    obtain ⟨v', d1, d2⟩ := hll.at_ hk
                    refine ⟨v', ?_, d2⟩
                    have hkl := (List.getElem?_eq_some_iff.1 d1).1
                    rw [Array.getElem?_append_left (by simpa using hkl)]
                    simpa using d1)
                refine ⟨_, _, _, hrun, Ext.snoc μ _, ?_, hrel⟩
                exact VR.sl (last_info hR' _) hge (.inr ⟨by simp, by rw [hy'e]; simp only [hsize]; simp⟩)
        · cases h

end
end Go.Lite
