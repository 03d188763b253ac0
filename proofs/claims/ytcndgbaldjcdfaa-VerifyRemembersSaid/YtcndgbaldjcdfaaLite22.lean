/- Lite, part 22: bytes that are put behind one another. -/
import Derived.Test.YtcndgbaldjcdfaaLite21
namespace Go.Lite
open Go
set_option linter.unusedSimpArgs false
set_option linter.unusedVariables false

section
variable {P : Program}

theorem Hp.le.new' {A H : Hp} (h : A.le H) (hw : A.wf) (x : Blk) : A.le (H.new x) :=
  ⟨Nat.le_succ_of_le h.n, h.g, fun b y hb => by
    have := hw b y hb
    have := h.n
    exact (new_other x (by omega)).trans (h.f b y hb)⟩
theorem Hp.le.set' {A H : Hp} (h : A.le H) (hw : A.wf) {b : Nat} (hb : A.n ≤ b) (x : Blk) : A.le (H.set b x) :=
  ⟨h.n, h.g, fun c y hc => by
    have := hw c y hc
    exact (set_other x (by omega)).trans (h.f c y hc)⟩
theorem move_self (H : Hp) (b : Nat) (x : Blk) : (H.move b x).f H.n = some x := by simp [Hp.move, upd]
theorem move_other {H : Hp} {b c : Nat} (x : Blk) (h1 : c ≠ b) (h2 : c ≠ H.n) : (H.move b x).f c = H.f c := by simp [Hp.move, upd, h1, h2]
theorem Hp.le.move' {A H : Hp} (h : A.le H) (hw : A.wf) {b : Nat} (hb : A.n ≤ b) (x : Blk) : A.le (H.move b x) :=
  ⟨Nat.le_succ_of_le h.n, h.g, fun c y hc => by
    have := hw c y hc
    have := h.n
    exact (move_other x (by omega) (by omega)).trans (h.f c y hc)⟩

theorem new_n (H : Hp) (x : Blk) : (H.new x).n = H.n + 1 := rfl
theorem set_n (H : Hp) (b : Nat) (x : Blk) : (H.set b x).n = H.n := rfl
theorem move_n (H : Hp) (b : Nat) (x : Blk) : (H.move b x).n = H.n + 1 := rfl
/-- A slice type of bytes. -/
def byteT (P : Program) (t : TypeId) : Bool := match P.underlying t with
  | some (.slice e) => match P.info? e, lzero P e, intT P e with
    | some i, some (.int .u8 0), some .u8 => Nat.beq i.size 1 && Nat.beq i.bytes 1
    | _, _, _ => false
  | _ => false
structure ByteT (P : Program) (t e : TypeId) (i : TypeInfo) : Prop where
  u : P.underlying t = some (.slice e)
  info : P.info? e = some i
  zero : lzero P e = some (.int .u8 0)
  int : intT P e = some .u8
  size : i.size = 1
  bytes : i.bytes = 1
theorem byteT_spec {t : TypeId} (h : byteT P t = true) : ∃ e i, ByteT P t e i := by
  unfold byteT at h
  split at h
  · rename_i e he
    split at h
    · rename_i i h1 h2 h3
      simp only [Bool.and_eq_true] at h
      exact ⟨e, i, he, h1, h2, h3, Nat.eq_of_beq_eq_true h.1, Nat.eq_of_beq_eq_true h.2⟩
    · cases h
  · cases h
theorem toInts_map (k : IntKind) : ∀ ys : List Int, toInts k (ys.map (.int k)) = some ys
  | [] => rfl
  | y :: r => by simp [toInts, toInts_map k r]

theorem slCells_bytes {H : Hp} {b o m c : Nat} {r : Bool} {ys : List Int} (hb : H.f b = some (.ints r .u8 ys)) (hm : o + m ≤ ys.length) : slCells H 1 (.slice (some ⟨b, o, none⟩) m c) = some (((ys.drop o).take m).map (.int .u8)) := by
  simp only [slCells]
  split
  · rename_i h0; subst h0; simp
  · simp [hb, Blk.esz, Blk.sub, hm]
theorem all_one (k : IntKind) (ys : List Int) : (ys.map (Value.int k)).all isOne = true := by
  simp [List.all_eq_true, isOne]
/-- Bytes put behind bytes. -/
theorem lappend_bytes {t t2 : TypeId} {H : Hp} {b n c b2 o2 m c2 : Nat} {r : Bool} {xs ys : List Int} (ht : byteT P t = true) (hi : intOrNone P t2 = false) (hb : H.f b = some (.ints true .u8 xs)) (hn : xs.length = n)
    (h2 : H.f b2 = some (.ints r .u8 ys)) (hm : o2 + m ≤ ys.length) (hmax : n + m ≤ 140737488355328) :
    lbuiltin P .append [t, t2] [.slice (some ⟨b, 0, none⟩) n c, .slice (some ⟨b2, o2, none⟩) m c2] H = some (.val (.slice (some ⟨H.n, 0, none⟩) (n + m) (n + m)) (H.move b (.ints true .u8 (xs ++ (ys.drop o2).take m)))) := by
  obtain ⟨e, i, hB⟩ := byteT_spec ht
  have h4 : (n + m ≤ 140737488355328 ∧ n + m ≤ 4611686018427387904) := by omega
  have hs := slCells_bytes (c := c2) h2 hm
  generalize (ys.drop o2).take m = zs at hs ⊢
  have ho := all_one .u8 zs
  have hz := toInts_map .u8 zs
  generalize zs.map (Value.int .u8) = vs at hs ho hz
  simp [lbuiltin, lappend, hB.u, hB.info, hB.zero, hi, hB.size, hB.bytes, appSrc, hs, cellsOf, h4, hb, Blk.rw, Blk.esz, Blk.len, hn, hz, ho]
  exact List.all_eq_true.1 ho
theorem lappend_str {t t2 : TypeId} {H : Hp} {b n c : Nat} {xs : List Int} {l : List UInt8} (ht : byteT P t = true) (hi : intOrNone P t2 = false) (hb : H.f b = some (.ints true .u8 xs)) (hn : xs.length = n)
    (hmax : n + l.length ≤ 140737488355328) :
    lbuiltin P .append [t, t2] [.slice (some ⟨b, 0, none⟩) n c, S l] H = some (.val (.slice (some ⟨H.n, 0, none⟩) (n + l.length) (n + l.length)) (H.move b (.ints true .u8 (xs ++ l.map fun c => (c.toNat : Int))))) := by
  obtain ⟨e, i, hB⟩ := byteT_spec ht
  have h4 : (n + l.length ≤ 140737488355328 ∧ n + l.length ≤ 4611686018427387904) := by omega
  have h5 : toInts .u8 (l.map fun c => Value.int .u8 (c.toNat : Int)) = some (l.map fun c => (c.toNat : Int)) := by
    have := toInts_map .u8 (l.map fun c => (c.toNat : Int))
    rwa [List.map_map] at this
  simp [lbuiltin, lappend, hB.u, hB.info, hB.zero, hi, hB.size, hB.bytes, appSrc, S, ByteArray.size, cellsOf, h4, hb, Blk.rw, Blk.esz, Blk.len, hn, h5, isOne]
/-- The first bytes. -/
theorem lappend_bytes0 {t t2 : TypeId} {H : Hp} {c b2 o2 m c2 : Nat} {r : Bool} {ys : List Int} (ht : byteT P t = true) (hi : intOrNone P t2 = false)
    (h2 : H.f b2 = some (.ints r .u8 ys)) (hm : o2 + m ≤ ys.length) (h0 : 0 < m) (hmax : m ≤ 140737488355328) :
    lbuiltin P .append [t, t2] [.slice none 0 c, .slice (some ⟨b2, o2, none⟩) m c2] H = some (.val (.slice (some ⟨H.n, 0, none⟩) m m) (H.new (.ints true .u8 ((ys.drop o2).take m)))) := by
  obtain ⟨e, i, hB⟩ := byteT_spec ht
  have h4 : (m ≤ 140737488355328 ∧ m ≤ 4611686018427387904) := by omega
  have h5 : m ≠ 0 := by omega
  have hs := slCells_bytes (c := c2) h2 hm
  generalize (ys.drop o2).take m = zs at hs ⊢
  have ho := all_one .u8 zs
  have hz := toInts_map .u8 zs
  generalize zs.map (Value.int .u8) = vs at hs ho hz
  simp [lbuiltin, lappend, hB.u, hB.info, hB.zero, hi, hB.size, hB.bytes, appSrc, hs, cellsOf, h4, h5, mkRow, hB.int, hz, lnew]
  exact List.all_eq_true.1 ho
/-- A slice of one byte, of two. -/
theorem lbuildSlice_1 {t : TypeId} {H : Hp} {x : Int} (ht : byteT P t = true) : lbuildSlice P t 1 [(0, .int .u8 x)] H = some (.val (.slice (some ⟨H.n, 0, none⟩) 1 1) (H.new (.ints true .u8 [x]))) := by
  obtain ⟨e, i, hB⟩ := byteT_spec ht
  simp [lbuildSlice, hB.u, szT, hB.info, hB.size, hB.zero, cellsOf, lzeros, lfill, mkRow, hB.int, toInts, lnew]
theorem lbuildSlice_2 {t : TypeId} {H : Hp} {x y : Int} (ht : byteT P t = true) : lbuildSlice P t 2 [(0, .int .u8 x), (1, .int .u8 y)] H = some (.val (.slice (some ⟨H.n, 0, none⟩) 2 2) (H.new (.ints true .u8 [x, y]))) := by
  obtain ⟨e, i, hB⟩ := byteT_spec ht
  simp [lbuildSlice, hB.u, szT, hB.info, hB.size, hB.zero, cellsOf, lzeros, lfill, mkRow, hB.int, toInts, lnew]
end
end Go.Lite
